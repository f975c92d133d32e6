/- What slices read as, and the numbers that rows of words are. No program is in sight. The walk's laws for rows of numbers that the call itself makes, in this seat's own words. Over any program. Numbers as rows of words and half-words. Plain. Digits of numbers and their texts. Plain. Two words divided by one, in two steps of half-words. Plain. What the shifts of a division make of its words. Plain. Trimming and copying rows of words. The reference's rows of half-words: Short, digit, Digits. The reference's numbers: Row, Cut, nat, Trim, Word, FromWord. The reference's numbers: nat, Trim, Word, FromWord. The reference's sums. The reference's products. The reference's quotients by one half-word. The reference's numbers: DivMod by one digit, Add, Mul. The reference's comparisons: Compare, Cmp, Same, Canonical, Is. The reference's digits and strings. The reference's strings: Format, Pad, Group. The reference's strings: Pad, Group. The reference's groups. -/
import Derived.Below
import Derived.OwnWalk
import Derived.WalkSmall
import Derived.Lib.Hide
import Derived.Laws.AppendOwnNone
import Derived.Lib.LazyBuf
import Derived.Maps.AppendAt
import Derived.Laws.BytesArg
import Derived.Laws.Bits64b
import Derived.Lib.BitFns
import Derived.IntWalk
import Derived.Test.YtlmbklpidmkdcaaGreatDoorProg
import Derived.LoopTactic
import Derived.WalkKit
import Derived.WalkSpells
import Derived.Outline
import Derived.StillTailTactics
import Derived.Deep.QuietTactic
import Derived.BigQuiet
import Derived.Deep.RegionLaw
import Derived.Deep.RegionHeld3
import Derived.Deep.LoopGhost
import Derived.Lib.ConvBytes
import Derived.Lib.AppendStr
namespace Go.Proofs.YtlmbklpidmkdcaaGreatDoor
open Go.RowKit

/-! ### slices -/
/-- The value v is a slice that reads as xs. -/
def SI (w : World) (k : IntKind) (v : Value) (xs : List Int) : Prop :=
  ∃ A c, v = .slice A xs.length c ∧ (xs.length ≤ c ∧ (A = none → c = 0)) ∧ ∀ j, j < xs.length → ∃ ad, A = some ad ∧ w.cell? (ad.add j) = some (.int k (xs.getD j 0))

theorem add_block (a : Addr) (n : Nat) : (a.add n).block = a.block := by unfold Addr.add; split <;> rfl
theorem add_succ (a : Addr) (n : Nat) : a.add (n + 1) = ⟨a.block, a.off + (n + 1), none⟩ := by unfold Addr.add; simp
theorem add_zero (a : Addr) : a.add 0 = a := by unfold Addr.add; simp
theorem add_plain (g j : Nat) : (⟨g, 0, none⟩ : Addr).add j = ⟨g, j, none⟩ := by unfold Addr.add; split <;> simp_all

theorem SI.below {w w1 : World} {k : IntKind} {v : Value} {xs : List Int} (h : SI w k v xs) (hb : Below w.heap.size w w1) : SI w1 k v xs := by
  obtain ⟨A, c, hv, hc, hr⟩ := h
  refine ⟨A, c, hv, hc, fun j hj => ?_⟩
  obtain ⟨ad, e, hcell⟩ := hr j hj
  exact ⟨ad, e, (hb.cell (World.block_lt_of_cell? w _ hcell)).trans hcell⟩
theorem SI.drew {w : World} {k : IntKind} {v : Value} {xs : List Int} (h : SI w k v xs) : SI w.drew k v xs := h
theorem SI.alloc {w : World} {k : IntKind} {v : Value} {xs : List Int} (h : SI w k v xs) (o : Obj) : SI (w.alloc o) k v xs :=
  h.below ((Below.refl _ w).alloc (Nat.le_refl _) o)
theorem SI.nil (w : World) (k : IntKind) : SI w k (.slice none 0 0) [] := ⟨none, 0, rfl, ⟨by simp, fun _ => rfl⟩, fun j hj => absurd hj (by simp)⟩
/-- What is owned reads. -/
theorem SI.own {w : World} {base e n : Nat} {k : IntKind} {v : Value} {xs : List Int} (h : w.ownsRow base e 1 v n (xs.map (Value.int k))) : SI w k v xs := by
  have hl : xs.length = n := by have := h.1; simpa using this
  rcases h.2 with ⟨rfl, h0⟩ | ⟨g, cap, cur, rfl, _, _, hcap, _⟩
  · subst hl
    have : xs = [] := List.eq_nil_of_length_eq_zero h0
    subst this
    exact SI.nil w k
  · subst hl
    refine ⟨_, cap, rfl, ⟨hcap, fun h => by cases h⟩, fun j hj => ⟨_, rfl, h.cells (g := g) rfl j _ ?_⟩⟩
    simp [List.getElem?_eq_getElem hj]
/-- The part up to m. -/
theorem SI.take {w : World} {k : IntKind} {A : Option Addr} {n c : Nat} {xs : List Int} (h : SI w k (.slice A n c) xs) (m : Nat) (hm : m ≤ xs.length) : SI w k (.slice A m c) (xs.take m) := by
  obtain ⟨A', c', hv, hc, hr⟩ := h
  injection hv with h1 h2 h3
  subst h1; subst h2; subst h3
  have hl : (xs.take m).length = m := by simp; omega
  refine ⟨A, c, by rw [hl], ⟨by have := hc.1; omega, hc.2⟩, fun j hj => ?_⟩
  obtain ⟨ad, e, hcell⟩ := hr j (by omega)
  refine ⟨ad, e, ?_⟩
  rw [hcell]
  simp only [List.getD_eq_getElem?_getD]
  rw [List.getElem?_take_of_lt (by omega)]
/-- The shape, and each cell, in the walk's own spelling. -/
theorem SI.form {w : World} {k : IntKind} {v : Value} {xs : List Int} (h : SI w k v xs) : ∃ A c, v = .slice A xs.length c ∧ xs.length ≤ c ∧
    (∀ j, j < xs.length → ∃ ad, A = some ad ∧ w.cell? (ad.add j) = some (.int k (xs[j]?.getD 0))) := by
  obtain ⟨A, c, hv, hc, hr⟩ := h
  exact ⟨A, c, hv, hc.1, fun j hj => by have := hr j hj; simpa [List.getD_eq_getElem?_getD] using this⟩

/-- An owned row of numbers. -/
def Own (B e : Nat) (w : World) (k : IntKind) (v : Value) (xs : List Int) : Prop := w.ownsRow B e 1 v xs.length (xs.map (Value.int k))
theorem Own.si {B e : Nat} {w : World} {k : IntKind} {v : Value} {xs : List Int} (h : Own B e w k v xs) : SI w k v xs := SI.own h
theorem Own.nil (B e : Nat) (w : World) (k : IntKind) : Own B e w k (.slice none 0 0) [] := World.ownsRow_nil w B e 1
theorem Own.snoc {B e : Nat} {w : World} {k : IntKind} {v : Value} {xs : List Int} {x : Int} (h : w.ownsRow B e 1 v (xs.length + 1) (xs.map (Value.int k) ++ [.int k x])) : Own B e w k v (xs ++ [x]) := by
  unfold Own
  simpa using h
theorem Own.app {B e : Nat} {w : World} {k : IntKind} {v : Value} {xs ys : List Int} (h : w.ownsRow B e 1 v (xs.length + ys.length) (xs.map (Value.int k) ++ ys.map (Value.int k))) : Own B e w k v (xs ++ ys) := by
  unfold Own
  simpa using h

/-! ### numbers -/
/-- Whole numbers of a kind's range. -/
def U64 (xs : List Int) : Prop := ∀ j, j < xs.length → 0 ≤ xs[j]?.getD 0 ∧ xs[j]?.getD 0 < 18446744073709551616
def U32 (xs : List Int) : Prop := ∀ j, j < xs.length → 0 ≤ xs[j]?.getD 0 ∧ xs[j]?.getD 0 < 4294967296
/-- The value of digits of a base, the lowest first. -/
def val (b : Nat) : List Int → Nat
  | [] => 0
  | x :: xs => x.toNat + b * val b xs
theorem val_nil (b : Nat) : val b [] = 0 := rfl
theorem val_cons (b : Nat) (x : Int) (xs : List Int) : val b (x :: xs) = x.toNat + b * val b xs := rfl
theorem val_append (b : Nat) (xs ys : List Int) : val b (xs ++ ys) = val b xs + b ^ xs.length * val b ys := by
  induction xs with
  | nil => simp [val]
  | cons x xs ih => simp only [List.cons_append, val, ih, List.length_cons, Nat.pow_succ]; grind
theorem val_snoc (b : Nat) (xs : List Int) (x : Int) : val b (xs ++ [x]) = val b xs + b ^ xs.length * x.toNat := by
  rw [val_append]; simp [val]
theorem U64.app {xs ys : List Int} (h : U64 xs) (k : U64 ys) : U64 (xs ++ ys) := by
  intro j hj
  rw [List.getElem?_append]
  simp only [List.length_append] at hj
  split
  · exact h j (by assumption)
  · exact k _ (by omega)
theorem U64.one {x : Int} (h0 : 0 ≤ x) (h1 : x < 18446744073709551616) : U64 [x] := by
  intro j hj
  have : j = 0 := by simpa using hj
  subst this
  exact ⟨h0, h1⟩
theorem U64.nil : U64 [] := fun j hj => absurd hj (by simp)
theorem U32.app {xs ys : List Int} (h : U32 xs) (k : U32 ys) : U32 (xs ++ ys) := by
  intro j hj
  rw [List.getElem?_append]
  simp only [List.length_append] at hj
  split
  · exact h j (by assumption)
  · exact k _ (by omega)
theorem U32.one {x : Int} (h0 : 0 ≤ x) (h1 : x < 4294967296) : U32 [x] := by
  intro j hj
  have : j = 0 := by simpa using hj
  subst this
  exact ⟨h0, h1⟩
theorem U32.nil : U32 [] := fun j hj => absurd hj (by simp)
theorem U64.cons {x : Int} {xs : List Int} (h : U64 (x :: xs)) : (0 ≤ x ∧ x < 18446744073709551616) ∧ U64 xs := by
  refine ⟨by have := h 0 (by simp); simpa using this, fun j hj => ?_⟩
  have := h (j + 1) (by simpa using hj)
  simpa using this
theorem U32.cons {x : Int} {xs : List Int} (h : U32 (x :: xs)) : (0 ≤ x ∧ x < 4294967296) ∧ U32 xs := by
  refine ⟨by have := h 0 (by simp); simpa using this, fun j hj => ?_⟩
  have := h (j + 1) (by simpa using hj)
  simpa using this
theorem U64.take {xs : List Int} (h : U64 xs) (m : Nat) : U64 (xs.take m) := by
  intro j hj
  have hj' : j < m ∧ j < xs.length := by simp at hj; omega
  rw [List.getElem?_take_of_lt hj'.1]
  exact h j hj'.2
theorem U32.take {xs : List Int} (h : U32 xs) (m : Nat) : U32 (xs.take m) := by
  intro j hj
  have hj' : j < m ∧ j < xs.length := by simp at hj; omega
  rw [List.getElem?_take_of_lt hj'.1]
  exact h j hj'.2
theorem take_succ {xs : List Int} {k : Nat} (h : k < xs.length) : xs.take (k + 1) = xs.take k ++ [xs[k]?.getD 0] := by
  rw [List.take_succ_eq_append_getElem h]
  simp [List.getElem?_eq_getElem h]

/-- The length without the zeros at the end. -/
def tlen (xs : List Int) : Nat → Nat
  | 0 => 0
  | n + 1 => if xs[n]?.getD 0 = 0 then tlen xs n else n + 1
theorem tlen_le (xs : List Int) (n : Nat) : tlen xs n ≤ n := by
  induction n with
  | zero => simp [tlen]
  | succ n ih => unfold tlen; split <;> omega
theorem tlen_zero (xs : List Int) (n : Nat) : ∀ j, tlen xs n ≤ j → j < n → xs[j]?.getD 0 = 0 := by
  induction n with
  | zero => intro j _ h; omega
  | succ n ih =>
    intro j h1 h2
    unfold tlen at h1
    split at h1
    · rename_i hz
      by_cases e : j = n
      · subst e; exact hz
      · exact ih j h1 (by omega)
    · omega
theorem tlen_top (xs : List Int) (n : Nat) (h : 0 < tlen xs n) : xs[tlen xs n - 1]?.getD 0 ≠ 0 := by
  induction n with
  | zero => simp [tlen] at h
  | succ n ih =>
    unfold tlen at h ⊢
    split
    · rename_i hz; rw [if_pos hz] at h; exact ih h
    · rename_i hz; simpa using hz
/-- Canonical words. -/
def Canon (xs : List Int) : Prop := xs ≠ [] → xs[xs.length - 1]?.getD 0 ≠ 0
/-- xs without the zeros at its end. -/
def cut (xs : List Int) : List Int := xs.take (tlen xs xs.length)
theorem cut_length (xs : List Int) : (cut xs).length = tlen xs xs.length := by
  unfold cut; rw [List.length_take]; have := tlen_le xs xs.length; omega
theorem cut_canon (xs : List Int) : Canon (cut xs) := by
  intro h
  have hl := cut_length xs
  have hp : 0 < tlen xs xs.length := by
    rw [← hl]; exact List.length_pos_iff.2 h
  rw [hl]
  unfold cut
  rw [List.getElem?_take_of_lt (by omega)]
  exact tlen_top xs _ hp
theorem val_zeros (b : Nat) (xs : List Int) (h : ∀ j, j < xs.length → xs[j]?.getD 0 = 0) : val b xs = 0 := by
  induction xs with
  | nil => rfl
  | cons x xs ih =>
    have h0 := h 0 (by simp)
    simp at h0
    subst h0
    rw [val_cons, ih (fun j hj => by have := h (j + 1) (by simpa using hj); simpa using this)]
    simp
theorem cut_val (b : Nat) (xs : List Int) : val b (cut xs) = val b xs := by
  have h : xs = cut xs ++ xs.drop (tlen xs xs.length) := by unfold cut; rw [List.take_append_drop]
  have hz : val b (xs.drop (tlen xs xs.length)) = 0 := by
    refine val_zeros b _ fun j hj => ?_
    rw [List.getElem?_drop]
    exact tlen_zero xs xs.length _ (by omega) (by simp at hj; omega)
  have h2 := val_append b (cut xs) (xs.drop (tlen xs xs.length))
  rw [← h, hz] at h2
  simpa using h2.symm
/-- Digits below the base: their value is below the base to the power of their number. -/
theorem val_lt (b : Nat) (hb : 0 < b) (xs : List Int) (h : ∀ x ∈ xs, x.toNat < b) : val b xs < b ^ xs.length := by
  induction xs with
  | nil => simp [val]
  | cons x xs ih =>
    have h1 := ih (fun y hy => h y (List.mem_cons_of_mem _ hy))
    have h2 := h x (List.mem_cons_self)
    rw [val_cons, List.length_cons, Nat.pow_succ]
    have h3 : b * (val b xs + 1) ≤ b * b ^ xs.length := Nat.mul_le_mul_left b h1
    rw [Nat.mul_comm (b ^ xs.length) b]
    rw [Nat.mul_add] at h3
    omega
/-- Same number of digits, same value: the same digits. -/
theorem val_inj (b : Nat) : ∀ (xs ys : List Int), xs.length = ys.length → (∀ x ∈ xs, 0 ≤ x ∧ x.toNat < b) → (∀ y ∈ ys, 0 ≤ y ∧ y.toNat < b) → val b xs = val b ys → xs = ys
  | [], [], _, _, _, _ => rfl
  | [], _ :: _, h, _, _, _ => by simp at h
  | _ :: _, [], h, _, _, _ => by simp at h
  | x :: xs, y :: ys, hl, hx, hy, hv => by
    have x1 := hx x (List.mem_cons_self)
    have y1 := hy y (List.mem_cons_self)
    rw [val_cons, val_cons] at hv
    have hm : x.toNat = y.toNat := by
      have e1 : (x.toNat + b * val b xs) % b = x.toNat := by rw [Nat.add_mul_mod_self_left, Nat.mod_eq_of_lt x1.2]
      have e2 : (y.toNat + b * val b ys) % b = y.toNat := by rw [Nat.add_mul_mod_self_left, Nat.mod_eq_of_lt y1.2]
      rw [hv, e2] at e1
      exact e1.symm
    have hr : val b xs = val b ys := by
      have : b * val b xs = b * val b ys := by omega
      exact Nat.eq_of_mul_eq_mul_left (by omega) this
    rw [show x = y by omega, val_inj b xs ys (by simpa using hl) (fun z hz => hx z (List.mem_cons_of_mem _ hz)) (fun z hz => hy z (List.mem_cons_of_mem _ hz)) hr]
end Go.Proofs.YtlmbklpidmkdcaaGreatDoor
namespace Go.Proofs.YtlmbklpidmkdcaaGreatDoor
open Go.RowKit

section
variable {P : Program}
theorem SI.news {w : World} {k : IntKind} {ad : Addr} {n c : Nat} {ys : List Int} (h : SI w k (.slice (some ad) n c) ys) : n = ys.length ∧ ∀ j u, (ys.map (Value.int k))[j]? = some u → w.cell? (ad.add j) = some u := by
  obtain ⟨A, c', hv, _, hr⟩ := h
  injection hv with h1 h2 h3
  subst h2
  refine ⟨rfl, fun j u hu => ?_⟩
  have hj : j < ys.length := by
    have := (List.getElem?_eq_some_iff.1 hu).1
    simpa using this
  obtain ⟨ad', e, hc⟩ := hr j hj
  rw [← h1] at e
  injection e with e
  subst e
  rw [hc]
  rw [List.getElem?_map, List.getElem?_eq_getElem hj] at hu
  simp [List.getElem?_eq_getElem hj] at hu ⊢
  exact hu
theorem SI.none_nil {w : World} {k : IntKind} {n c : Nat} {ys : List Int} (h : SI w k (.slice none n c) ys) : n = 0 ∧ c = 0 ∧ ys = [] := by
  obtain ⟨A, c', hv, hz, hr⟩ := h
  injection hv with h1 h2 h3
  cases ys with
  | nil => exact ⟨h2, h3.trans (hz.2 h1.symm), rfl⟩
  | cons y ys =>
    obtain ⟨ad, e, _⟩ := hr 0 (by simp)
    rw [← h1] at e
    cases e
theorem SI.one (w : World) (k : IntKind) (x : Int) (e : TypeId) : SI (w.alloc (.cells #[.int k x] e)) k (.slice (some ⟨w.heap.size, 0, none⟩) 1 1) [x] := by
  refine ⟨_, 1, rfl, ⟨by simp, fun h => by cases h⟩, fun j hj => ⟨_, rfl, ?_⟩⟩
  have : j = 0 := by simpa using hj
  subst this
  rw [add_plain]
  unfold World.cell?; simp only [heap_alloc_new]
  rfl
theorem SI.two (w : World) (k : IntKind) (x y : Int) (e : TypeId) : SI (w.alloc (.cells #[.int k x, .int k y] e)) k (.slice (some ⟨w.heap.size, 0, none⟩) 2 2) [x, y] := by
  refine ⟨_, 2, rfl, ⟨by simp, fun h => by cases h⟩, fun j hj => ⟨_, rfl, ?_⟩⟩
  have : j = 0 ∨ j = 1 := by simp at hj; omega
  rcases this with rfl | rfl
  · rw [add_plain]
    unfold World.cell?
    simp only [heap_alloc_new]
    rfl
  · rw [add_plain]
    unfold World.cell?
    simp only [heap_alloc_new]
    rfl
theorem ints_one (k : IntKind) (ys : List Int) : ∀ u ∈ ys.map (Value.int k), u.oneCell' = true := by
  intro u hu
  obtain ⟨x, _, rfl⟩ := List.mem_map.1 hu
  rfl
theorem Own.alloc {B e : Nat} {w : World} {k : IntKind} {v : Value} {xs : List Int} (h : Own B e w k v xs) (o : Obj) : Own B e (w.alloc o) k v xs := World.ownsRow.alloc h o
theorem Own.below {B e : Nat} {w w1 : World} {k : IntKind} {v : Value} {xs : List Int} (h : Own B e w k v xs) (hb : Below w.heap.size w w1) : Own B e w1 k v xs := by
  refine World.ownsRow.kept h (row := none) ⟨hb.os, hb.tape, hb.output, hb.size, fun i hi _ => hb.block i hi⟩ ?_
  cases v.ownBlock <;> simp
theorem Own.base {B B' e : Nat} {w : World} {k : IntKind} {v : Value} {xs : List Int} (h : Own B e w k v xs) (hB : B' ≤ B) : Own B' e w k v xs := by
  obtain ⟨h1, h2⟩ := h
  refine ⟨h1, ?_⟩
  rcases h2 with h2 | ⟨g, cap, cur, hv, hg, r⟩
  · exact .inl h2
  · exact .inr ⟨g, cap, cur, hv, Nat.le_trans hB hg, r⟩
theorem Own.slice {B e : Nat} {w : World} {k : IntKind} {v : Value} {xs : List Int} (h : Own B e w k v xs) : ∃ A c, v = .slice A xs.length c ∧ xs.length ≤ c := by
  obtain ⟨A, c, hv, hc, _⟩ := h.si
  exact ⟨A, c, hv, hc.1⟩

/-- What reads as xs does not lie in o's block. -/
def Apart (o x : Value) (xs : List Int) : Prop := xs = [] ∨ x.ownBlock ≠ o.ownBlock
theorem SI.block {w : World} {k : IntKind} {x : Value} {xs : List Int} (h : SI w k x xs) (hne : xs ≠ []) : ∃ g, x.ownBlock = some g ∧ g < w.heap.size := by
  obtain ⟨A, c, rfl, _, hr⟩ := h
  obtain ⟨ad, e, hc⟩ := hr 0 (List.length_pos_iff.2 hne)
  subst e
  refine ⟨ad.block, rfl, ?_⟩
  have := World.block_lt_of_cell? w _ hc
  rwa [add_block] at this
theorem SI.grown {w w1 : World} {row : Option Nat} {k : IntKind} {x : Value} {xs : List Int} (h : SI w k x xs) (hg : w.grownBy w1 row) (hne : xs = [] ∨ x.ownBlock ≠ row) : SI w1 k x xs := by
  obtain ⟨A, c, hv, hc, hr⟩ := h
  refine ⟨A, c, hv, hc, fun j hj => ?_⟩
  obtain ⟨ad, e, hcell⟩ := hr j hj
  refine ⟨ad, e, hg.cell hcell ?_⟩
  rcases hne with h0 | h0
  · subst h0; simp at hj
  · subst hv; subst e
    rw [add_block]
    exact h0
theorem Apart.nil (x : Value) (xs : List Int) {w : World} {k : IntKind} (h : SI w k x xs) : Apart (.slice none 0 0) x xs := by
  by_cases h0 : xs = []
  · exact .inl h0
  · obtain ⟨g, e, _⟩ := h.block h0
    exact .inr (by rw [e]; simp [Value.ownBlock])
/-- What was made later lies apart. -/
theorem Apart.later {B B' e e' : Nat} {w w' : World} {k k' : IntKind} {o x : Value} {os xs : List Int} (h : Own B e w k o os) (h' : Own B' e' w' k' x xs) (hB : w.heap.size ≤ B') : Apart o x xs := by
  by_cases h0 : xs = []
  · exact .inl h0
  · right
    obtain ⟨g, cap, rfl, hg, _⟩ : ∃ g cap, x = .slice (some ⟨g, 0, none⟩) xs.length cap ∧ B' ≤ g ∧ True := by
      rcases h'.2 with ⟨_, h1⟩ | ⟨g, cap, cur, hv, hg, _⟩
      · exact absurd (List.eq_nil_of_length_eq_zero h1) h0
      · exact ⟨g, cap, hv, hg, trivial⟩
    intro e1
    have := (World.ownsRow.lt h g (e1.symm.trans rfl |>.symm ▸ e1.symm)).2
    omega
/-- What lay there before the call began lies apart from what the call owns. -/
theorem Apart.old {B e : Nat} {w w0 : World} {k k' : IntKind} {o x : Value} {os xs : List Int} (h : Own B e w k o os) (h' : SI w0 k' x xs) (hB : w0.heap.size ≤ B) : Apart o x xs := by
  by_cases h0 : xs = []
  · exact .inl h0
  · right
    obtain ⟨g, e1, hg⟩ := h'.block h0
    intro e2
    have := (World.ownsRow.lt h g (e2.symm.trans e1)).1
    omega
/-- From w to w', v having become v', whatever lies apart from v reads as it did, and lies apart from v'. -/
def Moved (w w' : World) (v v' : Value) : Prop := ∀ (k : IntKind) (x : Value) (xs : List Int), SI w k x xs → Apart v x xs → SI w' k x xs ∧ Apart v' x xs
theorem Moved.of {w w' : World} {v v' : Value} (hg : w.grownBy w' v.ownBlock) (hat : v'.ownBlock = v.ownBlock ∨ v'.ownBlock = some w.heap.size) : Moved w w' v v' := by
  intro k x xs h ha
  refine ⟨h.grown hg ha, ?_⟩
  rcases hat with e | e
  · unfold Apart at ha ⊢; rw [e]; exact ha
  · by_cases h0 : xs = []
    · exact .inl h0
    · right
      obtain ⟨g, e1, hlt⟩ := h.block h0
      rw [e, e1]
      intro e2
      injection e2 with e2
      omega
theorem Moved.refl (w : World) (v : Value) : Moved w w v v := fun _ _ _ h ha => ⟨h, ha⟩

/-- 'append(out, ys...)' at an operation, out the call's own. -/
theorem wp_app {w W0 : World} {o : Oper} {a : Act} {K : Act → World → Prop} {Q : Exit → Act → World → Prop} (s x : Operand) (t : TypeId)
    (ho : o.op = .call { callee := .builtin .append, args := #[s, x], argTypes := #[t, t] })
    (B e bytes : Nat) (k : IntKind) (ht : P.underlying t = some (.slice e)) (hinfo : (P.info? e).map (fun i => (i.zero, i.size, i.bytes)) = some (some (.int k 0), 1, bytes))
    (v u : Value) (xs ys : List Int) (hs : a.eval s = v) (hx : a.eval x = u) (hown : Own B e w k v xs) (hu : SI w k u ys)
    (h63 : xs.length + ys.length ≤ 1099511627776) (hbytes : bytes ≤ 16) (hB : Below B W0 w) (hBw : B ≤ w.heap.size)
    (hK : ∀ v' w', Own B e w' k v' (xs ++ ys) → Below B W0 w' → Moved w w' v v' → w.heap.size ≤ w'.heap.size → K (a.put o.dst v') w') : o.wp P a w K Q := by
  obtain ⟨i, hi, hz, hsz, hby⟩ := info_parts hinfo
  have hbl : ∀ j, v.ownBlock = some j → B ≤ j := fun j hj => (World.ownsRow.lt hown j hj).1
  cases hA : u with
  | slice A n c =>
    rw [hA] at hu hx
    cases A with
    | none =>
      obtain ⟨h0, hc0, rfl⟩ := hu.none_nil
      subst h0
      subst hc0
      have hrun := run_append_owned_none (P := P) w B t o.type e i 1 ht hi v xs.length (xs.map (Value.int k)) hown
      unfold Oper.wp
      simp [execOp, ho, resolve, invoke, builtin, hs, hx, hrun, Result.andThen]
      exact hK v w (by simpa using hown) hB (Moved.refl w v) (Nat.le_refl _)
    | some ad =>
      obtain ⟨hn, hnews⟩ := hu.news
      subst hn
      obtain ⟨v', w', hr, h2, h3, _, h5⟩ := run_append_own_at (P := P) w B t o.type e i (.int k 0) 1 bytes ht hi hz hsz hby (by rfl) (by decide) v xs.length (xs.map (Value.int k)) hown ad ys.length c (ys.map (Value.int k)) (by simp) hnews (ints_one k ys) (by simp only [maxLen]; omega)
        (by have : (xs.length + ys.length) * bytes ≤ 1099511627776 * 16 := Nat.mul_le_mul h63 hbytes
            omega) hBw
      unfold Oper.wp execOp
      simp only [ho, resolve, invoke, builtin, Sem.run_bind, Sem.run_pure, Result.andThen_ok, List.map_toArray, List.map_cons, List.map_nil, hs, hx, hr]
      exact hK v' w' (Own.app h2) (hB.grown h3 hBw hbl) (Moved.of h3 h5) h3.size
  | _ => obtain ⟨A, c, hv, _⟩ := hu; rw [hA] at hv; cases hv
/-- The same at the list of a plain region's operations. -/
theorem wpList_app {w W0 : World} {ops : Array Oper} {rest : List Oper} {o : Oper} {a : Act} {Q : Exit → Act → World → Prop} (hgd : o.guard = none) (s x : Operand) (t : TypeId)
    (ho : o.op = .call { callee := .builtin .append, args := #[s, x], argTypes := #[t, t] })
    (B e bytes : Nat) (k : IntKind) (ht : P.underlying t = some (.slice e)) (hinfo : (P.info? e).map (fun i => (i.zero, i.size, i.bytes)) = some (some (.int k 0), 1, bytes))
    (v u : Value) (xs ys : List Int) (hs : a.eval s = v) (hx : a.eval x = u) (hown : Own B e w k v xs) (hu : SI w k u ys)
    (h63 : xs.length + ys.length ≤ 1099511627776) (hbytes : bytes ≤ 16) (hB : Below B W0 w) (hBw : B ≤ w.heap.size)
    (hK : ∀ v' w', Own B e w' k v' (xs ++ ys) → Below B W0 w' → Moved w w' v v' → w.heap.size ≤ w'.heap.size → wpList P ops Q rest (a.put o.dst v') w') : wpList P ops Q (o :: rest) a w :=
  wpList_plain hgd fun _ hK' => wp_app s x t ho B e bytes k ht hinfo v u xs ys hs hx hown hu h63 hbytes hB hBw fun v' w' h1 h2 h3 h4 => hK' _ _ (hK v' w' h1 h2 h3 h4)
/-- 'append(out, x)'. -/
theorem wpList_app1 {w W0 : World} {ops : Array Oper} {rest : List Oper} {o : Oper} {a : Act} {Q : Exit → Act → World → Prop} (hgd : o.guard = none) (s x : Operand) (t : TypeId)
    (ho : o.op = .call { callee := .builtin .append, args := #[s, x], argTypes := #[t, t] })
    (B e bytes : Nat) (k : IntKind) (ht : P.underlying t = some (.slice e)) (hinfo : (P.info? e).map (fun i => (i.zero, i.size, i.bytes)) = some (some (.int k 0), 1, bytes))
    (v : Value) (xs : List Int) (q : Int) (hs : a.eval s = v) (hx : a.eval x = .slice (some ⟨w.heap.size, 0, none⟩) 1 1) (hown : Own B e w k v xs)
    (h63 : xs.length + 1 ≤ 1099511627776) (hbytes : bytes ≤ 16) (hB : Below B W0 w) (hBw : B ≤ w.heap.size)
    (hK : ∀ v' w', Own B e w' k v' (xs ++ [q]) → Below B W0 w' → Moved w w' v v' → w.heap.size ≤ w'.heap.size → wpList P ops Q rest (a.put o.dst v') w') : wpList P ops Q (o :: rest) a (w.alloc (.cells #[.int k q] e)) :=
  wpList_app hgd s x t ho B e bytes k ht hinfo v _ xs [q] hs hx (hown.alloc _) (SI.one w k q e) h63 hbytes (hB.alloc hBw _) (by simp; omega) (fun v' w' h1 h2 h3 h4 => hK v' w' h1 h2 (fun k x xs h ha => h3 k x xs (h.alloc _) ha) (by simp at h4; omega))
/-- A law of an operation is one of a step of a region that draws. -/
theorem step_of_list {w : World} {ops : Array Oper} {o : Oper} {a : Act} {K : Act → World → Prop} {Q : Exit → Act → World → Prop} {E : Prop} (hgd : o.guard = none)
    (h : o.wp P a w K Q) : if Region.wanted o (yielded ops a.tmps) = true then Oper.wp P o a w K Q else E := by
  have hw : Region.wanted o (yielded ops a.tmps) = true := by simp [Region.wanted, hgd]
  rw [if_pos hw]
  exact h
theorem step_app {w W0 : World} {ops : Array Oper} {o : Oper} {a : Act} {K : Act → World → Prop} {Q : Exit → Act → World → Prop} {E : Prop} (hgd : o.guard = none) (s x : Operand) (t : TypeId)
    (ho : o.op = .call { callee := .builtin .append, args := #[s, x], argTypes := #[t, t] })
    (B e bytes : Nat) (k : IntKind) (ht : P.underlying t = some (.slice e)) (hinfo : (P.info? e).map (fun i => (i.zero, i.size, i.bytes)) = some (some (.int k 0), 1, bytes))
    (v u : Value) (xs ys : List Int) (hs : a.eval s = v) (hx : a.eval x = u) (hown : Own B e w k v xs) (hu : SI w k u ys)
    (h63 : xs.length + ys.length ≤ 1099511627776) (hbytes : bytes ≤ 16) (hB : Below B W0 w) (hBw : B ≤ w.heap.size)
    (hK : ∀ v' w', Own B e w' k v' (xs ++ ys) → Below B W0 w' → Moved w w' v v' → w.heap.size ≤ w'.heap.size → K (a.put o.dst v') w') : if Region.wanted o (yielded ops a.tmps) = true then Oper.wp P o a w K Q else E :=
  step_of_list hgd (wp_app s x t ho B e bytes k ht hinfo v u xs ys hs hx hown hu h63 hbytes hB hBw hK)
/-- 'make([]T, n)'. -/
theorem wpList_mk {w W0 : World} {ops : Array Oper} {rest : List Oper} {o : Oper} {a : Act} {Q : Exit → Act → World → Prop} (hgd : o.guard = none) (l c : Operand) (t : TypeId) (hop : o.op = Op.makeSlice t l c)
    (B e bytes : Nat) (k : IntKind) (ht : P.underlying t = some (.slice e)) (hinfo : (P.info? e).map (fun i => (i.zero, i.size, i.bytes)) = some (some (.int k 0), 1, bytes))
    (kl kc : IntKind) (n : Nat) (L C : Int) (hl : a.eval l = .int kl L) (hc : a.eval c = .int kc C) (hL : L = (n : Int)) (hC : C = (n : Int)) (h63 : n ≤ 1099511627776) (hbytes : bytes ≤ 16) (hB : Below B W0 w) (hBw : B ≤ w.heap.size)
    (hK : ∀ g w', Own B e w' k (.slice (some ⟨g, 0, none⟩) n n) (List.replicate n 0) → B ≤ g → w.heap.size ≤ g → Below B W0 w' → Below w.heap.size w w' → w.heap.size ≤ w'.heap.size → wpList P ops Q rest (a.put o.dst (.slice (some ⟨g, 0, none⟩) n n)) w') :
    wpList P ops Q (o :: rest) a w := by
  obtain ⟨i, hi, hz, hsz, hby⟩ := info_parts hinfo
  refine wpList_make_full w hgd l c t hop B e i (.int k 0) 1 ht hi hz hsz kl kc L C n hl hc hL hC ?_ (by simp only [maxLen]; omega) hBw ?_
  · rw [hby]
    have : bytes * n ≤ 16 * 1099511627776 := Nat.mul_le_mul hbytes h63
    omega
  · intro w' hown hg
    refine hK w.heap.size w' ?_ hBw (Nat.le_refl _) (hB.grown hg hBw (fun j hj => by cases hj)) ((Below.refl _ w).grown hg (Nat.le_refl _) (fun j hj => by cases hj)) hg.size
    unfold Own
    have h1 : (madeCells (Value.int k 0).cells (n * 1)).toList = (List.replicate n (0 : Int)).map (Value.int k) := by
      rw [Nat.mul_one]
      rw [show (Value.int k 0).cells = #[Value.int k 0] from rfl, toList_madeCells_one]
      simp
    rw [h1] at hown
    simpa using hown
/-- 'make([]T, 0, n)'. -/
theorem wpList_mk0 {w W0 : World} {ops : Array Oper} {rest : List Oper} {o : Oper} {a : Act} {Q : Exit → Act → World → Prop} (hgd : o.guard = none) (l c : Operand) (t : TypeId) (hop : o.op = Op.makeSlice t l c)
    (B e bytes : Nat) (k : IntKind) (ht : P.underlying t = some (.slice e)) (hinfo : (P.info? e).map (fun i => (i.zero, i.size, i.bytes)) = some (some (.int k 0), 1, bytes))
    (kl kc : IntKind) (n : Nat) (C : Int) (hl : a.eval l = .int kl 0) (hc : a.eval c = .int kc C) (hC : C = (n : Int)) (h63 : n ≤ 1099511627776) (hbytes : bytes ≤ 16) (hB : Below B W0 w) (hBw : B ≤ w.heap.size)
    (hK : ∀ v w', Own B e w' k v [] → Below B W0 w' → w.heap.size ≤ w'.heap.size → wpList P ops Q rest (a.put o.dst v) w') :
    wpList P ops Q (o :: rest) a w := by
  obtain ⟨i, hi, hz, hsz, hby⟩ := info_parts hinfo
  refine wpList_make_own w hgd l c t hop B e i (.int k 0) 1 ht hi hz hsz kl kc C n hl hc hC ?_ (by simp only [maxLen]; omega) hBw ?_
  · rw [hby]
    have : bytes * n ≤ 16 * 1099511627776 := Nat.mul_le_mul hbytes h63
    omega
  · intro w' hown hg
    exact hK _ w' hown (hB.grown hg hBw (fun j hj => by cases hj)) hg.size
/-- A store into an owned row. -/
theorem Own.set {B e g n cap : Nat} {w : World} {k : IntKind} {xs : List Int} (h : Own B e w k (.slice (some ⟨g, 0, none⟩) n cap) xs) (j : Nat) (q : Int) : Own B e (w.setCell ⟨g, j, none⟩ (.int k q)) k (.slice (some ⟨g, 0, none⟩) n cap) (xs.set j q) := by
  have hn : n = xs.length := by obtain ⟨A, c, hv, _⟩ := h.slice; injection hv
  subst hn
  have h1 := (World.ownsRow.stored h j (.int k q)).1
  unfold Own
  rw [List.length_set, List.map_set]
  exact h1
/-- The cell j of an owned row, for a read or a store. -/
theorem Own.cellAt {B e g n cap : Nat} {w : World} {k : IntKind} {xs : List Int} (h : Own B e w k (.slice (some ⟨g, 0, none⟩) n cap) xs) (j : Nat) (hj : j < xs.length) : w.cell? ⟨g, j, none⟩ = some (.int k (xs[j]?.getD 0)) ∧ w.frozen? ⟨g, j, none⟩ = false := by
  have hn : n = xs.length := by obtain ⟨A, c, hv, _⟩ := h.slice; injection hv
  subst hn
  refine ⟨?_, World.ownsRow.frozenAt h j⟩
  rw [World.ownsRow.cellAt h j (by omega)]
  simp [List.getElem?_eq_getElem hj]
/-- An owned row that is not empty has a place. -/
theorem Own.form {B e : Nat} {w : World} {k : IntKind} {v : Value} {xs : List Int} (h : Own B e w k v xs) (h0 : 0 < xs.length) : ∃ g cap, v = .slice (some ⟨g, 0, none⟩) xs.length cap ∧ B ≤ g ∧ g < w.heap.size ∧ xs.length ≤ cap := by
  rcases h.2 with ⟨_, h1⟩ | ⟨g, cap, cur, hv, hg, hh, hc, _⟩
  · omega
  · exact ⟨g, cap, hv, hg, (Array.getElem?_eq_some_iff.1 hh).1, hc⟩
end

theorem below_new (w : World) (o : Obj) : Below w.heap.size w (w.alloc o) := (Below.refl _ w).alloc (Nat.le_refl _) o

/-- A string of bytes. -/
def strOf (l : List Int) : ByteArray := strOfNums l
theorem strOf_size (l : List Int) : (strOf l).size = l.length := strOfNums_size l
/-- 'string(b)'. -/
theorem conv_bytes {P : Program} {w : World} {v : Value} {xs : List Int} (src dst e : TypeId) (hs : P.underlying src = some (.slice e)) (he : P.underlying e = some (.int .u8)) (hd : P.underlying dst = some .string) (h : SI w .u8 v xs) :
    (convert src dst v).run P w = .ok (.string (strOf xs)) w := by
  obtain ⟨A, c, rfl, hc, hr⟩ := h
  cases A with
  | none =>
    have h0 : xs = [] := by
      cases xs with
      | nil => rfl
      | cons x xs => obtain ⟨ad, e, _⟩ := hr 0 (by simp); cases e
    subst h0
    rw [run_convert_bytes_nil w src e hs he _ _ dst hd]
    rfl
  | some ad =>
    by_cases h0 : xs.length = 0
    · have hx : xs = [] := List.eq_nil_of_length_eq_zero h0
      subst hx
      obtain ⟨b, off, sp⟩ := ad
      cases sp with
      | none => exact run_convert_bytes_arg w src e hs he b off 0 c [] rfl (fun i hi => absurd hi (by simp)) dst hd
      | some q =>
        rw [run_convert_bytes_string w src dst e _ _ _ hs he hd]
        simp [Conv.bytesToString, loadCells, loadCellsFrom]
        rfl
    · obtain ⟨ad', e1, hc0⟩ := hr 0 (by omega)
      injection e1 with e1
      subst e1
      rw [add_zero] at hc0
      obtain ⟨b, off, sp⟩ := ad
      have hsp : sp = none := by
        cases sp with
        | none => rfl
        | some q =>
          unfold World.cell? at hc0
          split at hc0 <;> simp at hc0
      subst hsp
      refine run_convert_bytes_arg w src e hs he b off xs.length c xs rfl (fun i hi => ?_) dst hd
      obtain ⟨ad2, e2, hc2⟩ := hr i hi
      injection e2 with e2
      subst e2
      rw [← hc2]
      congr 1
      unfold Addr.add
      split
      · rename_i h; subst h; rfl
      · rfl

/-! ### what a call leaves -/
theorem ret_of {a b : Value} (h : a = b) : Ending.returned a = .returned b := by rw [h]
/-- It returns v', and the world is as it was. -/
def RetV (w : World) (v' : Value) (en : Ending) (w' : World) : Prop := en = .returned v' ∧ w = w'
/-- It returns v', and nothing that lay there has turned. -/
def RetB (w : World) (v' : Value) (en : Ending) (w' : World) : Prop := en = .returned v' ∧ Below w.heap.size w w'
/-- It returns a row of its own that reads as xs. -/
def RetOwn (w : World) (e : Nat) (k : IntKind) (xs : List Int) (en : Ending) (w' : World) : Prop := ∃ v', en = .returned v' ∧ Own w.heap.size e w' k v' xs ∧ Below w.heap.size w w'
/-- It returns a row of its own that reads as xs, and a further value. -/
def RetOwnT (w : World) (e : Nat) (k : IntKind) (xs : List Int) (r : Value) (en : Ending) (w' : World) : Prop := ∃ v', en = .returned (.tuple #[v', r]) ∧ Own w.heap.size e w' k v' xs ∧ Below w.heap.size w w'
/-- It returns two rows of its own. -/
def RetTwo (w : World) (e : Nat) (k : IntKind) (xs ys : List Int) (en : Ending) (w' : World) : Prop := ∃ v1 v2, en = .returned (.tuple #[v1, v2]) ∧ Own w.heap.size e w' k v1 xs ∧ Own w.heap.size e w' k v2 ys ∧ Below w.heap.size w w'
end Go.Proofs.YtlmbklpidmkdcaaGreatDoor
namespace Go.Proofs.YtlmbklpidmkdcaaGreatDoor

abbrev B64 : Nat := 18446744073709551616
abbrev B32 : Nat := 4294967296
theorem U64.at {xs : List Int} (h : U64 xs) (j : Nat) : 0 ≤ xs[j]?.getD 0 ∧ xs[j]?.getD 0 < 18446744073709551616 := by
  by_cases hj : j < xs.length
  · exact h j hj
  · rw [List.getElem?_eq_none (by omega)]; simp
theorem U32.at {xs : List Int} (h : U32 xs) (j : Nat) : 0 ≤ xs[j]?.getD 0 ∧ xs[j]?.getD 0 < 4294967296 := by
  by_cases hj : j < xs.length
  · exact h j hj
  · rw [List.getElem?_eq_none (by omega)]; simp
theorem U32.u64 {xs : List Int} (h : U32 xs) : U64 xs := fun j hj => ⟨(h j hj).1, by have := (h j hj).2; omega⟩
theorem U64.mem {xs : List Int} (h : U64 xs) : ∀ x ∈ xs, 0 ≤ x ∧ x.toNat < 18446744073709551616 := by
  intro x hx
  obtain ⟨j, hj, rfl⟩ := List.mem_iff_getElem.1 hx
  have := h j hj
  rw [List.getElem?_eq_getElem hj] at this
  simp at this
  omega
theorem U32.mem {xs : List Int} (h : U32 xs) : ∀ x ∈ xs, 0 ≤ x ∧ x.toNat < 4294967296 := by
  intro x hx
  obtain ⟨j, hj, rfl⟩ := List.mem_iff_getElem.1 hx
  have := h j hj
  rw [List.getElem?_eq_getElem hj] at this
  simp at this
  omega
theorem U64.drop {xs : List Int} (h : U64 xs) (m : Nat) : U64 (xs.drop m) := by
  intro j hj
  rw [List.getElem?_drop]
  exact h.at _
theorem U32.drop {xs : List Int} (h : U32 xs) (m : Nat) : U32 (xs.drop m) := by
  intro j hj
  rw [List.getElem?_drop]
  exact h.at _
theorem U32.zeros (n : Nat) : U32 (List.replicate n 0) := by
  intro j hj
  simp at hj
  simp [hj]
theorem U64.zeros (n : Nat) : U64 (List.replicate n 0) := (U32.zeros n).u64
theorem U64.set {xs : List Int} (h : U64 xs) (i : Nat) {x : Int} (h0 : 0 ≤ x) (h1 : x < 18446744073709551616) : U64 (xs.set i x) := by
  intro j hj
  rw [List.getElem?_set]
  split
  · split
    · exact ⟨h0, h1⟩
    · simp
  · exact h.at j
theorem U32.set {xs : List Int} (h : U32 xs) (i : Nat) {x : Int} (h0 : 0 ≤ x) (h1 : x < 4294967296) : U32 (xs.set i x) := by
  intro j hj
  rw [List.getElem?_set]
  split
  · split
    · exact ⟨h0, h1⟩
    · simp
  · exact h.at j
theorem val_replicate (b n : Nat) : val b (List.replicate n 0) = 0 := val_zeros b _ (fun j hj => by simp at hj; simp [hj])
theorem val_take_succ (b : Nat) (xs : List Int) (k : Nat) : val b (xs.take (k + 1)) = val b (xs.take k) + b ^ k * (xs[k]?.getD 0).toNat := by
  by_cases h : k < xs.length
  · rw [take_succ h, val_snoc]
    rw [List.length_take, Nat.min_eq_left (by omega)]
  · rw [List.take_of_length_le (by omega), List.take_of_length_le (by omega), List.getElem?_eq_none (by omega)]
    simp

/-! ### halves -/
/-- Each word as two half-words, the lower one first. -/
def halves : List Int → List Int
  | [] => []
  | x :: xs => (x % 4294967296) :: (x / 4294967296) :: halves xs
theorem halves_length (xs : List Int) : (halves xs).length = 2 * xs.length := by
  induction xs with
  | nil => rfl
  | cons x xs ih => simp only [halves, List.length_cons, ih]; omega
theorem halves_append (xs ys : List Int) : halves (xs ++ ys) = halves xs ++ halves ys := by
  induction xs with
  | nil => rfl
  | cons x xs ih => simp only [List.cons_append, halves, ih]
theorem halves_val (xs : List Int) (h : U64 xs) : val 4294967296 (halves xs) = val 18446744073709551616 xs := by
  induction xs with
  | nil => rfl
  | cons x xs ih =>
    obtain ⟨⟨h0, h1⟩, h2⟩ := h.cons
    simp only [halves, val_cons, ih h2]
    have e1 : (x % 4294967296).toNat + 4294967296 * (x / 4294967296).toNat = x.toNat := by omega
    rw [← e1]
    generalize val 18446744073709551616 xs = q
    generalize (x % 4294967296).toNat = a
    generalize (x / 4294967296).toNat = b
    omega
theorem halves_u32 (xs : List Int) (h : U64 xs) : U32 (halves xs) := by
  induction xs with
  | nil => exact U32.nil
  | cons x xs ih =>
    obtain ⟨⟨h0, h1⟩, h2⟩ := h.cons
    have h3 := ih h2
    exact (U32.one (x := x % 4294967296) (by omega) (by omega)).app ((U32.one (x := x / 4294967296) (by omega) (by omega)).app h3)
/-- Two half-words as a word. -/
def joins : List Int → List Int
  | a :: b :: r => (a + b * 4294967296) :: joins r
  | _ => []
theorem joins_length : ∀ (m : Nat) (xs : List Int), xs.length = 2 * m → (joins xs).length = m
  | 0, xs, h => by have : xs = [] := List.eq_nil_of_length_eq_zero (by omega); subst this; rfl
  | m + 1, xs, h => by
    match xs, h with
    | a :: b :: r, h => simp only [joins, List.length_cons]; rw [joins_length m r (by simp at h; omega)]
    | [a], h => simp at h; omega
    | [], h => simp at h
theorem joins_append : ∀ (m : Nat) (xs ys : List Int), xs.length = 2 * m → joins (xs ++ ys) = joins xs ++ joins ys
  | 0, xs, ys, h => by have : xs = [] := List.eq_nil_of_length_eq_zero (by omega); subst this; rfl
  | m + 1, xs, ys, h => by
    match xs, h with
    | a :: b :: r, h => simp only [List.cons_append, joins]; rw [joins_append m r ys (by simp at h; omega)]
    | [a], h => simp at h; omega
    | [], h => simp at h
theorem joins_val : ∀ (m : Nat) (xs : List Int), xs.length = 2 * m → U32 xs → val 18446744073709551616 (joins xs) = val 4294967296 xs
  | 0, xs, h, _ => by have : xs = [] := List.eq_nil_of_length_eq_zero (by omega); subst this; rfl
  | m + 1, xs, h, hu => by
    match xs, h, hu with
    | a :: b :: r, h, hu =>
      obtain ⟨⟨a0, a1⟩, hu1⟩ := hu.cons
      obtain ⟨⟨b0, b1⟩, hu2⟩ := hu1.cons
      simp only [joins, val_cons, joins_val m r (by simp at h; omega) hu2]
      have e : (a + b * 4294967296).toNat = a.toNat + 4294967296 * b.toNat := by omega
      rw [e]
      generalize val 4294967296 r = q
      omega
    | [a], h, _ => simp at h; omega
    | [], h, _ => simp at h
theorem joins_u64 : ∀ (m : Nat) (xs : List Int), xs.length = 2 * m → U32 xs → U64 (joins xs)
  | 0, xs, h, _ => by have : xs = [] := List.eq_nil_of_length_eq_zero (by omega); subst this; exact U64.nil
  | m + 1, xs, h, hu => by
    match xs, h, hu with
    | a :: b :: r, h, hu =>
      obtain ⟨⟨a0, a1⟩, hu1⟩ := hu.cons
      obtain ⟨⟨b0, b1⟩, hu2⟩ := hu1.cons
      exact (U64.one (x := a + b * 4294967296) (by omega) (by omega)).app (joins_u64 m r (by simp at h; omega) hu2)
    | [a], h, _ => simp at h; omega
    | [], h, _ => simp at h
theorem take_two {xs : List Int} {k : Nat} (h : k + 1 < xs.length) : xs.take (k + 2) = xs.take k ++ [xs[k]?.getD 0, xs[k + 1]?.getD 0] := by
  rw [show k + 2 = (k + 1) + 1 from rfl, take_succ (by omega), take_succ (k := k) (by omega)]
  simp

/-! ### the words of a number -/
def wordsOf (n : Nat) : List Int := if h : n = 0 then [] else ((n % 18446744073709551616 : Nat) : Int) :: wordsOf (n / 18446744073709551616)
termination_by n
decreasing_by omega
theorem wordsOf_zero : wordsOf 0 = [] := by unfold wordsOf; simp
theorem wordsOf_pos {n : Nat} (h : n ≠ 0) : wordsOf n = ((n % 18446744073709551616 : Nat) : Int) :: wordsOf (n / 18446744073709551616) := by
  rw [wordsOf]; simp [h]
theorem wordsOf_val (n : Nat) : val 18446744073709551616 (wordsOf n) = n := by
  induction n using Nat.strongRecOn with
  | _ n ih =>
    by_cases h : n = 0
    · subst h; rw [wordsOf_zero]; rfl
    · rw [wordsOf_pos h, val_cons, ih (n / 18446744073709551616) (by omega)]
      simp only [Int.toNat_natCast]
      omega
theorem wordsOf_u64 (n : Nat) : U64 (wordsOf n) := by
  induction n using Nat.strongRecOn with
  | _ n ih =>
    by_cases h : n = 0
    · subst h; rw [wordsOf_zero]; exact U64.nil
    · rw [wordsOf_pos h]
      exact (U64.one (x := ((n % 18446744073709551616 : Nat) : Int)) (by omega) (by omega)).app (ih _ (by omega))
theorem wordsOf_ne {n : Nat} (h : n ≠ 0) : wordsOf n ≠ [] := by rw [wordsOf_pos h]; simp
/-- Canonical words are the words of their number. -/
theorem wordsOf_of : ∀ (xs : List Int), U64 xs → Canon xs → wordsOf (val 18446744073709551616 xs) = xs
  | [], _, _ => wordsOf_zero
  | x :: xs, hu, hc => by
    obtain ⟨⟨h0, h1⟩, h2⟩ := hu.cons
    have hcs : Canon xs := by
      intro hne
      have := hc (by simp)
      have hp : 0 < xs.length := List.length_pos_iff.2 hne
      obtain ⟨m, hm⟩ : ∃ m, xs.length = m + 1 := ⟨xs.length - 1, by omega⟩
      simp only [List.length_cons, hm] at this
      simpa [hm] using this
    have ih := wordsOf_of xs h2 hcs
    have hnz : val 18446744073709551616 (x :: xs) ≠ 0 := by
      rw [val_cons]
      intro hz
      have hx0 : x.toNat = 0 := by omega
      have hv0 : val 18446744073709551616 xs = 0 := by
        have : 18446744073709551616 * val 18446744073709551616 xs = 0 := by omega
        omega
      rw [hv0, wordsOf_zero] at ih
      subst ih
      have := hc (by simp)
      simp at this
      omega
    rw [wordsOf_pos hnz, val_cons]
    have e1 : (x.toNat + 18446744073709551616 * val 18446744073709551616 xs) % 18446744073709551616 = x.toNat := by omega
    have e2 : (x.toNat + 18446744073709551616 * val 18446744073709551616 xs) / 18446744073709551616 = val 18446744073709551616 xs := by omega
    rw [e1, e2, ih]
    congr 1
    omega
theorem cut_words (xs : List Int) (h : U64 xs) : cut xs = wordsOf (val 18446744073709551616 xs) := by
  have h1 : U64 (cut xs) := h.take _
  have h2 := wordsOf_of (cut xs) h1 (cut_canon xs)
  rw [cut_val] at h2
  exact h2.symm
theorem wordsOf_len (k : Nat) : ∀ n, n < 18446744073709551616 ^ k → (wordsOf n).length ≤ k := by
  induction k with
  | zero => intro n h; have : n = 0 := by simpa using h
            subst this; rw [wordsOf_zero]; simp
  | succ k ih =>
    intro n h
    by_cases hz : n = 0
    · subst hz; rw [wordsOf_zero]; simp
    · rw [wordsOf_pos hz, List.length_cons]
      have := ih (n / 18446744073709551616) (by
        rw [Nat.pow_succ] at h
        exact Nat.div_lt_of_lt_mul (by rw [Nat.mul_comm]; exact h))
      omega
theorem val_lt64 (xs : List Int) (h : U64 xs) : val 18446744073709551616 xs < 18446744073709551616 ^ xs.length := val_lt _ (by omega) xs (fun x hx => (h.mem x hx).2)
theorem val_lt32 (xs : List Int) (h : U32 xs) : val 4294967296 xs < 4294967296 ^ xs.length := val_lt _ (by omega) xs (fun x hx => (h.mem x hx).2)

theorem joins_get : ∀ (m : Nat) (xs : List Int), xs.length = 2 * m → ∀ k, k < m → (joins xs)[k]?.getD 0 = xs[2 * k]?.getD 0 + xs[2 * k + 1]?.getD 0 * 4294967296
  | 0, _, _, k, hk => by omega
  | m + 1, xs, h, k, hk => by
    match xs, h with
    | a :: b :: r, h =>
      cases k with
      | zero => simp [joins]
      | succ k =>
        have ih := joins_get m r (by simp at h; omega) k (by omega)
        simp only [joins, List.getElem?_cons_succ, ih]
        rw [show 2 * (k + 1) = 2 * k + 1 + 1 by omega, List.getElem?_cons_succ, List.getElem?_cons_succ, List.getElem?_cons_succ]
    | [a], h => simp at h; omega
    | [], h => simp at h
theorem val_pad (b : Nat) (xs : List Int) (n : Nat) : val b (xs ++ List.replicate n 0) = val b xs := by
  rw [val_append, val_replicate]; simp
/-- What 'nat' makes of digits of half-words that do not end in 0. -/
theorem joins_words (d : List Int) (hu : U32 d) (hc : Canon d) (n : Nat) (hn : n = (d.length + 1) / 2) : joins (d ++ List.replicate (2 * n - d.length) 0) = wordsOf (val 4294967296 d) := by
  have hl : (d ++ List.replicate (2 * n - d.length) 0).length = 2 * n := by simp; omega
  have hu' : U32 (d ++ List.replicate (2 * n - d.length) 0) := hu.app (U32.zeros _)
  have hv := joins_val n _ hl hu'
  rw [val_pad] at hv
  rw [← hv]
  refine (wordsOf_of _ (joins_u64 n _ hl hu') ?_).symm
  intro hne
  have hjl := joins_length n _ hl
  have hp : 0 < n := by
    rcases Nat.eq_zero_or_pos n with h | h
    · exact absurd (List.eq_nil_of_length_eq_zero (by rw [hjl]; exact h)) hne
    · exact h
  rw [hjl, joins_get n _ hl (n - 1) (by omega)]
  have hd : d ≠ [] := by intro h; subst h; simp at hn; omega
  have htop := hc hd
  have h1 := hu'.at (2 * (n - 1))
  have h2 := hu'.at (2 * (n - 1) + 1)
  by_cases he : d.length = 2 * n
  · have : (d ++ List.replicate (2 * n - d.length) 0)[2 * (n - 1) + 1]?.getD 0 = d[d.length - 1]?.getD 0 := by
      rw [List.getElem?_append_left (by omega), show 2 * (n - 1) + 1 = d.length - 1 by omega]
    omega
  · have : (d ++ List.replicate (2 * n - d.length) 0)[2 * (n - 1)]?.getD 0 = d[d.length - 1]?.getD 0 := by
      rw [List.getElem?_append_left (by omega), show 2 * (n - 1) = d.length - 1 by omega]
    omega
end Go.Proofs.YtlmbklpidmkdcaaGreatDoor
namespace Go.Proofs.YtlmbklpidmkdcaaGreatDoor

/-- The digits of n, the lowest first. -/
def digs (b n : Nat) : List Int := if h : n = 0 ∨ b < 2 then [] else ((n % b : Nat) : Int) :: digs b (n / b)
termination_by n
decreasing_by exact Nat.div_lt_self (by omega) (by omega)
theorem digs_zero (b : Nat) : digs b 0 = [] := by rw [digs]; simp
theorem digs_pos {b n : Nat} (hn : n ≠ 0) (hb : 2 ≤ b) : digs b n = ((n % b : Nat) : Int) :: digs b (n / b) := by
  rw [digs]
  rw [dif_neg (by omega)]
theorem digs_len (b : Nat) (hb : 2 ≤ b) (k : Nat) : ∀ n, n < b ^ k → (digs b n).length ≤ k := by
  induction k with
  | zero => intro n h; have : n = 0 := by simpa using h
            subst this; rw [digs_zero]; simp
  | succ k ih =>
    intro n h
    by_cases hz : n = 0
    · subst hz; rw [digs_zero]; simp
    · rw [digs_pos hz hb, List.length_cons]
      have := ih (n / b) (by rw [Nat.pow_succ] at h; exact Nat.div_lt_of_lt_mul (by rw [Nat.mul_comm]; exact h))
      omega
theorem digs_val (b : Nat) (hb : 2 ≤ b) (n : Nat) : val b (digs b n) = n := by
  induction n using Nat.strongRecOn with
  | _ n ih =>
    by_cases h : n = 0
    · subst h; rw [digs_zero]; rfl
    · rw [digs_pos h hb, val_cons, ih (n / b) (Nat.div_lt_self (by omega) (by omega))]
      simp only [Int.toNat_natCast]
      exact Nat.mod_add_div n b
/-- Every digit is one. -/
def Dig (b : Nat) (xs : List Int) : Prop := ∀ j, j < xs.length → 0 ≤ xs[j]?.getD 0 ∧ xs[j]?.getD 0 < (b : Int)
theorem Dig.nil (b : Nat) : Dig b [] := fun j hj => absurd hj (by simp)
theorem Dig.cons' {b : Nat} {x : Int} {xs : List Int} (h0 : 0 ≤ x) (h1 : x < b) (h : Dig b xs) : Dig b (x :: xs) := by
  intro j hj
  cases j with
  | zero => simpa using ⟨h0, h1⟩
  | succ j => simpa using h j (by simpa using hj)
theorem digs_dig (b : Nat) (hb : 2 ≤ b) (n : Nat) : Dig b (digs b n) := by
  induction n using Nat.strongRecOn with
  | _ n ih =>
    by_cases h : n = 0
    · subst h; rw [digs_zero]; exact Dig.nil b
    · rw [digs_pos h hb]
      have hlt := Nat.mod_lt n (show 0 < b by omega)
      exact Dig.cons' (by omega) (by omega) (ih _ (Nat.div_lt_self (by omega) (by omega)))
theorem digs_ne {b n : Nat} (hn : n ≠ 0) (hb : 2 ≤ b) : digs b n ≠ [] := by rw [digs_pos hn hb]; simp
/-- A number of so many words has not too many digits. -/
theorem digs_words {b : Nat} (hb : 2 ≤ b) (xs : List Int) (h : U64 xs) : (digs b (val 18446744073709551616 xs)).length ≤ 64 * xs.length := by
  refine digs_len b hb _ _ (Nat.lt_of_lt_of_le (val_lt64 xs h) ?_)
  rw [show 18446744073709551616 = 2 ^ 64 from rfl, ← Nat.pow_mul]
  exact Nat.pow_le_pow_left hb _

/-- The byte of a digit. -/
def chr (d : Int) : Int := if d < 10 then 48 + d else 87 + d
/-- The bytes of the string of n in base b. -/
def fmt (b n : Nat) : List Int := if n = 0 then [48] else (digs b n).reverse.map chr
end Go.Proofs.YtlmbklpidmkdcaaGreatDoor
namespace Go.Proofs.YtlmbklpidmkdcaaGreatDoor

/-- What a step is about: u is three half-words' worth (U = un32 * B + un1), v = v1 * B + v0 normal. -/
structure Knuth (n32 n1 v1 v0 : Int) : Prop where
  a0 : 0 ≤ n32
  a1 : n32 < v1 * 4294967296 + v0
  b0 : 0 ≤ n1
  b1 : n1 < 4294967296
  c0 : 2147483648 ≤ v1
  c1 : v1 < 4294967296
  d0 : 0 ≤ v0
  d1 : v0 < 4294967296
/-- The invariant of a step's loop. -/
structure KnuthIn (n32 n1 v1 v0 q r : Int) : Prop where
  q0 : 0 ≤ q
  q1 : q ≤ 4294967297
  r0 : 0 ≤ r
  r1 : r < 4294967296
  eq : n32 = q * v1 + r
  le : (n32 * 4294967296 + n1) / (v1 * 4294967296 + v0) ≤ q
  first : q = 4294967297 → r < v1

theorem mul_le' {a b c d : Int} (h1 : a ≤ c) (h2 : b ≤ d) (h3 : 0 ≤ b) (h4 : 0 ≤ c) : a * b ≤ c * d := Int.mul_le_mul h1 h2 h3 h4

theorem Knuth.pos {n32 n1 v1 v0 : Int} (h : Knuth n32 n1 v1 v0) : 0 < v1 * 4294967296 + v0 := by
  have := h.c0; have := h.d0; omega
theorem Knuth.quo {n32 n1 v1 v0 : Int} (h : Knuth n32 n1 v1 v0) : 0 ≤ (n32 * 4294967296 + n1) / (v1 * 4294967296 + v0) ∧ (n32 * 4294967296 + n1) / (v1 * 4294967296 + v0) < 4294967296 := by
  have hp := h.pos
  have := h.a0; have := h.b0; have := h.b1; have := h.a1
  refine ⟨Int.ediv_nonneg (by omega) (by omega), Int.ediv_lt_of_lt_mul hp ?_⟩
  have e : (v1 * 4294967296 + v0) * 4294967296 = 4294967296 * (v1 * 4294967296 + v0) := Int.mul_comm _ _
  generalize v1 * 4294967296 + v0 = d at *
  omega
theorem Knuth.start {n32 n1 v1 v0 : Int} (h : Knuth n32 n1 v1 v0) : KnuthIn n32 n1 v1 v0 (n32 / v1) (n32 % v1) := by
  have hc0 := h.c0; have hc1 := h.c1; have ha0 := h.a0; have ha1 := h.a1; have hb0 := h.b0; have hb1 := h.b1; have hd0 := h.d0; have hd1 := h.d1
  have hm := Int.mul_ediv_add_emod n32 v1
  have hr0 := Int.emod_nonneg n32 (show v1 ≠ 0 by omega)
  have hr1 := Int.emod_lt_of_pos n32 (show 0 < v1 by omega)
  have hq0 : 0 ≤ n32 / v1 := Int.ediv_nonneg ha0 (by omega)
  generalize n32 / v1 = q at *
  generalize n32 % v1 = r at *
  have hq1 : q ≤ 4294967297 := by
    rcases Int.lt_or_le 4294967297 q with h1 | h1
    · have h2 : v1 * 4294967298 ≤ v1 * q := Int.mul_le_mul_of_nonneg_left (by omega) (by omega)
      omega
    · exact h1
  refine ⟨hq0, hq1, hr0, by omega, by rw [Int.mul_comm]; omega, ?_, fun _ => hr1⟩
  have hp := h.pos
  have : (n32 * 4294967296 + n1) / (v1 * 4294967296 + v0) < q + 1 := by
    refine Int.ediv_lt_of_lt_mul hp ?_
    have e1 : (q + 1) * (v1 * 4294967296 + v0) = (v1 * q) * 4294967296 + v1 * 4294967296 + q * v0 + v0 := by grind
    have e2 : 0 ≤ q * v0 := Int.mul_nonneg hq0 hd0
    omega
  omega
/-- The test says that the guess is too great: one less. -/
theorem KnuthIn.down {n32 n1 v1 v0 q r : Int} (h : Knuth n32 n1 v1 v0) (k : KnuthIn n32 n1 v1 v0 q r) (ht : q ≥ 4294967296 ∨ 4294967296 * r + n1 < q * v0) :
    1 ≤ q ∧ (n32 * 4294967296 + n1) / (v1 * 4294967296 + v0) ≤ q - 1 ∧ n32 = (q - 1) * v1 + (r + v1) ∧ 0 ≤ r + v1 := by
  have hq := h.quo
  have hp := h.pos
  have hc0 := h.c0
  have hb0 := h.b0
  have hr0 := k.r0
  have hq0 := k.q0
  have hd0 := h.d0
  have he := k.eq
  have hq1 : 1 ≤ q := by
    rcases Int.lt_or_le q 1 with h1 | h1
    · have : q = 0 := by omega
      subst this
      rcases ht with h2 | h2 <;> omega
    · exact h1
  refine ⟨hq1, ?_, by rw [he]; grind, by omega⟩
  rcases ht with h1 | h1
  · omega
  · have : (n32 * 4294967296 + n1) / (v1 * 4294967296 + v0) < q := by
      refine Int.ediv_lt_of_lt_mul hp ?_
      rw [he]
      have e1 : q * (v1 * 4294967296 + v0) = (q * v1) * 4294967296 + q * v0 := by grind
      have e2 : (q * v1 + r) * 4294967296 = (q * v1) * 4294967296 + 4294967296 * r := by grind
      omega
    omega
/-- The test says no: the guess is the quotient. -/
theorem KnuthIn.stop {n32 n1 v1 v0 q r : Int} (h : Knuth n32 n1 v1 v0) (k : KnuthIn n32 n1 v1 v0 q r) (ht : q * v0 ≤ 4294967296 * r + n1) :
    q = (n32 * 4294967296 + n1) / (v1 * 4294967296 + v0) := by
  have hp := h.pos
  have he := k.eq
  have : q ≤ (n32 * 4294967296 + n1) / (v1 * 4294967296 + v0) := by
    refine (Int.le_ediv_iff_mul_le hp).2 ?_
    rw [he]
    have e1 : q * (v1 * 4294967296 + v0) = (q * v1) * 4294967296 + q * v0 := by grind
    have e2 : (q * v1 + r) * 4294967296 = (q * v1) * 4294967296 + 4294967296 * r := by grind
    omega
  have := k.le
  omega
/-- The rest has grown to a half-word and more: the guess is the quotient. -/
theorem Knuth.far {n32 n1 v1 v0 q r : Int} (h : Knuth n32 n1 v1 v0) (hq0 : 0 ≤ q) (hq : q ≤ 4294967296) (hr : 4294967296 ≤ r) (he : n32 = q * v1 + r) (hl : (n32 * 4294967296 + n1) / (v1 * 4294967296 + v0) ≤ q) :
    q = (n32 * 4294967296 + n1) / (v1 * 4294967296 + v0) := by
  have hp := h.pos
  have hb0 := h.b0
  have hd0 := h.d0
  have hd1 := h.d1
  have : q ≤ (n32 * 4294967296 + n1) / (v1 * 4294967296 + v0) := by
    refine (Int.le_ediv_iff_mul_le hp).2 ?_
    rw [he]
    have e1 : q * (v1 * 4294967296 + v0) = (q * v1) * 4294967296 + q * v0 := by grind
    have e2 : (q * v1 + r) * 4294967296 = (q * v1) * 4294967296 + 4294967296 * r := by grind
    have e3 : q * v0 ≤ 4294967296 * 4294967295 := mul_le' hq (by omega) hd0 (by omega)
    omega
  omega
theorem KnuthIn.next {n32 n1 v1 v0 q r : Int} (h : Knuth n32 n1 v1 v0) (k : KnuthIn n32 n1 v1 v0 q r) (ht : q ≥ 4294967296 ∨ 4294967296 * r + n1 < q * v0) (hr : r + v1 < 4294967296) : 1 ≤ q ∧ KnuthIn n32 n1 v1 v0 (q - 1) (r + v1) := by
  obtain ⟨a, b, c, d⟩ := k.down h ht
  have := k.q1
  exact ⟨a, by omega, by omega, d, hr, c, b, fun e => by omega⟩
theorem KnuthIn.brk {n32 n1 v1 v0 q r : Int} (h : Knuth n32 n1 v1 v0) (k : KnuthIn n32 n1 v1 v0 q r) (ht : q ≥ 4294967296 ∨ 4294967296 * r + n1 < q * v0) (hr : 4294967296 ≤ r + v1) : 1 ≤ q ∧ q - 1 = (n32 * 4294967296 + n1) / (v1 * 4294967296 + v0) := by
  obtain ⟨a, b, c, d⟩ := k.down h ht
  have := k.q1
  exact ⟨a, h.far (by omega) (by omega) hr c b⟩
end Go.Proofs.YtlmbklpidmkdcaaGreatDoor
namespace Go.Proofs.YtlmbklpidmkdcaaGreatDoor
open Go

theorem bitLen_spec : ∀ (f x : Nat), x < 2 ^ f → f ≤ 64 → x ≠ 0 → 2 ^ (Lib.bitLen x) ≤ 2 * x ∧ x < 2 ^ (Lib.bitLen x)
  | 0, x, h, _, h0 => by have : x = 0 := by simpa using h
                         exact absurd this h0
  | f + 1, x, h, hf, h0 => by
    have hx : x < 2 ^ 64 := Nat.lt_of_lt_of_le h (Nat.pow_le_pow_right (by omega) hf)
    rw [Lib.bitLen_half x h0 hx, Nat.add_comm 1, Nat.pow_succ]
    by_cases h1 : x / 2 = 0
    · have : x = 1 := by omega
      subst this
      have hz : Lib.bitLen (1 / 2) = 0 := rfl
      rw [hz]
      decide
    · have ih := bitLen_spec f (x / 2) (by rw [Nat.pow_succ] at h; omega) (by omega) h1
      omega
theorem and32 (x : Int) (h0 : 0 ≤ x) (h1 : x < 18446744073709551616) : bits .and .u64 x 4294967295 = x % 4294967296 := by
  obtain ⟨n, rfl⟩ := Int.eq_ofNat_of_zero_le h0
  have := bits_and_u64_nat n 4294967295 (by omega) (by omega)
  rw [show ((4294967295 : Nat) : Int) = 4294967295 from rfl] at this
  rw [this, show (4294967295 : Nat) = 2 ^ 32 - 1 from rfl, Nat.and_two_pow_sub_one_eq_mod]
  simp
theorem or_add (a b s : Nat) (hb : b < 2 ^ s) (h1 : 2 ^ s * a < 18446744073709551616) (h2 : b < 18446744073709551616) : bits .or .u64 ((2 ^ s * a : Nat) : Int) (b : Int) = ((2 ^ s * a + b : Nat) : Int) := by
  rw [bits_or_u64_nat _ _ h1 h2, Nat.two_pow_add_eq_or_of_lt hb]

/-- What the walk's words are. -/
theorem div64_prep (hi lo y s : Nat) (h0 : 1 ≤ hi) (h1 : hi < y) (l1 : lo < 18446744073709551616) (y1 : y < 18446744073709551616) (hs : s ≤ 63) (hsl : Lib.bitLen y = 64 - s) :
    ∃ Y v1 v0 n32 m n1 n0 : Int, IntKind.u64.wrap ((y : Int) * 2 ^ s) = Y ∧ Y / 4294967296 = v1 ∧ bits .and .u64 Y 4294967295 = v0 ∧
      bits .or .u64 (IntKind.u64.wrap ((hi : Int) * 2 ^ s)) ((lo : Int) / 2 ^ (64 - s)) = n32 ∧ IntKind.u64.wrap ((lo : Int) * 2 ^ s) = m ∧ m / 4294967296 = n1 ∧ bits .and .u64 m 4294967295 = n0 ∧
      Y = v1 * 4294967296 + v0 ∧ Knuth n32 n1 v1 v0 ∧ 0 ≤ n0 ∧ n0 < 4294967296 ∧ (y : Int) * 2 ^ s = Y ∧ Y < 18446744073709551616 ∧
      ((hi : Int) * 18446744073709551616 + (lo : Int)) * 2 ^ s = (n32 * 4294967296 + n1) * 4294967296 + n0 := by
  obtain ⟨p, hp⟩ : ∃ p : Nat, p = 2 ^ s := ⟨_, rfl⟩
  obtain ⟨p', hp'⟩ : ∃ p' : Nat, p' = 2 ^ (64 - s) := ⟨_, rfl⟩
  have hpp : p * p' = 18446744073709551616 := by
    rw [hp, hp', ← Nat.pow_add, show s + (64 - s) = 64 by omega]
  have hp0 : 0 < p := by rw [hp]; exact Nat.two_pow_pos s
  have hp0' : 0 < p' := by rw [hp']; exact Nat.two_pow_pos _
  have hb := bitLen_spec 64 y y1 (Nat.le_refl _) (by omega)
  rw [hsl, ← hp'] at hb
  have hYlo : 9223372036854775808 ≤ y * p := by
    have := Nat.mul_le_mul_left p hb.1
    rw [hpp] at this
    have e : p * (2 * y) = 2 * (y * p) := by grind
    omega
  have hYhi : y * p + p ≤ 18446744073709551616 := by
    have := Nat.mul_le_mul_left p (show y + 1 ≤ p' from hb.2)
    rw [hpp] at this
    have e : p * (y + 1) = y * p + p := by grind
    omega
  have hhp : hi * p + p ≤ y * p := by
    have := Nat.mul_le_mul_right p (show hi + 1 ≤ y from h1)
    have e : (hi + 1) * p = hi * p + p := by grind
    omega
  have hlm := Nat.div_add_mod lo p'
  have hlr := Nat.mod_lt lo hp0'
  have ht : lo / p' < p := by
    refine Nat.div_lt_of_lt_mul ?_
    rw [Nat.mul_comm, hpp]; exact l1
  have hm : lo * p = (lo / p') * 18446744073709551616 + (lo % p') * p := by
    have e1 : lo * p = (p' * (lo / p') + lo % p') * p := by rw [hlm]
    have e2 : (p' * (lo / p') + lo % p') * p = (lo / p') * (p * p') + (lo % p') * p := by grind
    rw [e1, e2, hpp]
  have hm2 : (lo % p') * p < 18446744073709551616 := by
    have := Nat.mul_lt_mul_of_pos_right hlr hp0
    rw [Nat.mul_comm p' p, hpp] at this
    exact this
  have c1 : ((y : Int) * 2 ^ s) = ((y * p : Nat) : Int) := by rw [hp]; push_cast; rfl
  have c2 : ((hi : Int) * 2 ^ s) = ((hi * p : Nat) : Int) := by rw [hp]; push_cast; rfl
  have c3 : ((lo : Int) * 2 ^ s) = ((lo * p : Nat) : Int) := by rw [hp]; push_cast; rfl
  have c4 : ((lo : Int) / 2 ^ (64 - s)) = ((lo / p' : Nat) : Int) := by rw [hp']; push_cast; rfl
  have w1 : IntKind.u64.wrap ((y : Int) * 2 ^ s) = ((y * p : Nat) : Int) := by rw [c1]; exact IntWalk.u64_in _ (by omega)
  have w2 : IntKind.u64.wrap ((hi : Int) * 2 ^ s) = ((p * hi : Nat) : Int) := by rw [c2, Nat.mul_comm]; exact IntWalk.u64_in _ (by rw [Nat.mul_comm]; omega)
  have w3 : IntKind.u64.wrap ((lo : Int) * 2 ^ s) = (((lo % p') * p : Nat) : Int) := by
    rw [c3, hm, IntKind.wrap_u64]; omega
  have w4 : bits .or .u64 (((p * hi : Nat) : Int)) ((lo / p' : Nat) : Int) = ((p * hi + lo / p' : Nat) : Int) := by
    have := or_add hi (lo / p') s (by rw [← hp]; exact ht) (by rw [← hp, Nat.mul_comm]; omega) (by omega)
    rw [← hp] at this
    exact this
  have hlt : (p * hi + lo / p') < y * p := by rw [Nat.mul_comm p hi]; omega
  refine ⟨((y * p : Nat) : Int), ((y * p : Nat) : Int) / 4294967296, ((y * p : Nat) : Int) % 4294967296, ((p * hi + lo / p' : Nat) : Int), (((lo % p') * p : Nat) : Int), (((lo % p') * p : Nat) : Int) / 4294967296, (((lo % p') * p : Nat) : Int) % 4294967296,
    w1, rfl, and32 _ (by omega) (by omega), by rw [w2, c4]; exact w4, w3, rfl, and32 _ (by omega) (by omega), by omega, ?_, by omega, by omega, c1, by omega, ?_⟩
  · refine ⟨by omega, by omega, by omega, by omega, by omega, by omega, by omega, by omega⟩
  · have e9 : ((hi : Int) * 18446744073709551616 + (lo : Int)) * 2 ^ s = ((hi : Int) * 2 ^ s) * 18446744073709551616 + (lo : Int) * 2 ^ s := by grind
    rw [e9, c2, c3, hm]
    have e : hi * p = p * hi := Nat.mul_comm _ _
    rw [e]
    omega

/-- What a step leaves, in the walk's words. -/
theorem knuth_rem {n32 n1 v1 v0 Y Q : Int} (h : Knuth n32 n1 v1 v0) (hY : Y = v1 * 4294967296 + v0) (hY2 : Y < 18446744073709551616) (hQ : Q = (n32 * 4294967296 + n1) / (v1 * 4294967296 + v0)) :
    IntKind.u64.wrap (IntKind.u64.wrap (IntKind.u64.wrap (n32 * 4294967296) + n1) - IntKind.u64.wrap (Q * Y)) = (n32 * 4294967296 + n1) % Y := by
  have hp := h.pos
  rw [← hY] at hQ hp
  have g1 := Int.mul_ediv_add_emod (n32 * 4294967296 + n1) Y
  have g2 := Int.emod_nonneg (n32 * 4294967296 + n1) (show Y ≠ 0 by omega)
  have g3 := Int.emod_lt_of_pos (n32 * 4294967296 + n1) hp
  rw [← hQ, Int.mul_comm] at g1
  generalize (n32 * 4294967296 + n1) % Y = R at *
  simp only [IntKind.wrap_u64]
  generalize Q * Y = z at *
  omega
theorem knuth_next {n32 n1 v1 v0 n0 Y : Int} (h : Knuth n32 n1 v1 v0) (hY : Y = v1 * 4294967296 + v0) (a : 0 ≤ n0) (b : n0 < 4294967296) : Knuth ((n32 * 4294967296 + n1) % Y) n0 v1 v0 := by
  have hp := h.pos
  rw [← hY] at hp
  exact ⟨Int.emod_nonneg _ (by omega), by rw [← hY]; exact Int.emod_lt_of_pos _ hp, a, b, h.c0, h.c1, h.d0, h.d1⟩
theorem knuth_fin {n32 n1 v1 v0 n0 Y Q1 R1 Q0 R0 : Int} {hi lo y s : Nat} (h : Knuth n32 n1 v1 v0) (hY : Y = v1 * 4294967296 + v0) (a : 0 ≤ n0) (b : n0 < 4294967296) (hy : 0 < y)
    (hQ1 : Q1 = (n32 * 4294967296 + n1) / (v1 * 4294967296 + v0)) (hR1 : R1 = (n32 * 4294967296 + n1) % Y) (hQ0 : Q0 = (R1 * 4294967296 + n0) / (v1 * 4294967296 + v0)) (hR0 : R0 = (R1 * 4294967296 + n0) % Y)
    (hyY : (y : Int) * 2 ^ s = Y) (hU : ((hi : Int) * 18446744073709551616 + (lo : Int)) * 2 ^ s = (n32 * 4294967296 + n1) * 4294967296 + n0) :
    IntKind.u64.wrap (IntKind.u64.wrap (Q1 * 4294967296) + Q0) = (((hi * 18446744073709551616 + lo) / y : Nat) : Int) ∧ R0 / 2 ^ s = (((hi * 18446744073709551616 + lo) % y : Nat) : Int) := by
  have hp := h.pos
  have q1 := h.quo
  have k2 := knuth_next h hY a b
  have q0 := k2.quo
  rw [← hY] at hQ1 hQ0 hp q1 q0
  rw [← hR1] at q0
  rw [← hQ1] at q1
  rw [← hQ0] at q0
  have g1 := Int.mul_ediv_add_emod (n32 * 4294967296 + n1) Y
  have g2 := Int.mul_ediv_add_emod (R1 * 4294967296 + n0) Y
  have g3 := Int.emod_nonneg (R1 * 4294967296 + n0) (show Y ≠ 0 by omega)
  have g4 := Int.emod_lt_of_pos (R1 * 4294967296 + n0) hp
  rw [← hQ1, ← hR1] at g1
  rw [← hQ0, ← hR0] at g2
  rw [← hR0] at g3 g4
  obtain ⟨U, hUd⟩ : ∃ U : Nat, U = hi * 18446744073709551616 + lo := ⟨_, rfl⟩
  have hUc : ((hi : Int) * 18446744073709551616 + (lo : Int)) = (U : Int) := by rw [hUd]; omega
  rw [hUc] at hU
  have hps : (0 : Int) < 2 ^ s := Int.pow_pos (by omega)
  have e1 : (U : Int) * 2 ^ s = Y * (Q1 * 4294967296 + Q0) + R0 := by rw [hU]; grind
  -- R0 is a multiple of 2^s
  have e2 : R0 = ((U : Int) - (y : Int) * (Q1 * 4294967296 + Q0)) * 2 ^ s := by rw [← hyY] at e1; grind
  obtain ⟨t, ht⟩ : ∃ t, t = (U : Int) - (y : Int) * (Q1 * 4294967296 + Q0) := ⟨_, rfl⟩
  rw [← ht] at e2
  have t0 : 0 ≤ t := by
    rcases Int.lt_or_le t 0 with h1 | h1
    · have : t * 2 ^ s < 0 := Int.mul_neg_of_neg_of_pos h1 hps
      omega
    · exact h1
  have t1 : t < (y : Int) := by
    rw [e2, ← hyY] at g4
    exact Int.lt_of_mul_lt_mul_right g4 (Int.le_of_lt hps)
  have eU : (U : Int) = (y : Int) * (Q1 * 4294967296 + Q0) + t := by omega
  have hq : (U : Int) / (y : Int) = Q1 * 4294967296 + Q0 := by
    rw [eU, Int.add_comm, Int.add_mul_ediv_left _ _ (by omega), Int.ediv_eq_zero_of_lt t0 t1]; omega
  have hm : (U : Int) % (y : Int) = t := by
    rw [eU, Int.add_comm, Int.add_mul_emod_self_left, Int.emod_eq_of_lt t0 t1]
  rw [← hUd]
  refine ⟨?_, ?_⟩
  · rw [Int.natCast_ediv, hq]
    simp only [IntKind.wrap_u64]
    omega
  · rw [Int.natCast_emod, hm, e2]
    exact Int.mul_ediv_cancel _ (by omega)
end Go.Proofs.YtlmbklpidmkdcaaGreatDoor
namespace Go.Proofs.YtlmbklpidmkdcaaGreatDoor
open Go.RowKit

theorem info64 : (Tryz.prog.info? 42).map (fun i => (i.zero, i.size, i.bytes)) = some (some (.int .u64 0), 1, 8) := by kernel_rfl

set_option maxHeartbeats 400000 in
theorem trim_calls (A : Option Addr) (n c : Nat) (xs : List Int) (w : World) (hr : SI w .u64 (.slice A n c) xs) (hn : xs.length ≤ 1099511627776) :
    Calls Tryz.prog 60 #[.slice A n c] w (RetV w (.slice A (tlen xs xs.length) c)) := by
  obtain ⟨A', c', hv, hc, hcell⟩ := hr.form
  injection hv with h1 h2 h3
  subst h1; subst h2; subst h3
  have HC := Lib.hid hcell
  have HL := Lib.hid (tlen_le xs xs.length)
  clear hcell hr
  go_enter Tryz.func60, Tryz.ntmps60
  go_wp2
  go_loop [3] (fun v => ∃ k : Nat, k ≤ xs.length ∧ v = .int .i64 k ∧ tlen xs k = tlen xs xs.length) (fun v => (intOf v).toNat)
  case atStart => exact ⟨xs.length, Nat.le_refl _, rfl, rfl⟩
  case round =>
    obtain ⟨k, hk, rfl, ht⟩ := hrel
    by_cases h0 : 0 < k
    · obtain ⟨ad, e, hcl⟩ := HC.out (k - 1) (by omega)
      subst e
      have hu : tlen xs k = if xs[k - 1]?.getD 0 = 0 then tlen xs (k - 1) else k := by
        obtain ⟨m, rfl⟩ : ∃ m, k = m + 1 := ⟨k - 1, by omega⟩
        rfl
      by_cases hz : xs[k - 1]?.getD 0 = 0
      · rw [hz] at hcl
        rw [if_pos hz] at hu
        have HT := Lib.hid (hu.symm.trans ht)
        clear hu ht hz
        go_wp2
        go_round
        case rel => exact ⟨k - 1, by omega, by go_num, HT.out⟩
        case measure => simp [intOf]; omega
      · rw [if_neg hz] at hu
        have HT := Lib.hid (hu.symm.trans ht)
        clear hu ht
        have hz1 : (xs[k - 1]?.getD 0 == 0) = false := by simpa using hz
        clear hz
        go_wp2
        go_ret
        exact ⟨ret_of (by simp [HT.out]), rfl⟩
    · obtain rfl : k = 0 := by omega
      have HT := Lib.hid ht
      clear ht
      go_wp2
      go_ret
      exact ⟨ret_of (by rw [← HT.out]; simp [tlen]), rfl⟩

set_option maxHeartbeats 400000 in
theorem clone_calls (v : Value) (xs : List Int) (w : World) (hr : SI w .u64 v xs) (hn : xs.length ≤ 1099511627776) :
    Calls Tryz.prog 59 #[v] w (RetOwn w 42 .u64 xs) := by
  obtain ⟨A, c, rfl, hc, hcell⟩ := hr.form
  have HR := Lib.hid hr
  clear hcell hr
  cases A with
  | none =>
    obtain ⟨h1, h2, rfl⟩ := HR.out.none_nil
    subst h2
    have hcmp := fun w => Lib.run_eql_slice_nil (P := Tryz.prog) w 23 42 none 0 0 0 0 Tryz.underlying23
    go_enter Tryz.func59, Tryz.ntmps59
    go_wp2
    go_ret
    exact ⟨_, rfl, Own.nil _ _ _ _, Below.refl _ _⟩
  | some ad =>
    have hcmp := fun w => Lib.run_eql_slice_nil (P := Tryz.prog) w 23 42 (some ad) xs.length c 0 0 Tryz.underlying23
    go_enter Tryz.func59, Tryz.ntmps59
    have HO := World.ownsRow_made (base := w.heap.size) (e := 42) (size := 1) w #[] 0 (Nat.le_refl _) (by decide) (by simp)
    have HO' := Lib.hid HO
    clear HO
    go_wp2_with (at_builtin; refine wpList_app (W0 := w) rfl (.tmp 5) (.tmp 6) 23 rfl w.heap.size 42 8 .u64 Tryz.underlying23 info64 (.slice (some ⟨w.heap.size, 0, none⟩) 0 0) _ [] xs rfl rfl HO'.out (HR.out.alloc _) (by simpa using hn) (by omega) (below_new w _) (by simp) ?_; intro v' w1 h1 h2 h3 h4; clear h3 h4 hcmp)
    go_ret
    exact ⟨_, rfl, h1, h2⟩
end Go.Proofs.YtlmbklpidmkdcaaGreatDoor
namespace Go.Proofs.YtlmbklpidmkdcaaGreatDoor
open Go.RowKit

set_option maxHeartbeats 400000 in
theorem short_calls (A : Option Addr) (n c : Nat) (xs : List Int) (w : World) (hr : SI w .u64 (.slice A n c) xs) (hn : xs.length ≤ 1099511627776) :
    Calls Tryz.prog 98 #[.slice A n c] w (RetV w (.slice A (tlen xs xs.length) c)) := by
  obtain ⟨A', c', hv, hc, hcell⟩ := hr.form
  injection hv with h1 h2 h3
  subst h1; subst h2; subst h3
  have HC := Lib.hid hcell
  have HL := Lib.hid (tlen_le xs xs.length)
  clear hcell hr
  go_enter Tryz.func98, Tryz.ntmps98
  go_wp2
  go_loop [3] (fun v => ∃ k : Nat, k ≤ xs.length ∧ v = .int .i64 k ∧ tlen xs k = tlen xs xs.length) (fun v => (intOf v).toNat)
  case atStart => exact ⟨xs.length, Nat.le_refl _, rfl, rfl⟩
  case round =>
    obtain ⟨k, hk, rfl, ht⟩ := hrel
    by_cases h0 : 0 < k
    · obtain ⟨ad, e, hcl⟩ := HC.out (k - 1) (by omega)
      subst e
      have hu : tlen xs k = if xs[k - 1]?.getD 0 = 0 then tlen xs (k - 1) else k := by
        obtain ⟨m, rfl⟩ : ∃ m, k = m + 1 := ⟨k - 1, by omega⟩
        rfl
      by_cases hz : xs[k - 1]?.getD 0 = 0
      · rw [hz] at hcl
        rw [if_pos hz] at hu
        have HT := Lib.hid (hu.symm.trans ht)
        clear hu ht hz
        go_wp2
        go_round
        case rel => exact ⟨k - 1, by omega, by go_num, HT.out⟩
        case measure => simp [intOf]; omega
      · rw [if_neg hz] at hu
        have HT := Lib.hid (hu.symm.trans ht)
        clear hu ht
        have hz1 : (xs[k - 1]?.getD 0 == 0) = false := by simpa using hz
        clear hz
        go_wp2
        go_ret
        exact ⟨ret_of (by simp [HT.out]), rfl⟩
    · obtain rfl : k = 0 := by omega
      have HT := Lib.hid ht
      clear ht
      go_wp2
      go_ret
      exact ⟨ret_of (by rw [← HT.out]; simp [tlen]), rfl⟩

theorem wrap_u64 (x : Int) (h0 : 0 ≤ x) (h1 : x < 18446744073709551616) : IntKind.u64.wrap x = x := IntWalk.u64_in x (by omega)
theorem tdm (x : Int) (h0 : 0 ≤ x) (h1 : x < 18446744073709551616) : x.tmod 4294967296 = x % 4294967296 ∧ IntKind.u64.wrap (x.tdiv 4294967296) = x / 4294967296 := by
  refine ⟨Int.tmod_eq_emod_of_nonneg h0, ?_⟩
  rw [Int.tdiv_eq_ediv_of_nonneg h0]
  exact wrap_u64 _ (by omega) (by omega)
set_option maxHeartbeats 1000000 in
set_option maxRecDepth 100000 in
theorem digits01_calls (v : Value) (xs : List Int) (w : World) (hr : SI w .u64 v xs) (hu : U64 xs) (hn : xs.length ≤ 100000) :
    Calls Tryz.prog 77 #[v] w (RetOwn w 42 .u64 (halves xs)) := by
  obtain ⟨A, c, rfl, hc, hcell⟩ := hr.form
  have HC := Lib.hid hcell
  have HR := Lib.hid hr
  have HU := Lib.hid hu
  clear hcell hr hu
  go_enter Tryz.func77, Tryz.ntmps77
  go_wp2
  go_loopw [3, 4] (fun u i wr => ∃ k : Nat, k ≤ xs.length ∧ i = .int .i64 k ∧ Own w.heap.size 42 wr .u64 u (halves (xs.take k)) ∧ Below w.heap.size w wr) (fun u i wr => (xs.length - (intOf i).toNat))
  case atStart => exact ⟨0, Nat.zero_le _, rfl, Own.nil _ _ _ _, Below.refl _ _⟩
  case round =>
    obtain ⟨k, hk, rfl, ho, hb⟩ := hrel
    have HO := Lib.hid ho
    have HB := Lib.hid hb
    clear ho hb
    by_cases hlt : k < xs.length
    · obtain ⟨ad, e, hcl⟩ := HC.out k hlt
      subst e
      have hcl' : wr.cell? (ad.add k) = some (.int .u64 (xs[k]?.getD 0)) := (HB.out.cell (World.block_lt_of_cell? w _ hcl)).trans hcl
      clear hcl
      obtain ⟨b0, b1⟩ := HU.out.at k
      have hhl := halves_length (xs.take k)
      have htl : (xs.take k).length ≤ 100000 := by simp; omega
      have hts := take_succ hlt
      generalize hx : xs[k]?.getD 0 = x at hcl' b0 b1 hts
      have HT := Lib.hid hts
      have HL := Lib.hid hhl
      have HE : Hid (x.tmod 4294967296 = x % 4294967296 ∧ IntKind.u64.wrap (x.tdiv 4294967296) = x / 4294967296) := tdm x b0 b1
      clear hx hts hhl
      go_wp2
      go_region_law (refine step_app (W0 := w) rfl (.tmp 11) (.tmp 22) 22 rfl w.heap.size 42 8 .u64 Tryz.underlying22 info64 _ (.slice (some ⟨wr.heap.size, 0, none⟩) 2 2) (halves (xs.take k)) [x.tmod 4294967296, IntKind.u64.wrap (x.tdiv 4294967296)] rfl rfl (Own.alloc HO.out _) (SI.drew (SI.two wr .u64 _ _ 42)) (by rw [HL.out]; simp only [List.length_cons, List.length_nil]; omega) (by omega) (HB.out.alloc HB.out.size _).drew (by have := HB.out.size; simp; omega) ?_; intro v' w1 h1 h2 h3 h4; clear h3 h4)
      all_goals
        have H1 := Lib.hid h1
        have H2 := Lib.hid h2
        clear h1 h2
        go_wp2
        go_roundw
        case rel => exact ⟨k + 1, by omega, by go_num, by rw [HT.out, halves_append]; have h := H1.out; rw [HE.out.1, HE.out.2] at h; exact h, H2.out⟩
        case measure => simp [intOf]; omega
    · go_wp2
      go_ret
      have e : xs.take k = xs := List.take_of_length_le (by omega)
      rw [e] at HO
      exact ⟨_, rfl, HO.out, HB.out⟩
end Go.Proofs.YtlmbklpidmkdcaaGreatDoor
namespace Go.Proofs.YtlmbklpidmkdcaaGreatDoor
open Go.RowKit

set_option maxHeartbeats 1000000 in
set_option maxRecDepth 100000 in
theorem row_calls (v : Value) (xs : List Int) (m : Nat) (w : World) (hr : SI w .u64 v xs) (hu : U32 xs) (hm : xs.length = 2 * m) (hn : xs.length ≤ 1000000) :
    Calls Tryz.prog 97 #[v] w (RetOwn w 42 .u64 (joins xs)) := by
  obtain ⟨A, c, rfl, hc, hcell⟩ := hr.form
  have HC := Lib.hid hcell
  have HU := Lib.hid hu
  have HM := Lib.hid hm
  have hm1 : 2 * m ≤ xs.length := by omega
  have hm2 : xs.length ≤ 2 * m := by omega
  clear hcell hr hu hm
  go_enter Tryz.func97, Tryz.ntmps97
  go_wp2
  go_loopw [3, 4] (fun u i wr => ∃ k : Nat, k ≤ m ∧ i = .int .i64 ((2 * k : Nat) : Int) ∧ Own w.heap.size 42 wr .u64 u (joins (xs.take (2 * k))) ∧ Below w.heap.size w wr) (fun u i wr => (xs.length - (intOf i).toNat))
  case atStart => exact ⟨0, Nat.zero_le _, rfl, Own.nil _ _ _ _, Below.refl _ _⟩
  case round =>
    obtain ⟨k, hk, rfl, ho, hb⟩ := hrel
    have HO := Lib.hid ho
    have HB := Lib.hid hb
    clear ho hb
    obtain ⟨q, hq⟩ : ∃ q, 2 * k = q := ⟨_, rfl⟩
    have hq1 : 2 * k ≤ q := by omega
    have hq2 : q ≤ 2 * k := by omega
    rw [hq] at HO ⊢
    have HQ := Lib.hid hq
    clear hq
    by_cases hlt : k < m
    · obtain ⟨ad, e, hcl⟩ := HC.out q (by omega)
      obtain ⟨ad', e', hcl2⟩ := HC.out (q + 1) (by omega)
      subst e
      injection e' with e'
      subst e'
      have hcl' : wr.cell? (ad.add q) = some (.int .u64 (xs[q]?.getD 0)) := (HB.out.cell (World.block_lt_of_cell? w _ hcl)).trans hcl
      have hcl2' : wr.cell? (ad.add (q + 1)) = some (.int .u64 (xs[q + 1]?.getD 0)) := (HB.out.cell (World.block_lt_of_cell? w _ hcl2)).trans hcl2
      clear hcl hcl2
      obtain ⟨b0, b1⟩ := HU.out.at q
      obtain ⟨c0, c1⟩ := HU.out.at (q + 1)
      have hjl : (joins (xs.take q)).length = k := joins_length k _ (by have := HQ.out; simp; omega)
      have hts : joins (xs.take (q + 2)) = joins (xs.take q) ++ [xs[q]?.getD 0 + xs[q + 1]?.getD 0 * 4294967296] := by
        rw [take_two (by omega), joins_append k _ _ (by have := HQ.out; simp; omega)]
        rfl
      generalize hx : xs[q]?.getD 0 = x at hcl' b0 b1 hts
      generalize hy : xs[q + 1]?.getD 0 = y at hcl2' c0 c1 hts
      have HT := Lib.hid hts
      have HL := Lib.hid hjl
      have HE : Hid (IntKind.u64.wrap (x + IntKind.u64.wrap (y * 4294967296)) = x + y * 4294967296) := by
        rw [wrap_u64 (y * 4294967296) (by omega) (by omega)]
        exact wrap_u64 _ (by omega) (by omega)
      rw [add_succ] at hcl2'
      clear hx hy hts hjl
      go_wp2
      have hq3 : q < xs.length := by omega
      have hq4 : q + 1 < xs.length := by omega
      have hw4 : IntKind.i64.wrap ((q : Int) + 1) = (q : Int) + 1 := IntWalk.i64_in _ (by omega)
      have hq5 : (0 : Int) ≤ (q : Int) + 1 := by omega
      have hq6 : ((q : Int) + 1).toNat = q + 1 := by omega
      go_region_law (refine step_app (W0 := w) rfl (.tmp 12) (.tmp 24) 22 rfl w.heap.size 42 8 .u64 Tryz.underlying22 info64 _ (.slice (some ⟨wr.heap.size, 0, none⟩) 1 1) (joins (xs.take q)) [_] rfl rfl (Own.alloc HO.out _) (SI.drew (SI.one wr .u64 _ 42)) (by rw [HL.out]; simp only [List.length_cons, List.length_nil]; omega) (by omega) (HB.out.alloc HB.out.size _).drew (by have := HB.out.size; simp; omega) ?_; intro v' w1 h1 h2 h3 h4; clear h3 h4)
      all_goals
        have H1 := Lib.hid h1
        have H2 := Lib.hid h2
        clear h1 h2 hw4 hq6
        go_wp2
        go_roundw
        case rel => exact ⟨k + 1, by omega, by go_num, by rw [show 2 * (k + 1) = q + 2 by omega, HT.out, ← HE.out]; exact H1.out, H2.out⟩
        case measure => simp [intOf]; omega
    · go_wp2
      go_ret
      have e : xs.take q = xs := List.take_of_length_le (by omega)
      rw [e] at HO
      exact ⟨_, rfl, HO.out, HB.out⟩

set_option maxHeartbeats 1000000 in
set_option maxRecDepth 100000 in
theorem cut_calls (v : Value) (d : List Int) (n : Nat) (w : World) (hr : SI w .u64 v d) (hu : U32 d) (hd : d.length ≤ 2 * n) (hn : n ≤ 400000) :
    Calls Tryz.prog 75 #[v, .int .i64 n] w (RetOwnT w 42 .u64 (joins (d ++ List.replicate (2 * n - d.length) 0)) (.int .u64 0)) := by
  have HR := Lib.hid hr
  have HU := Lib.hid hu
  clear hr hu
  go_enter Tryz.func75, Tryz.ntmps75
  go_wp2_with (at_builtin; refine wpList_app (W0 := w) rfl (.tmp 7) (.tmp 8) 22 rfl w.heap.size 42 8 .u64 Tryz.underlying22 info64 (.slice none 0 0) _ [] d rfl rfl (Own.nil _ _ _ _) HR.out (by simp; omega) (by omega) (Below.refl _ _) (Nat.le_refl _) ?_; intro v1 w1 h1 h2 h3 h4; clear h3 h4)
  have H1 : Own w.heap.size 42 w1 .u64 v1 d := by simpa using h1
  replace H1 := Lib.hid H1
  have H2 := Lib.hid h2
  clear h1 h2
  go_loopw [6] (fun u wr => ∃ j : Nat, d.length + j ≤ 2 * n + 2 ∧ Own w.heap.size 42 wr .u64 u (d ++ List.replicate j 0) ∧ Below w.heap.size w wr) (fun u wr => (2 * n + 2 - (match u with | .slice _ l _ => l | _ => 0)))
  case atStart => exact ⟨0, by omega, by simpa using H1.out, H2.out⟩
  case round =>
    obtain ⟨j, hj, ho, hb⟩ := hrel
    obtain ⟨A, c, rfl, hc⟩ := ho.slice
    have hl : (d ++ List.replicate j 0).length = d.length + j := by simp
    rw [hl] at ho hc ⊢
    have HO := Lib.hid ho
    have HB := Lib.hid hb
    have HL := Lib.hid hl
    clear ho hb hl
    by_cases hlt : d.length + j < 2 * n + 2
    · go_wp2_with (at_builtin; refine wpList_app1 (W0 := w) rfl (.tmp 16) (.tmp 17) 22 rfl w.heap.size 42 8 .u64 Tryz.underlying22 info64 _ (d ++ List.replicate j 0) 0 rfl rfl HO.out (by rw [HL.out]; omega) (by omega) HB.out HB.out.size ?_; intro v2 w2 h1 h2 h3 h4; clear h3 h4)
      have H1' := Lib.hid h1
      have H2' := Lib.hid h2
      obtain ⟨A2, c2, e2, hc2⟩ := h1.slice
      have hl2 : (d ++ List.replicate j 0 ++ [0]).length = d.length + j + 1 := by simp; omega
      rw [hl2] at e2
      subst e2
      clear h1 h2 hl2 hc2
      go_wp2
      go_roundw
      case rel => exact ⟨j + 1, by omega, by have h := H1'.out; rw [List.append_assoc, ← List.replicate_succ'] at h; exact h, H2'.out⟩
      case measure => simp; omega
    · have hj2 : d.length + j ≤ 2 * n + 2 := hj
      obtain ⟨g, cap, e, hg1, hg2, hg3⟩ := HO.out.form (by rw [HL.out]; omega)
      rw [HL.out] at e
      injection e with e1 e2 e3
      subst e1
      subst e3
      clear e2
      have hx0 : (d ++ List.replicate j 0)[2 * n]?.getD 0 = 0 := by
        rw [List.getElem?_append_right (by omega)]
        cases h : (List.replicate j (0 : Int))[2 * n - d.length]? with
        | none => rfl
        | some x => have := List.mem_of_getElem? h; simp at this; simp [this.2]
      have hx1 : (d ++ List.replicate j 0)[2 * n + 1]?.getD 0 = 0 := by
        rw [List.getElem?_append_right (by omega)]
        cases h : (List.replicate j (0 : Int))[2 * n + 1 - d.length]? with
        | none => rfl
        | some x => have := List.mem_of_getElem? h; simp at this; simp [this.2]
      have hc0 := (HO.out.cellAt (2 * n) (by rw [HL.out]; omega)).1
      have hc1 := (HO.out.cellAt (2 * n + 1) (by rw [HL.out]; omega)).1
      rw [hx0] at hc0
      rw [hx1] at hc1
      have htk : (d ++ List.replicate j 0).take (2 * n) = d ++ List.replicate (2 * n - d.length) 0 := by
        rw [List.take_append, List.take_of_length_le hd, List.take_replicate, Nat.min_eq_left (by omega)]
      have hsi : SI wr.drew .u64 (.slice (some ⟨g, 0, none⟩) (2 * n) c) (d ++ List.replicate (2 * n - d.length) 0) := by
        rw [← htk]
        exact (HO.out.si.drew).take (2 * n) (by rw [HL.out]; omega)
      have HS := Lib.hid hsi
      have hf0 : (2 * n + 1) < d.length + j := by omega
      have hf1 : 2 * n < d.length + j := by omega
      clear hsi htk hx0 hx1
      go_wp2
      have hw1 : IntKind.i64.wrap (2 * (n : Int)) = 2 * (n : Int) := IntWalk.i64_in _ (by omega)
      have hw2 : IntKind.i64.wrap (2 * (n : Int) + 1) = 2 * (n : Int) + 1 := IntWalk.i64_in _ (by omega)
      have hw3 : (2 * (n : Int)).toNat = 2 * n := by omega
      have hw4 : (2 * (n : Int) + 1).toNat = 2 * n + 1 := by omega
      have hw5 : 0 ≤ 2 * (n : Int) := by omega
      have hw6 : 0 ≤ 2 * (n : Int) + 1 := by omega
      have hw7 : 2 * n ≤ c := by omega
      have hw8 : 2 * (n : Int) ≤ (c : Int) := by omega
      have hf2 : 2 * (n : Int) < (d.length : Int) + (j : Int) := by omega
      have hf3 : 2 * (n : Int) + 1 < (d.length : Int) + (j : Int) := by omega
      go_region_held3 (fun w' => w'.cell? ⟨g, 2 * n, none⟩ = some (.int .u64 0) ∧ w'.cell? ⟨g, 2 * n + 1, none⟩ = some (.int .u64 0)) (first | go_keep | exact ⟨k0, k1⟩) ((go_at_call 97; refine (row_calls _ (d ++ List.replicate (2 * n - d.length) 0) n _ HS.out (HU.out.app (U32.zeros _)) (by simp; omega) (by simp; omega)).mono ?_; rintro e w2 ⟨v2, rfl, g1, g2⟩; have k0 := (g2.cell (p := ⟨g, 2 * n, none⟩) hg2).trans hc0; have k1 := (g2.cell (p := ⟨g, 2 * n + 1, none⟩) hg2).trans hc1))
      all_goals clear hw1 hw2 hw3 hw4
      all_goals go_wp2
      all_goals go_ret2
      all_goals exact ⟨_, rfl, g1.base HB.out.size, HB.out.drew.trans (g2.mono HB.out.size)⟩
end Go.Proofs.YtlmbklpidmkdcaaGreatDoor
namespace Go.Proofs.YtlmbklpidmkdcaaGreatDoor
open Go.RowKit

theorem own_two (w : World) (k : IntKind) (x y : Int) (e : Nat) : Own w.heap.size e (w.alloc (.cells #[.int k x, .int k y] e)) k (.slice (some ⟨w.heap.size, 0, none⟩) 2 2) [x, y] :=
  World.ownsRow_lit w #[.int k x, .int k y] 2 (Nat.le_refl _) (by decide) (by simp)
theorem own_one (w : World) (k : IntKind) (x : Int) (e : Nat) : Own w.heap.size e (w.alloc (.cells #[.int k x] e)) k (.slice (some ⟨w.heap.size, 0, none⟩) 1 1) [x] :=
  World.ownsRow_lit w #[.int k x] 1 (Nat.le_refl _) (by decide) (by simp)

theorem si_cut {w : World} {k : IntKind} {A : Option Addr} {n c : Nat} {xs : List Int} (h : SI w k (.slice A n c) xs) : SI w k (.slice A (tlen xs xs.length) c) (cut xs) := h.take _ (tlen_le xs xs.length)

set_option maxHeartbeats 400000 in
theorem nat_calls (v : Value) (xs : List Int) (w : World) (hr : SI w .u64 v xs) (hu : U32 xs) (hn : xs.length ≤ 400000) :
    Calls Tryz.prog 79 #[v] w (RetOwn w 42 .u64 (wordsOf (val 4294967296 xs))) := by
  obtain ⟨A, c, rfl, hc, _⟩ := hr.form
  have HR := Lib.hid hr
  have HU := Lib.hid hu
  have HS := Lib.hid (si_cut hr)
  have hl := cut_length xs
  have ht := tlen_le xs xs.length
  have HJ := Lib.hid (joins_words (cut xs) (hu.take _) (cut_canon xs) ((tlen xs xs.length + 1) / 2) (by rw [hl]))
  rw [cut_val, hl] at HJ
  have HL := Lib.hid hl
  have HUC : Hid (U32 (cut xs)) := hu.take _
  clear hr hu hl
  generalize hm : tlen xs xs.length = m at HJ HL HS ht
  have HM := Lib.hid hm
  clear hm
  go_enter Tryz.func79, Tryz.ntmps79
  go_wp2_with (first
    | (go_at_call 98; refine (short_calls _ _ _ xs _ HR.out (by omega)).mono ?_; rintro e w' ⟨rfl, rfl⟩; rw [HM.out])
    | (go_at_call 75; refine (cut_calls _ (cut xs) ((m + 1) / 2) _ HS.out HUC.out (by rw [HL.out]; omega) (by omega)).mono ?_; rintro e w' ⟨v', rfl, h1, h2⟩))
  go_ret
  rw [HL.out] at h1
  exact ⟨_, rfl, by rw [← HJ.out]; exact h1, h2⟩

set_option maxHeartbeats 400000 in
theorem trim02_calls (v : Value) (xs : List Int) (w : World) (hr : SI w .u64 v xs) (hu : U64 xs) (hn : xs.length ≤ 100000) :
    Calls Tryz.prog 45 #[v] w (RetOwn w 42 .u64 (wordsOf (val 18446744073709551616 xs))) := by
  have HR := Lib.hid hr
  have HU := Lib.hid hu
  have HL := Lib.hid (halves_length xs)
  have HH := Lib.hid (halves_u32 xs hu)
  have HV := Lib.hid (halves_val xs hu)
  clear hr hu
  go_enter Tryz.func45, Tryz.ntmps45
  go_wp2_with (first
    | (go_at_call 77; refine (digits01_calls _ xs _ HR.out HU.out hn).mono ?_; rintro e w1 ⟨v1, rfl, h1, h2⟩; have H1 := Lib.hid h1; have H2 := Lib.hid h2; clear h1 h2)
    | (go_at_call 79; refine (nat_calls _ (halves xs) _ H1.out.si HH.out (by rw [HL.out]; omega)).mono ?_; rintro e w2 ⟨v2, rfl, h3, h4⟩))
  go_ret
  rw [HV.out] at h3
  exact ⟨_, rfl, h3.base H2.out.size, H2.out.trans (h4.mono H2.out.size)⟩

set_option maxHeartbeats 400000 in
theorem word_calls (x : Int) (w : World) (h0 : 0 ≤ x) (h1 : x < 18446744073709551616) :
    Calls Tryz.prog 78 #[.int .u64 x] w (RetOwn w 42 .u64 [x % 4294967296, x / 4294967296]) := by
  go_enter Tryz.func78, Tryz.ntmps78
  go_wp2
  go_ret
  exact ⟨_, rfl, own_two w .u64 _ _ _, below_new w _⟩

/-- It returns a row of its own: half-words, so many, with that value. -/
def RetVal (w : World) (e L N : Nat) (en : Ending) (w' : World) : Prop := ∃ zs, RetOwn w e .u64 zs en w' ∧ U32 zs ∧ zs.length = L ∧ val 4294967296 zs = N

theorem plus_step {xs ys out : List Int} {k : Nat} {c x y : Int} (hl : out.length = k) (ho : U32 out) (hc0 : 0 ≤ c) (hc1 : c ≤ 1)
    (hx : xs[k]?.getD 0 = x) (hy : ys[k]?.getD 0 = y) (x0 : 0 ≤ x) (x1 : x < 4294967296) (y0 : 0 ≤ y) (y1 : y < 4294967296)
    (hv : val 4294967296 out + 4294967296 ^ k * c.toNat = val 4294967296 (xs.take k) + val 4294967296 (ys.take k)) :
    (out ++ [(c + x + y) % 4294967296]).length = k + 1 ∧ U32 (out ++ [(c + x + y) % 4294967296]) ∧ 0 ≤ (c + x + y) / 4294967296 ∧ (c + x + y) / 4294967296 ≤ 1 ∧
    val 4294967296 (out ++ [(c + x + y) % 4294967296]) + 4294967296 ^ (k + 1) * ((c + x + y) / 4294967296).toNat = val 4294967296 (xs.take (k + 1)) + val 4294967296 (ys.take (k + 1)) := by
  refine ⟨by simp [hl], ho.app (U32.one (by omega) (by omega)), by omega, by omega, ?_⟩
  rw [val_snoc, val_take_succ, val_take_succ, hl, hx, hy, Nat.pow_succ]
  have e1 : ((c + x + y) % 4294967296).toNat + 4294967296 * ((c + x + y) / 4294967296).toNat = c.toNat + x.toNat + y.toNat := by omega
  generalize ((c + x + y) % 4294967296).toNat = a at e1 ⊢
  generalize ((c + x + y) / 4294967296).toNat = b at e1 ⊢
  generalize 4294967296 ^ k = p at hv ⊢
  have : p * (a + 4294967296 * b) = p * (c.toNat + x.toNat + y.toNat) := by rw [e1]
  grind
end Go.Proofs.YtlmbklpidmkdcaaGreatDoor
namespace Go.Proofs.YtlmbklpidmkdcaaGreatDoor
open Go.RowKit

end Go.Proofs.YtlmbklpidmkdcaaGreatDoor
namespace Go.Proofs.YtlmbklpidmkdcaaGreatDoor
open Go.RowKit

theorem val_set (b : Nat) : ∀ (xs : List Int) (j : Nat) (x : Int), j < xs.length → val b (xs.set j x) + b ^ j * (xs[j]?.getD 0).toNat = val b xs + b ^ j * x.toNat
  | [], j, x, h => by simp at h
  | y :: ys, 0, x, _ => by simp [val_cons]; omega
  | y :: ys, j + 1, x, h => by
    have ih := val_set b ys j x (by simpa using h)
    simp only [List.set_cons_succ, val_cons, List.getElem?_cons_succ, Nat.pow_succ]
    generalize (ys[j]?.getD 0).toNat = p at ih ⊢
    generalize val b (ys.set j x) = q at ih ⊢
    generalize b ^ j = r at ih ⊢
    grind
theorem set_get (xs : List Int) (i j : Nat) (x : Int) (h : i ≠ j) : (xs.set i x)[j]?.getD 0 = xs[j]?.getD 0 := by
  rw [List.getElem?_set_ne h]

/-- What holds in the inner loop of the product. -/
structure TimesIn (xs ys out0 out : List Int) (i k : Nat) (c : Int) : Prop where
  len : out.length = xs.length + ys.length
  u32 : U32 out
  c0 : 0 ≤ c
  c1 : c < 4294967296
  zero : ∀ j, i + ys.length ≤ j → out[j]?.getD 0 = 0
  vv : val 4294967296 out + 4294967296 ^ (i + k) * c.toNat = val 4294967296 out0 + 4294967296 ^ i * ((xs[i]?.getD 0).toNat * val 4294967296 (ys.take k))
theorem TimesIn.step {xs ys out0 out : List Int} {i k : Nat} {c x y o : Int} (h : TimesIn xs ys out0 out i k c) (hi : i < xs.length) (hk : k < ys.length)
    (hx : xs[i]?.getD 0 = x) (hy : ys[k]?.getD 0 = y) (ho : out[i + k]?.getD 0 = o) (x0 : 0 ≤ x) (x1 : x < 4294967296) (y0 : 0 ≤ y) (y1 : y < 4294967296) (o0 : 0 ≤ o) (o1 : o < 4294967296) :
    TimesIn xs ys out0 (out.set (i + k) ((c + o + x * y) % 4294967296)) i (k + 1) ((c + o + x * y) / 4294967296) := by
  have hp0 : 0 ≤ x * y := Int.mul_nonneg x0 y0
  have hp1 : x * y ≤ 4294967295 * 4294967295 := Int.mul_le_mul (by omega) (by omega) y0 (by omega)
  have c0 := h.c0
  have c1 := h.c1
  refine ⟨by simp [h.len], h.u32.set _ (by omega) (by omega), by omega, by omega, fun j hj => by rw [set_get _ _ _ _ (by omega)]; exact h.zero j hj, ?_⟩
  have hv := h.vv
  have hs := val_set 4294967296 out (i + k) ((c + o + x * y) % 4294967296) (by rw [h.len]; omega)
  rw [ho] at hs
  rw [hx] at hv ⊢
  rw [val_take_succ, hy]
  have e1 : ((c + o + x * y) % 4294967296).toNat + 4294967296 * ((c + o + x * y) / 4294967296).toNat = c.toNat + o.toNat + x.toNat * y.toNat := by
    have : (x * y).toNat = x.toNat * y.toNat := Int.toNat_mul x0 y0
    rw [← this]
    omega
  generalize ((c + o + x * y) % 4294967296).toNat = a at e1 hs ⊢
  generalize ((c + o + x * y) / 4294967296).toNat = b at e1 ⊢
  generalize val 4294967296 (out.set (i + k) ((c + o + x * y) % 4294967296)) = n1 at hs ⊢
  generalize val 4294967296 out = n2 at hs hv
  generalize val 4294967296 out0 = n3 at hv ⊢
  generalize val 4294967296 (ys.take k) = n4 at hv ⊢
  rw [show i + (k + 1) = i + k + 1 from rfl, Nat.pow_succ]
  rw [Nat.pow_add] at hs hv ⊢
  generalize 4294967296 ^ i = p at hs hv ⊢
  generalize 4294967296 ^ k = q at hs hv ⊢
  generalize x.toNat = X at e1 hv ⊢
  generalize y.toNat = Y at e1 ⊢
  generalize o.toNat = O at e1 hs
  generalize c.toNat = C at e1 hv
  have : p * q * (a + 4294967296 * b) = p * q * (C + O + X * Y) := by rw [e1]
  grind
/-- What holds in the outer loop. -/
structure TimesOut (xs ys out : List Int) (i : Nat) : Prop where
  len : out.length = xs.length + ys.length
  u32 : U32 out
  zero : ∀ j, i + ys.length ≤ j → out[j]?.getD 0 = 0
  vv : val 4294967296 out = val 4294967296 (xs.take i) * val 4294967296 ys
theorem TimesOut.start (xs ys : List Int) : TimesOut xs ys (List.replicate (xs.length + ys.length) 0) 0 := by
  refine ⟨by simp, U32.zeros _, fun j _ => ?_, ?_⟩
  · rw [List.getElem?_replicate]; split <;> rfl
  · rw [val_replicate]
    rw [List.take_zero, val_nil, Nat.zero_mul]
theorem TimesOut.enter {xs ys out : List Int} {i : Nat} (h : TimesOut xs ys out i) : TimesIn xs ys out out i 0 0 :=
  ⟨h.len, h.u32, by omega, by omega, h.zero, by simp [val]⟩
theorem TimesIn.leave {xs ys out0 out : List Int} {i k : Nat} {c : Int} (h : TimesIn xs ys out0 out i k c) (h0 : TimesOut xs ys out0 i) (hi : i < xs.length) (hk : k = ys.length) :
    TimesOut xs ys (out.set (i + ys.length) c) (i + 1) := by
  subst hk
  refine ⟨by simp [h.len], h.u32.set _ h.c0 h.c1, fun j hj => by rw [set_get _ _ _ _ (by omega)]; exact h.zero j (by omega), ?_⟩
  have hs := val_set 4294967296 out (i + ys.length) c (by rw [h.len]; omega)
  rw [h.zero (i + ys.length) (Nat.le_refl _)] at hs
  have hv := h.vv
  rw [h0.vv, List.take_length] at hv
  rw [val_take_succ]
  simp only [Int.toNat_zero, Nat.mul_zero, Nat.add_zero] at hs
  rw [hs, hv]
  generalize val 4294967296 ys = n
  generalize 4294967296 ^ i = p
  grind

theorem natCast_add' (a b : Nat) : ((a : Int) + (b : Int)).toNat = a + b := by omega

set_option maxHeartbeats 2000000 in
set_option maxRecDepth 100000 in
theorem times_calls (u v : Value) (xs ys : List Int) (w : World) (hr : SI w .u64 u xs) (hs : SI w .u64 v ys) (hu : U32 xs) (hv : U32 ys) (hn : xs.length ≤ 200000) (hm : ys.length ≤ 200000) :
    Calls Tryz.prog 76 #[u, v] w (RetVal w 42 (xs.length + ys.length) (val 4294967296 xs * val 4294967296 ys)) := by
  obtain ⟨A, c, rfl, hc, hcx⟩ := hr.form
  obtain ⟨A', c', rfl, hc', hcy⟩ := hs.form
  have HX := Lib.hid hcx
  have HY := Lib.hid hcy
  have HU := Lib.hid hu
  have HV := Lib.hid hv
  clear hr hs hu hv hcx hcy
  go_enter Tryz.func76, Tryz.ntmps76
  go_wp2_with (at_make; refine wpList_mk (W0 := w) rfl _ _ 22 rfl w.heap.size 42 8 .u64 Tryz.underlying22 info64 _ _ (xs.length + ys.length) _ _ rfl rfl (by omega) (by omega) (by omega) (by omega) (Below.refl _ _) (Nat.le_refl _) ?_; intro g w1 h1 hg h2 h3 h4 h5; clear h2 h4 h5)
  have H1 := Lib.hid h1
  have H3 := Lib.hid h3
  clear h1 h3
  go_loopw [6] (fun i wr => ∃ (n : Nat) (out : List Int), n ≤ xs.length ∧ i = .int .i64 n ∧ TimesOut xs ys out n ∧ Own w.heap.size 42 wr .u64 (.slice (some ⟨g, 0, none⟩) (xs.length + ys.length) (xs.length + ys.length)) out ∧ Below w.heap.size w wr) (fun i wr => (xs.length - (intOf i).toNat))
  case atStart => exact ⟨0, _, Nat.zero_le _, rfl, TimesOut.start xs ys, H1.out, H3.out⟩
  case round =>
    obtain ⟨n, out, hk, rfl, ht, ho, hb⟩ := hrel
    obtain ⟨wo, rfl⟩ : ∃ wo : World, wo = wr := ⟨_, rfl⟩
    by_cases hlt : n < xs.length
    · have HT := Lib.hid ht
      have HO := Lib.hid ho
      have HB := Lib.hid hb
      clear ht ho hb H1 H3
      go_wp2
      go_loopw [7, 8] (fun c k wr => ∃ (m : Nat) (q : Int) (out1 : List Int), m ≤ ys.length ∧ k = .int .i64 m ∧ c = .int .u64 q ∧ TimesIn xs ys out out1 n m q ∧ Own w.heap.size 42 wr .u64 (.slice (some ⟨g, 0, none⟩) (xs.length + ys.length) (xs.length + ys.length)) out1 ∧ Below w.heap.size w wr) (fun c k wr => (ys.length - (intOf k).toNat))
      case atStart => exact ⟨0, 0, out, Nat.zero_le _, rfl, rfl, HT.out.enter, HO.out, HB.out⟩
      case round =>
        obtain ⟨m, q, out1, hm1, rfl, rfl, ht1, ho1, hb1⟩ := hrel
        have q0 := ht1.c0
        have q1 := ht1.c1
        by_cases hlt1 : m < ys.length
        · have hlen := ht1.len
          have hlen1 : out1.length ≤ xs.length + ys.length := by omega
          have hlen2 : xs.length + ys.length ≤ out1.length := by omega
          clear hlen
          obtain ⟨ad, e, hcx⟩ := HX.out n hlt
          obtain ⟨ad', e', hcy⟩ := HY.out m hlt1
          subst e
          subst e'
          have hcx' : wr.cell? (ad.add n) = some (.int .u64 (xs[n]?.getD 0)) := (hb1.cell (World.block_lt_of_cell? w _ hcx)).trans hcx
          have hcy' : wr.cell? (ad'.add m) = some (.int .u64 (ys[m]?.getD 0)) := (hb1.cell (World.block_lt_of_cell? w _ hcy)).trans hcy
          clear hcx hcy
          obtain ⟨x0, x1⟩ := HU.out.at n
          obtain ⟨y0, y1⟩ := HV.out.at m
          obtain ⟨o0, o1⟩ := ht1.u32.at (n + m)
          obtain ⟨hco, hfo⟩ := ho1.cellAt (n + m) (by omega)
          have hst := fun (x y o : Int) hx hy hz => ht1.step (x := x) (y := y) (o := o) hlt hlt1 hx hy hz
          generalize hx : xs[n]?.getD 0 = x at x0 x1 hcx'
          generalize hy : ys[m]?.getD 0 = y at y0 y1 hcy'
          generalize hz : out1[n + m]?.getD 0 = o at o0 o1 hco
          have HST := Lib.hid (hst x y o hx hy hz x0 x1 y0 y1 o0 o1)
          have HO1 := Lib.hid ho1
          have HB1 := Lib.hid hb1
          have hp0 : 0 ≤ x * y := Int.mul_nonneg x0 y0
          have hp1 : x * y ≤ 18446744065119617025 := Int.mul_le_mul (c := 4294967295) (d := 4294967295) (by omega) (by omega) y0 (by omega)
          clear hst hx hy hz ho1 hb1 ht1
          go_wp2
          have hf1 : n + m < xs.length + ys.length := by omega
          have hf2 : (n : Int) + (m : Int) < (xs.length : Int) + (ys.length : Int) := by omega
          have hw1 : IntKind.i64.wrap ((n : Int) + (m : Int)) = (n : Int) + (m : Int) := IntWalk.i64_in _ (by omega)
          have hw2 : ((n : Int) + (m : Int)).toNat = n + m := by omega
          have hw3 : 0 ≤ (n : Int) + (m : Int) := by omega
          have hw4 : IntKind.u64.wrap (q + o) = q + o := wrap_u64 _ (by omega) (by omega)
          have hw5 : IntKind.u64.wrap (x * y) = x * y := wrap_u64 _ (by omega) (by omega)
          have hw6 : IntKind.u64.wrap (q + o + x * y) = q + o + x * y := wrap_u64 _ (by omega) (by omega)
          go_quiet (fail)
          clear hw4 hw5 hw6
          go_wp2
          go_roundw
          case rel => exact ⟨m + 1, (q + o + x * y) / 4294967296, _, by omega, by go_num, rfl, HST.out, Own.set (w := wr.drewN nq) HO1.out (n + m) _, (below_drewN HB1.out nq).setCell (p := ⟨g, n + m, none⟩) hg _⟩
          case measure => simp [intOf]; omega
        · obtain rfl : m = ys.length := by omega
          have hlen := ht1.len
          obtain ⟨hco, hfo⟩ := ho1.cellAt (n + ys.length) (by omega)
          have HST := Lib.hid (ht1.leave HT.out hlt rfl)
          have HO1 := Lib.hid ho1
          have HB1 := Lib.hid hb1
          clear ho1 hb1 ht1 hlen
          go_wp2
          go_roundw
          case rel => exact ⟨n + 1, _, by omega, by go_num, HST.out, HO1.out.set _ _, HB1.out.setCell (p := ⟨g, n + ys.length, none⟩) hg _⟩
          case measure => simp [intOf]; omega
    · obtain rfl : n = xs.length := by omega
      have ht1 := ht.vv
      have ht2 := ht.len
      rw [List.take_length] at ht1
      have HF := Lib.hid (And.intro ht.u32 (And.intro ht2 ht1))
      have HO := Lib.hid ho
      have HB := Lib.hid hb
      clear ht1 ht2 ht ho hb
      go_wp2
      go_ret
      exact ⟨_, ⟨_, rfl, HO.out, HB.out⟩, HF.out.1, HF.out.2.1, HF.out.2.2⟩
end Go.Proofs.YtlmbklpidmkdcaaGreatDoor
namespace Go.Proofs.YtlmbklpidmkdcaaGreatDoor
open Go.RowKit

theorem drop_get {xs : List Int} {k : Nat} (h : k < xs.length) : xs.drop k = xs[k]?.getD 0 :: xs.drop (k + 1) := by
  rw [List.drop_eq_getElem_cons h]
  simp [List.getElem?_eq_getElem h]
theorem val_drop (b : Nat) (xs : List Int) (k : Nat) : val b (xs.drop k) = (xs[k]?.getD 0).toNat + b * val b (xs.drop (k + 1)) := by
  by_cases h : k < xs.length
  · rw [drop_get h, val_cons]
  · rw [List.drop_eq_nil_of_le (by omega), List.drop_eq_nil_of_le (by omega), List.getElem?_eq_none (by omega)]
    simp [val]
/-- What holds in the division by one digit: the digits from k on have been divided. -/
structure OneIn (xs zs : List Int) (b : Int) (k : Nat) (r : Int) : Prop where
  len : zs.length = xs.length
  u32 : U32 zs
  r0 : 0 ≤ r
  r1 : r < b
  vv : val 4294967296 (xs.drop k) = b.toNat * val 4294967296 (zs.drop k) + r.toNat
theorem OneIn.start (xs : List Int) (b : Int) (hb : 1 ≤ b) : OneIn xs (List.replicate xs.length 0) b xs.length 0 :=
  ⟨by simp, U32.zeros _, by omega, by omega, by simp [val]⟩
theorem OneIn.step {xs zs : List Int} {b r x : Int} {k : Nat} (h : OneIn xs zs b (k + 1) r) (hk : k < xs.length) (hb : 1 ≤ b) (hb2 : b < 4294967296) (hx : xs[k]?.getD 0 = x) (x0 : 0 ≤ x) (x1 : x < 4294967296) :
    OneIn xs (zs.set k ((r * 4294967296 + x) / b)) b k ((r * 4294967296 + x) % b) := by
  have r0 := h.r0
  have r1 := h.r1
  have hq0 : 0 ≤ (r * 4294967296 + x) / b := Int.ediv_nonneg (by omega) (by omega)
  have hq1 : (r * 4294967296 + x) / b < 4294967296 := by
    refine Int.ediv_lt_of_lt_mul (by omega) ?_
    have : (r + 1) * 4294967296 ≤ b * 4294967296 := by omega
    have h3 : 4294967296 * b = b * 4294967296 := Int.mul_comm _ _
    omega
  have hr0 : 0 ≤ (r * 4294967296 + x) % b := Int.emod_nonneg _ (by omega)
  have hr1 : (r * 4294967296 + x) % b < b := Int.emod_lt_of_pos _ (by omega)
  refine ⟨by simp [h.len], h.u32.set _ hq0 hq1, hr0, hr1, ?_⟩
  have hv := h.vv
  have e1 : b * ((r * 4294967296 + x) / b) + (r * 4294967296 + x) % b = r * 4294967296 + x := Int.mul_ediv_add_emod _ _
  have hzd : (zs.set k ((r * 4294967296 + x) / b)).drop k = (r * 4294967296 + x) / b :: zs.drop (k + 1) := by
    rw [drop_get (by simp [h.len]; exact hk)]
    congr 1
    · rw [List.getElem?_set_self (by rw [h.len]; exact hk)]; rfl
    · rw [List.drop_set_of_lt (by omega)]
  rw [val_drop, hx, hzd, val_cons, hv]
  generalize (r * 4294967296 + x) / b = q at *
  generalize (r * 4294967296 + x) % b = s at *
  generalize val 4294967296 (zs.drop (k + 1)) = Z
  have e2 : b.toNat * q.toNat + s.toNat = r.toNat * 4294967296 + x.toNat := by
    have h1 : ((b.toNat * q.toNat + s.toNat : Nat) : Int) = ((r.toNat * 4294967296 + x.toNat : Nat) : Int) := by
      simp only [Int.natCast_add, Int.natCast_mul, Int.toNat_of_nonneg r0, Int.toNat_of_nonneg x0, Int.toNat_of_nonneg hq0, Int.toNat_of_nonneg hr0, Int.toNat_of_nonneg (show 0 ≤ b by omega)]
      exact e1
    exact Int.ofNat.inj h1
  grind
theorem OneIn.fin {xs zs : List Int} {b r : Int} (h : OneIn xs zs b 0 r) (hb : 1 ≤ b) : val 4294967296 zs = val 4294967296 xs / b.toNat ∧ r.toNat = val 4294967296 xs % b.toNat := by
  have hv := h.vv
  have r0 := h.r0
  have r1 := h.r1
  rw [List.drop_zero, List.drop_zero] at hv
  have hlt : r.toNat < b.toNat := by omega
  constructor
  · rw [hv, Nat.mul_add_div (by omega), Nat.div_eq_of_lt hlt, Nat.add_zero]
  · rw [hv, Nat.mul_add_mod, Nat.mod_eq_of_lt hlt]

/-- Two rows: a quotient of half-words, and a remainder. -/
def RetOne (w : World) (e : Nat) (xs : List Int) (b : Int) (en : Ending) (w' : World) : Prop :=
  ∃ zs r, RetTwo w e .u64 zs [r] en w' ∧ U32 zs ∧ zs.length = xs.length ∧ 0 ≤ r ∧ r < b ∧ val 4294967296 zs = val 4294967296 xs / b.toNat ∧ r.toNat = val 4294967296 xs % b.toNat

end Go.Proofs.YtlmbklpidmkdcaaGreatDoor
namespace Go.Proofs.YtlmbklpidmkdcaaGreatDoor
open Go.RowKit

/-- The digits of a number that is one digit. -/
theorem cut_small (b : Int) (hb : 1 ≤ b) (hb2 : b < 4294967296) : cut (halves [b]) = [b] := by
  have e1 : b % 4294967296 = b := by omega
  have e2 : b / 4294967296 = 0 := by omega
  simp only [halves, e1, e2]
  have hb0 : b ≠ 0 := by omega
  unfold cut
  simp [tlen, hb0]

end Go.Proofs.YtlmbklpidmkdcaaGreatDoor
namespace Go.Proofs.YtlmbklpidmkdcaaGreatDoor
open Go.RowKit

def cmpN (a b : Nat) : Int := if a < b then -1 else if b < a then 1 else 0
theorem val_split (b : Nat) (xs : List Int) (k : Nat) : val b xs = val b (xs.take k) + b ^ k * val b (xs.drop k) := by
  by_cases h : k ≤ xs.length
  · conv => lhs; rw [← List.take_append_drop k xs]
    rw [val_append, List.length_take, Nat.min_eq_left h]
  · rw [List.take_of_length_le (by omega), List.drop_eq_nil_of_le (by omega)]
    simp [val]
theorem val_take_lt {xs : List Int} (h : U32 xs) (k : Nat) : val 4294967296 (xs.take k) < 4294967296 ^ k := by
  have h1 := val_lt32 (xs.take k) (h.take k)
  refine Nat.lt_of_lt_of_le h1 (Nat.pow_le_pow_right (by omega) ?_)
  simp; omega
theorem cmp_lt {xs ys : List Int} (hu : U32 xs) (m : Nat) {x y : Int} (hx : xs[m]?.getD 0 = x) (hy : ys[m]?.getD 0 = y) (x0 : 0 ≤ x) (hlt : x < y)
    (he : val 4294967296 (xs.drop (m + 1)) = val 4294967296 (ys.drop (m + 1))) : val 4294967296 xs < val 4294967296 ys := by
  have h1 := val_split 4294967296 xs m
  have h2 := val_split 4294967296 ys m
  rw [val_drop, hx, he] at h1
  rw [val_drop, hy] at h2
  have h3 := val_take_lt hu m
  generalize val 4294967296 (ys.drop (m + 1)) = V at *
  have h4 : x.toNat + 1 + 4294967296 * V ≤ y.toNat + 4294967296 * V := by omega
  have h5 := Nat.mul_le_mul_left (4294967296 ^ m) h4
  rw [show x.toNat + 1 + 4294967296 * V = (x.toNat + 4294967296 * V) + 1 by omega, Nat.mul_add] at h5
  omega

theorem take_eq_succ {xs ys : List Int} {k : Nat} (h : xs.take k = ys.take k) (hx : k < xs.length) (hy : k < ys.length) (he : xs[k]?.getD 0 = ys[k]?.getD 0) : xs.take (k + 1) = ys.take (k + 1) := by
  rw [take_succ hx, take_succ hy, h, he]
set_option maxHeartbeats 1000000 in
set_option maxRecDepth 100000 in
theorem same_calls (u v : Value) (xs ys : List Int) (w : World) (hr : SI w .u64 u xs) (hs : SI w .u64 v ys) (hn : xs.length ≤ 400000) (hm : ys.length ≤ 400000) :
    Calls Tryz.prog 74 #[u, v] w (RetB w (.bool (decide (xs = ys)))) := by
  obtain ⟨A, c, rfl, hc, hcx⟩ := hr.form
  obtain ⟨A', c', rfl, hc', hcy⟩ := hs.form
  have HX := Lib.hid hcx
  have HY := Lib.hid hcy
  clear hr hs hcx hcy
  by_cases hl : xs.length = ys.length
  · have hl1 : xs.length ≤ ys.length := by omega
    have hl2 : ys.length ≤ xs.length := by omega
    have hl3 : ((xs.length : Int) != (ys.length : Int)) = false := by rw [bne_eq_false_iff_eq]; omega
    clear hl
    go_enter Tryz.func74, Tryz.ntmps74
    go_wp2
    go_loopw [5] (fun i wr => ∃ (k : Nat), k ≤ xs.length ∧ i = .int .i64 k ∧ xs.take k = ys.take k ∧ Below w.heap.size w wr) (fun i wr => (xs.length - (intOf i).toNat))
    case atStart => exact ⟨0, Nat.zero_le _, rfl, rfl, Below.refl _ _⟩
    case round =>
      obtain ⟨k, hk, rfl, he, hb⟩ := hrel
      by_cases hlt : k < xs.length
      · have hlt2 : k < ys.length := by omega
        obtain ⟨ad, e, hcx⟩ := HX.out k hlt
        obtain ⟨ad', e', hcy⟩ := HY.out k hlt2
        subst e
        subst e'
        have hcx' : wr.cell? (ad.add k) = some (.int .u64 (xs[k]?.getD 0)) := (hb.cell (World.block_lt_of_cell? w _ hcx)).trans hcx
        have hcy' : wr.cell? (ad'.add k) = some (.int .u64 (ys[k]?.getD 0)) := (hb.cell (World.block_lt_of_cell? w _ hcy)).trans hcy
        have hst := take_eq_succ he hlt hlt2
        have hne : xs[k]?.getD 0 ≠ ys[k]?.getD 0 → xs ≠ ys := fun h e => h (by rw [e])
        generalize hx : xs[k]?.getD 0 = x at hcx' hst hne
        generalize hy : ys[k]?.getD 0 = y at hcy' hst hne
        have HS := Lib.hid hst
        have HN := Lib.hid hne
        have HB := Lib.hid hb
        clear hx hy hst hne hb he hcx hcy
        go_wp2
        go_quiet (fail)
        by_cases hxy : x = y
        · have h1 := HS.out hxy
          have H1 := Lib.hid h1
          subst hxy
          clear h1
          go_wp2
          go_roundw
          case rel => exact ⟨k + 1, by omega, by go_num, H1.out, below_drewN HB.out nq⟩
          case measure => simp [intOf]; omega
        · have h1 : decide (xs = ys) = false := decide_eq_false (HN.out hxy)
          have H1 := Lib.hid h1
          have hxy1 : (x != y) = true := by simpa using hxy
          clear h1 hxy
          go_wp2
          go_ret
          exact ⟨ret_of (by rw [H1.out]; rfl), below_drewN HB.out nq⟩
      · have h1 : decide (xs = ys) = true := by
          rw [List.take_of_length_le (by omega), List.take_of_length_le (by omega)] at he
          exact decide_eq_true he
        have H1 := Lib.hid h1
        have HB := Lib.hid hb
        clear h1 he hb
        go_wp2
        go_ret
        exact ⟨ret_of (by rw [H1.out]; rfl), HB.out⟩
  · have h1 : decide (xs = ys) = false := decide_eq_false (fun e => hl (by rw [e]))
    have H1 := Lib.hid h1
    have hl3 : ((xs.length : Int) != (ys.length : Int)) = true := bne_iff_ne.2 (by omega)
    clear h1 hl
    go_enter Tryz.func74, Tryz.ntmps74
    go_wp2
    go_ret
    exact ⟨ret_of (by rw [H1.out]; rfl), Below.refl _ _⟩

set_option maxHeartbeats 400000 in
theorem canonical_calls (u : Value) (xs : List Int) (w : World) (hr : SI w .u64 u xs) (hc : Canon xs) (hn : xs.length ≤ 400000) :
    Calls Tryz.prog 73 #[u] w (RetV w (.bool true)) := by
  obtain ⟨A, c, rfl, hc0, hcx⟩ := hr.form
  by_cases h0 : 0 < xs.length
  · obtain ⟨ad, e, hcl⟩ := hcx (xs.length - 1) (by omega)
    subst e
    have hz := hc (List.length_pos_iff.1 h0)
    generalize hx : xs[xs.length - 1]?.getD 0 = x at hcl hz
    have hz1 : (x != 0) = true := by simpa using hz
    have hz0 : ((xs.length : Int) == 0) = false := beq_eq_false_iff_ne.2 (by omega)
    clear hx hz hr hcx hc
    go_enter Tryz.func73, Tryz.ntmps73
    go_wp2
    go_ret
    exact ⟨rfl, rfl⟩
  · have h1 : xs = [] := List.eq_nil_of_length_eq_zero (by omega)
    subst h1
    clear hr hcx hc hc0 h0
    go_enter Tryz.func73, Tryz.ntmps73
    go_wp2
    go_ret
    exact ⟨rfl, rfl⟩

theorem wordsOf_canon (n : Nat) : Canon (wordsOf n) := by
  have h := cut_words (wordsOf n) (wordsOf_u64 n)
  rw [wordsOf_val] at h
  rw [← h]
  exact cut_canon _

set_option maxHeartbeats 400000 in
/-- Is(x, y), x canonical. -/
theorem is_calls (u v : Value) (n : Nat) (ys : List Int) (w : World) (hr : SI w .u64 u (wordsOf n)) (hs : SI w .u64 v ys) (hv : U64 ys) (hn : (wordsOf n).length ≤ 100000) (hm : ys.length ≤ 100000) :
    Calls Tryz.prog 43 #[u, v] w (RetB w (.bool (decide (n = val 18446744073709551616 ys)))) := by
  have HR := Lib.hid hr
  have HS := Lib.hid hs
  have HV := Lib.hid hv
  have HC := Lib.hid (wordsOf_canon n)
  have hL := wordsOf_len ys.length _ (val_lt64 ys hv)
  have he : decide (wordsOf n = wordsOf (val 18446744073709551616 ys)) = decide (n = val 18446744073709551616 ys) := by
    by_cases h : n = val 18446744073709551616 ys
    · rw [h]; simp
    · rw [decide_eq_false h, decide_eq_false (fun e => h (by rw [← wordsOf_val n, e, wordsOf_val]))]
  have HE := Lib.hid he
  have HL := Lib.hid hL
  clear hr hs hv he hL
  go_enter Tryz.func43, Tryz.ntmps43
  go_wp2_with fail
  refine (canonical_calls _ (wordsOf n) _ HR.out HC.out (by omega)).mono ?_
  rintro e w1 ⟨rfl, rfl⟩
  go_wp2_with fail
  refine (trim02_calls _ ys _ HS.out HV.out hm).mono ?_
  rintro e w1 ⟨v1, rfl, h1, h2⟩
  have H1 := Lib.hid h1
  have H2 := Lib.hid h2
  clear h1 h2
  go_wp2_with fail
  refine (same_calls _ _ (wordsOf n) (wordsOf (val 18446744073709551616 ys)) _ (HR.out.below H2.out) H1.out.si (by omega) (by have := HL.out; omega)).mono ?_
  rintro e w2 ⟨rfl, h2⟩
  go_wp2_with fail
  go_ret
  exact ⟨ret_of (by rw [← HE.out]; rfl), H2.out.trans (h2.mono H2.out.size)⟩
end Go.Proofs.YtlmbklpidmkdcaaGreatDoor
namespace Go.Proofs.YtlmbklpidmkdcaaGreatDoor
open Go.RowKit

theorem infoI : (Tryz.prog.info? 3).map (fun i => (i.zero, i.size, i.bytes)) = some (some (.int .i64 0), 1, 8) := by kernel_rfl
theorem infoB : (Tryz.prog.info? 5).map (fun i => (i.zero, i.size, i.bytes)) = some (some (.int .u8 0), 1, 1) := by kernel_rfl

theorem wordsOf_small (b : Nat) (h : b ≠ 0) (h2 : b < 4294967296) : wordsOf b = [(b : Int)] := by
  rw [wordsOf_pos h, Nat.mod_eq_of_lt (by omega), Nat.div_eq_of_lt (by omega), wordsOf_zero]
theorem wordsOf_nil {n : Nat} : (wordsOf n).length = 0 ↔ n = 0 := by
  constructor
  · intro h
    have h1 : wordsOf n = [] := List.eq_nil_of_length_eq_zero h
    have h2 := wordsOf_val n
    rw [h1] at h2
    exact h2.symm
  · rintro rfl; rw [wordsOf_zero]; rfl

end Go.Proofs.YtlmbklpidmkdcaaGreatDoor
namespace Go.Proofs.YtlmbklpidmkdcaaGreatDoor
open Go.RowKit

theorem letters_fin : ∀ n : Fin 36, ((#[48, 49, 50, 51, 52, 53, 54, 55, 56, 57, 97, 98, 99, 100, 101, 102, 103, 104, 105, 106, 107, 108, 109, 110, 111, 112, 113, 114, 115, 116, 117, 118, 119, 120, 121, 122] : Array UInt8)[n.val]'(by have := n.isLt; simp)).toNat = (if n.val < 10 then 48 + n.val else 87 + n.val) := by decide
theorem letters_at (d : Int) (h0 : 0 ≤ d) (h1 : d < 36) (h : d.toNat < (⟨#[48, 49, 50, 51, 52, 53, 54, 55, 56, 57, 97, 98, 99, 100, 101, 102, 103, 104, 105, 106, 107, 108, 109, 110, 111, 112, 113, 114, 115, 116, 117, 118, 119, 120, 121, 122]⟩ : ByteArray).size) :
    ((((⟨#[48, 49, 50, 51, 52, 53, 54, 55, 56, 57, 97, 98, 99, 100, 101, 102, 103, 104, 105, 106, 107, 108, 109, 110, 111, 112, 113, 114, 115, 116, 117, 118, 119, 120, 121, 122]⟩ : ByteArray)[d.toNat]'h).toNat : Nat) : Int) = chr d := by
  have hk := letters_fin ⟨d.toNat, by omega⟩
  simp only at hk
  refine (congrArg Int.ofNat hk).trans ?_
  unfold chr
  split <;> split <;> simp <;> omega

/-- Is b a base? -/
def isB (b : Int) : Bool := decide (2 ≤ b) && decide (b ≤ 36)
theorem isB_yes {b : Int} (h1 : 2 ≤ b) (h2 : b ≤ 36) : isB b = true := by simp [isB, h1, h2]
theorem isB_no {b : Int} (h : ¬ (2 ≤ b ∧ b ≤ 36)) : isB b = false := by unfold isB; simp; omega
theorem isB_of {b : Int} (h : isB b = true) : 2 ≤ b ∧ b ≤ 36 := by unfold isB at h; simp at h; exact h
end Go.Proofs.YtlmbklpidmkdcaaGreatDoor
namespace Go.Proofs.YtlmbklpidmkdcaaGreatDoor
open Go.RowKit

theorem strOf_append (a b : List Int) : strOf a ++ strOf b = strOf (a ++ b) := by
  apply ByteArray.ext
  simp [strOf, strOfNums, ByteArray.data_append]
theorem fmt_len {b : Nat} (hb : 2 ≤ b) (xs : List Int) (h : U64 xs) : (fmt b (val 18446744073709551616 xs)).length ≤ 64 * xs.length + 1 := by
  unfold fmt
  split
  · simp
  · have := digs_words hb xs h
    simp; omega
/-- With zeros before it. -/
def padL (width : Nat) (l : List Int) : List Int := List.replicate (width - l.length) 48 ++ l

end Go.Proofs.YtlmbklpidmkdcaaGreatDoor
namespace Go.Proofs.YtlmbklpidmkdcaaGreatDoor
open Go.RowKit

/-- The bytes of a string. -/
def bytes (s : ByteArray) : List Int := s.data.toList.map fun c => (c.toNat : Int)
theorem bytes_length (s : ByteArray) : (bytes s).length = s.size := by unfold bytes; rw [List.length_map]; rfl
theorem strOf_bytes (s : ByteArray) : strOf (bytes s) = s := by
  apply ByteArray.ext
  apply Array.ext'
  simp [strOf, strOfNums, bytes, Function.comp_def]
theorem bytes_at (s : ByteArray) (k : Nat) (h : k < s.size) : (bytes s)[k]?.getD 0 = ((s[k]'h).toNat : Int) := by
  have h2 : k < (bytes s).length := by rw [bytes_length]; exact h
  rw [List.getElem?_eq_getElem h2]
  simp [bytes]
  rfl
theorem bytes_range (s : ByteArray) (k : Nat) : 0 ≤ (bytes s)[k]?.getD 0 ∧ (bytes s)[k]?.getD 0 < 256 := by
  by_cases h : k < s.size
  · rw [bytes_at s k h]
    have := (s[k]'h).toNat_lt
    omega
  · rw [List.getElem?_eq_none (by rw [bytes_length]; omega)]; simp

/-- Text in groups. -/
def grpT (e : Nat) : List Int → List Int
  | [] => []
  | c :: cs => (if (cs.length + 1) % e = 0 then [95, c] else [c]) ++ grpT e cs
def grp (e : Nat) : List Int → List Int
  | [] => []
  | c :: cs => c :: grpT e cs
theorem grpT_len (e : Nat) : ∀ l, (grpT e l).length ≤ 2 * l.length
  | [] => by simp [grpT]
  | c :: cs => by have := grpT_len e cs; simp only [grpT, List.length_append, List.length_cons]; split <;> simp <;> omega
theorem grp_len (e : Nat) (l : List Int) : (grp e l).length ≤ 2 * l.length := by
  cases l with
  | nil => simp [grp]
  | cons c cs => have := grpT_len e cs; simp only [grp, List.length_cons]; omega
/-- What is still to come. -/
def grpG (e : Nat) (l : List Int) (k : Nat) : List Int := if k = 0 then grp e l else grpT e (l.drop k)
theorem grpG_step {e : Nat} {l : List Int} {k : Nat} (hk : k < l.length) : grpG e l k = (if 0 < k ∧ (l.length - k) % e = 0 then [95] else []) ++ [l[k]?.getD 0] ++ grpG e l (k + 1) := by
  unfold grpG
  rw [if_neg (show ¬ k + 1 = 0 by omega)]
  by_cases h0 : k = 0
  · subst h0
    rw [if_pos rfl, if_neg (by omega)]
    cases l with
    | nil => simp at hk
    | cons c cs => simp [grp]
  · rw [if_neg h0, drop_get hk]
    simp only [grpT, List.length_drop]
    have e1 : l.length - (k + 1) + 1 = l.length - k := by omega
    rw [e1]
    by_cases h : (l.length - k) % e = 0
    · rw [if_pos h, if_pos ⟨by omega, h⟩]; simp
    · rw [if_neg h, if_neg (fun hh => h hh.2)]; simp
theorem grpG_end {e : Nat} {l : List Int} {k : Nat} (hk : k = l.length) : grpG e l k = [] := by
  subst hk
  unfold grpG
  split
  · rename_i h
    have := List.eq_nil_of_length_eq_zero h
    subst this; rfl
  · rw [List.drop_length]; rfl

end Go.Proofs.YtlmbklpidmkdcaaGreatDoor
