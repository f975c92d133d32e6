/- The program's numbers: Trim; are numbers too large? A range over a function whose elements are a known list: two parties, each with a footprint of its own. Over any program. words.from: the indices of a row from the highest on. math/bits.Div64. A region that draws its order, in a round: by the plain laws. Over any program. words.from and words.DivWord. nat.DivWord. radix.chunkOf. The iterator of radix.digits. slices.Reverse of bytes. -/
import Derived.Test.YtlmbklpidmkdcaaGreatDoorA
import Derived.RangeFuncNested
import Derived.RangeFuncBound
import Derived.RangeFuncCalls
import Derived.RangeFuncLeaves
import Derived.Shelf.Abstract
import Derived.Shelf.RegionOpen
import Derived.OwnWalkIn
import Derived.TacticsInMore
import Derived.LoopNIn
import Derived.LoopIn
import Derived.Deep.LoopGhost
import Derived.Test.YtlmbklpidmkdcaaGreatDoorShelf
import Derived.Deep.DeepCutAuto
import Derived.Deep.CutBlock
import Derived.Deep.RegionHeld3
import Derived.RangeFuncOwn
import Derived.Laws.NewBlocks
import Derived.Laws.Rows
import Derived.Sort.LoopGhostIn
import Derived.Sort.CutIn
namespace Go.Proofs.YtlmbklpidmkdcaaGreatDoor
open Go.RowKit

set_option maxHeartbeats 400000 in
theorem trimN_calls (v : Value) (xs : List Int) (w : World) (hr : SI w .u64 v xs) (hn : xs.length ≤ 1099511627776) :
    Calls Tryz.prog 30 #[v] w (RetOwn w 42 .u64 (cut xs)) := by
  obtain ⟨A, c, rfl, hc, hz⟩ := hr.form
  have HR := Lib.hid hr
  have HS := Lib.hid (si_cut hr)
  have hl := cut_length xs
  have ht := tlen_le xs xs.length
  have HL := Lib.hid hl
  clear hz hr hl
  go_enter Tryz.func30, Tryz.ntmps30
  go_wp2_with fail
  refine (trim_calls _ _ _ xs _ HR.out hn).mono ?_
  rintro e w' ⟨rfl, rfl⟩
  go_wp2_with fail
  refine (clone_calls _ (cut xs) _ HS.out (by rw [HL.out]; omega)).mono ?_
  rintro e w1 ⟨v1, rfl, h1, h2⟩
  go_wp2_with fail
  go_ret
  exact ⟨_, rfl, h1, h2⟩

/-- n slices, none of them too long. -/
def Few (w : World) (A : Option Addr) (n : Nat) : Prop := ∀ j, j < n → ∃ ad, A = some ad ∧ ∃ A' m c', w.cell? (ad.add j) = some (.slice A' m c') ∧ m ≤ 4096
theorem few_one (w : World) (A : Option Addr) (n c : Nat) (e : Nat) (hn : n ≤ 4096) : Few (w.alloc (.cells #[.slice A n c] e)) (some ⟨w.heap.size, 0, none⟩) 1 := by
  intro j hj
  have : j = 0 := by omega
  subst this
  refine ⟨_, rfl, A, n, c, ?_, hn⟩
  rw [add_zero]
  unfold World.cell?
  simp only [heap_alloc_new]
  rfl
theorem few_two (w : World) (A A' : Option Addr) (n c n' c' : Nat) (e : Nat) (hn : n ≤ 4096) (hn' : n' ≤ 4096) : Few (w.alloc (.cells #[.slice A n c, .slice A' n' c'] e)) (some ⟨w.heap.size, 0, none⟩) 2 := by
  intro j hj
  have : j = 0 ∨ j = 1 := by omega
  rcases this with rfl | rfl
  · refine ⟨_, rfl, A, n, c, ?_, hn⟩
    rw [add_plain]
    unfold World.cell?
    simp only [heap_alloc_new]
    rfl
  · refine ⟨_, rfl, A', n', c', ?_, hn'⟩
    rw [add_plain]
    unfold World.cell?
    simp only [heap_alloc_new]
    rfl

theorem large1_calls (A : Option Addr) (n c : Nat) (w : World) (hn : n ≤ 4096) : Calls Tryz.prog 110 #[.slice A n c] w (RetV w (.bool false)) := by
  have hd : decide ((4096 : Int) < (n : Int)) = false := decide_eq_false (by omega)
  go_enter Tryz.func110, Tryz.ntmps110
  go_wp2
  go_ret
  exact ⟨ret_of (by first | rfl | (rw [hd]; rfl)), rfl⟩
set_option maxHeartbeats 1000000 in
theorem idxN_calls (A : Option Addr) (n c : Nat) (w : World) (hf : Few w A n) (hn : n ≤ 1000) :
    Calls Tryz.prog 119 #[.slice A n c, .func (.func 110) #[] #[]] w (RetV w (.int .i64 (-1))) := by
  have HF := Lib.hid hf
  clear hf
  go_enter Tryz.func119, Tryz.ntmps119
  go_wp2
  go_loopw [8] (fun i wr => ∃ k : Nat, k ≤ n ∧ i = .int .i64 k ∧ w = wr) (fun i _ => n - (intOf i).toNat)
  case atStart => exact ⟨0, Nat.zero_le _, rfl, rfl⟩
  case round =>
    obtain ⟨k, hk, rfl, rfl⟩ := hrel
    by_cases hlt : k < n
    · obtain ⟨ad, e, A', m, c', hcl, hm⟩ := HF.out k hlt
      subst e
      go_wp2_with (go_at_call 110; refine (large1_calls _ _ _ _ hm).mono ?_; rintro e w' ⟨rfl, rfl⟩)
      go_roundw
      case rel => exact ⟨k + 1, by omega, by go_num, by first | trivial | rfl⟩
      case measure => simp [intOf]; omega
    · go_wp2
      go_ret
      exact ⟨rfl, rfl⟩
theorem containsN_calls (A : Option Addr) (n c : Nat) (w : World) (hf : Few w A n) (hn : n ≤ 1000) :
    Calls Tryz.prog 104 #[.slice A n c, .func (.func 110) #[] #[]] w (RetV w (.bool false)) := by
  have HF := Lib.hid hf
  clear hf
  go_enter Tryz.func104, Tryz.ntmps104
  go_wp2_with (go_at_call 119; refine (idxN_calls _ _ _ _ HF.out hn).mono ?_; rintro e w' ⟨rfl, rfl⟩)
  go_ret
  exact ⟨rfl, rfl⟩
theorem largeN_calls (A : Option Addr) (n c : Nat) (w : World) (hf : Few w A n) (hn : n ≤ 1000) :
    Calls Tryz.prog 88 #[.slice A n c] w (RetV w (.bool false)) := by
  have HF := Lib.hid hf
  clear hf
  go_enter Tryz.func88, Tryz.ntmps88
  go_wp2_with (go_at_call 104; refine (containsN_calls _ _ _ _ HF.out hn).mono ?_; rintro e w' ⟨rfl, rfl⟩)
  go_ret
  exact ⟨rfl, rfl⟩

theorem few1_calls (A : Option Addr) (n c : Nat) (w : World) (hn : n ≤ 4096) : Calls Tryz.prog 124 #[.slice A n c] w (RetV w (.bool false)) := by
  have hd : decide ((4096 : Int) < (n : Int)) = false := decide_eq_false (by omega)
  go_enter Tryz.func124, Tryz.ntmps124
  go_wp2
  go_ret
  exact ⟨ret_of (by first | rfl | (rw [hd]; rfl)), rfl⟩
set_option maxHeartbeats 1000000 in
theorem idxW_calls (A : Option Addr) (n c : Nat) (w : World) (hf : Few w A n) (hn : n ≤ 1000) :
    Calls Tryz.prog 130 #[.slice A n c, .func (.func 124) #[] #[]] w (RetV w (.int .i64 (-1))) := by
  have HF := Lib.hid hf
  clear hf
  go_enter Tryz.func130, Tryz.ntmps130
  go_wp2
  go_loopw [8] (fun i wr => ∃ k : Nat, k ≤ n ∧ i = .int .i64 k ∧ w = wr) (fun i _ => n - (intOf i).toNat)
  case atStart => exact ⟨0, Nat.zero_le _, rfl, rfl⟩
  case round =>
    obtain ⟨k, hk, rfl, rfl⟩ := hrel
    by_cases hlt : k < n
    · obtain ⟨ad, e, A', m, c', hcl, hm⟩ := HF.out k hlt
      subst e
      go_wp2_with (go_at_call 124; refine (few1_calls _ _ _ _ hm).mono ?_; rintro e w' ⟨rfl, rfl⟩)
      go_roundw
      case rel => exact ⟨k + 1, by omega, by go_num, by first | trivial | rfl⟩
      case measure => simp [intOf]; omega
    · go_wp2
      go_ret
      exact ⟨rfl, rfl⟩
theorem containsW_calls (A : Option Addr) (n c : Nat) (w : World) (hf : Few w A n) (hn : n ≤ 1000) :
    Calls Tryz.prog 123 #[.slice A n c, .func (.func 124) #[] #[]] w (RetV w (.bool false)) := by
  have HF := Lib.hid hf
  clear hf
  go_enter Tryz.func123, Tryz.ntmps123
  go_wp2_with (go_at_call 130; refine (idxW_calls _ _ _ _ HF.out hn).mono ?_; rintro e w' ⟨rfl, rfl⟩)
  go_ret
  exact ⟨rfl, rfl⟩
theorem fewW_calls (A : Option Addr) (n c : Nat) (w : World) (hf : Few w A n) (hn : n ≤ 1000) :
    Calls Tryz.prog 115 #[.slice A n c] w (RetV w (.bool true)) := by
  have HF := Lib.hid hf
  clear hf
  go_enter Tryz.func115, Tryz.ntmps115
  go_wp2_with (go_at_call 123; refine (containsW_calls _ _ _ _ HF.out hn).mono ?_; rintro e w' ⟨rfl, rfl⟩)
  go_ret
  exact ⟨rfl, rfl⟩
end Go.Proofs.YtlmbklpidmkdcaaGreatDoor
namespace Go.Proofs.YtlmbklpidmkdcaaGreatDoor
open Go.RowKit

/-- A party with the footprint C has acted from W to W': C' is its footprint now. -/
structure Acts (C C' : Nat → Prop) (W W' : World) : Prop where
  size : W.heap.size ≤ W'.heap.size
  same : ∀ i, i < W.heap.size → ¬ C i → W'.heap[i]? = W.heap[i]?
  foot : ∀ i, C' i → C i ∨ W.heap.size ≤ i
theorem Acts.refl (C : Nat → Prop) (W : World) : Acts C C W W := ⟨Nat.le_refl _, fun _ _ _ => rfl, fun _ h => .inl h⟩
theorem Acts.trans {C C1 C2 : Nat → Prop} {W W1 W2 : World} (h : Acts C C1 W W1) (k : Acts C1 C2 W1 W2) : Acts C C2 W W2 :=
  ⟨Nat.le_trans h.size k.size, fun i hi hc => (k.same i (Nat.lt_of_lt_of_le hi h.size) (fun h1 => by rcases h.foot i h1 with h2 | h2; exact hc h2; omega)).trans (h.same i hi hc),
    fun i hi => by
      rcases k.foot i hi with h1 | h1
      · exact h.foot i h1
      · exact .inr (Nat.le_trans h.size h1)⟩

/-- THE ITERATOR's WORD: called at the yield of any loop l, with any invariant J of the caller's that speaks of the caller's footprint alone, it hands over the elements of L, one by one. n0: nothing below it is turned. D: the iterator's own blocks. -/
def IterOver {α : Type} (P : Program) (g : FuncId) (lb : Array Value) (encs : α → Array Value) (L : List α) (n0 : Nat) (D : Nat → Prop) (w0 : World) : Prop :=
  ∀ (l : Nat) (J : Nat → (Nat → Prop) → World → Prop) (W : World) (C0 : Nat → Prop), Below w0.heap.size w0 W →
    (∀ k C W, J k C W → ∀ i, C i → i < W.heap.size) →
    (∀ k C W W', J k C W → Below n0 W W' → (∀ i, C i → W'.heap[i]? = W.heap[i]?) → J k C W') →
    (∀ k (hk : k < L.length) C W1, J k C W1 → YieldAt Fence.wide 0 P l (encs L[k]) W1 fun e W' => e = .returned (.bool true) ∧ Below n0 W1 W' ∧ ∃ C', Acts C C' W1 W' ∧ J (k + 1) C' W') →
    J 0 C0 W → (∀ i, C0 i → ¬ D i) →
    CallsIn Fence.wide 0 P g (#[.func (.yield l) #[] #[]] ++ lb) W fun e W' => (∃ v, e = .returned v) ∧ ∃ C', J L.length C' W'

def bodyPostL (n0 : Nat) (I : Nat → (Nat → Prop) → World → Prop) (C : Nat → Prop) (k : Nat) (W : World) : Exit → Act → World → Prop
  | .normal, _, W' => Below n0 W W' ∧ ∃ C', Acts C C' W W' ∧ I (k + 1) C' W'
  | _, _, _ => False

theorem below_putObj {n l : Nat} {W : World} (o : Obj) (h : n ≤ l) : Below n W (W.putObj l o) :=
  ⟨rfl, rfl, rfl, by simp, fun k hk => World.putObj_heap_other (by omega)⟩

theorem wpIn_range {α : Type} {P : Program} {g : Operand} {ps : Array Tmp} {assign body : Code} {Q : Exit → Act → World → Prop} {a : Act} {w : World}
    {gf : Nat} {lb : Array Value} (hg : a.eval g = .func (.func gf) #[] lb) (eg : ∀ args w, (callFunc gf args).run P w = .ok (.enter gf args) w)
    {encs : α → Array Value} {L : List α} {n0 : Nat} {D : Nat → Prop} (hit : IterOver P gf lb encs L n0 D w) (hps : ∀ x, (encs x).size = ps.size) (hn0 : n0 ≤ w.heap.size)
    (I : Nat → (Nat → Prop) → World → Prop) (C0 : Nat → Prop) (hIlt : ∀ k C W, I k C W → ∀ i, C i → i < W.heap.size)
    (hIstep : ∀ k C W W', I k C W → Below n0 W W' → (∀ i, C i → W'.heap[i]? = W.heap[i]?) → I k C W')
    (h0 : I 0 C0 w) (hsep : ∀ i, C0 i → ¬ D i) (hD : ∀ i, D i → i < w.heap.size) (a₁ : α → Act)
    (hassign : ∀ (l : Nat) (x : α) (W : World) (K : Act → World → Prop), K (a₁ x) W →
      assign.wpIn (Fence.wide.inRound l) 0 P (Exit.then K (fun _ _ _ => False)) { tmps := (ps.zip (encs x)).foldl (fun t (p, v) => t.setIfInBounds p v) a.tmps, defers := [] } W)
    (hbody : ∀ (l k : Nat) (hk : k < L.length) (C : Nat → Prop) (W : World), I k C W → body.wpIn (Fence.wide.inRound l) 0 P (bodyPostL n0 I C k W) (a₁ L[k]) W)
    (hdone : ∀ (Dd : Nat) (C : Nat → Prop) (W : World), w.heap.size ≤ Dd → I L.length C W → W.heap[Dd]? = some (.deferred (some [])) → Q .normal { a with defers := { target := .collected Dd, args := #[] } :: a.defers } W) :
    (Code.rangeFunc g ps assign body).wpIn Fence.wide 0 P Q a w := by
  refine wpIn_rangeFunc ?_
  intro fn hfn
  obtain ⟨rec, hrec⟩ : ∃ rec : LoopState → Option Code → Loop, rec = fun st pe => { state := st, pending := pe, fn, tmps := a.tmps, params := ps, assign, body, defers := w.heap.size } := ⟨_, rfl⟩
  obtain ⟨W1, hW1⟩ : ∃ W1, (w.alloc (.deferred (some []))).alloc (.loop (rec .ready none)) = W1 := ⟨_, rfl⟩
  have hL1 : W1.heap[w.heap.size + 1]? = some (.loop (rec .ready none)) := by
    rw [← hW1]; have := World.alloc_heap_new (w.alloc (.deferred (some []))) (.loop (rec .ready none)); rwa [World.size_alloc] at this
  have hK1 : W1.heap[w.heap.size]? = some (.deferred (some [])) := by
    rw [← hW1]; exact (Below.heap_alloc _ _ _ (by simp)).trans (World.alloc_heap_new w _)
  have hb1 : Below w.heap.size w W1 := by
    rw [← hW1]; exact ((Below.refl _ w).alloc (Nat.le_refl _) _).alloc (by simp) _
  have hI1 : I 0 C0 W1 := hIstep 0 C0 w W1 h0 (hb1.mono hn0) (fun i hi => hb1.block i (hIlt 0 C0 w h0 i hi))
  refine ⟨w.heap.size + 1, [{ target := .collected w.heap.size, args := #[] }], W1, { target := .fn (.func gf) lb, args := #[.func (.yield (w.heap.size + 1)) #[] #[]] }, W1, gf,
    #[.func (.yield (w.heap.size + 1)) #[] #[]] ++ lb, W1, ?_, ?_, ?_, ?_, fun h => by simp [Fence.wide] at h, ?_⟩
  · rw [← hW1, hrec]; exact run_enterLoop_outer _ _ _ _ _
  · simp only [resolve, hg]
    simp [go_sem]
  · intro f' _; trivial
  · simp [invoke, go_sem, eg]
  · refine (hit (w.heap.size + 1)
      (fun k C W => ∃ C1, (∀ i, C i ↔ C1 i ∨ i = w.heap.size ∨ i = w.heap.size + 1) ∧ ¬ C1 w.heap.size ∧ ¬ C1 (w.heap.size + 1) ∧ I k C1 W ∧ W.heap[w.heap.size + 1]? = some (.loop (rec .ready none)) ∧ W.heap[w.heap.size]? = some (.deferred (some [])))
      W1 (fun i => C0 i ∨ i = w.heap.size ∨ i = w.heap.size + 1) hb1 ?_ ?_ ?_ ?_ ?_).mono ?_
    · rintro k C W ⟨C1, hC, hn1, hn2, hi, hl, hk⟩ i hci
      rcases (hC i).1 hci with h | h | h
      · exact hIlt _ _ _ hi i h
      · subst h; exact (Array.getElem?_eq_some_iff.1 hk).1
      · subst h; exact (Array.getElem?_eq_some_iff.1 hl).1
    · rintro k C W W' ⟨C1, hC, hn1, hn2, hi, hl, hk⟩ hB hs
      exact ⟨C1, hC, hn1, hn2, hIstep _ _ _ _ hi hB (fun i h => hs i ((hC i).2 (.inl h))), (hs _ ((hC _).2 (.inr (.inr rfl)))).trans hl, (hs _ ((hC _).2 (.inr (.inl rfl)))).trans hk⟩
    · rintro k hk C W ⟨C1, hC, hn1, hn2, hi, hl, hkk⟩
      have hlt : w.heap.size + 1 < W.heap.size := (Array.getElem?_eq_some_iff.1 hl).1
      have hy := run_yield (P := P) (args := encs L[k]) hl (by rw [hrec]; exact hps _)
      rw [hrec] at hy
      refine ⟨fn, _, assign, body, hy, roundIn_of_wpIn hfn (hassign _ L[k] W _ ⟨_, run_beginRound hl (by rw [hrec]), ?_⟩)⟩
      obtain ⟨W2, hW2⟩ : ∃ W2, W.putObj (w.heap.size + 1) (.loop { rec .ready none with state := .busy }) = W2 := ⟨_, rfl⟩
      have hl2 : W2.heap[w.heap.size + 1]? = some (.loop { rec .ready none with state := .busy }) := by rw [← hW2]; exact World.putObj_heap_same hlt
      have hk2 : W2.heap[w.heap.size]? = some (.deferred (some [])) := by rw [← hW2]; exact (World.putObj_heap_other (by omega)).trans hkk
      have hs2 : ∀ i, i ≠ w.heap.size + 1 → W2.heap[i]? = W.heap[i]? := fun i h => by rw [← hW2]; exact World.putObj_heap_other h
      have hz2 : W2.heap.size = W.heap.size := by rw [← hW2]; simp
      have hbl2 : Below n0 W W2 := by rw [← hW2]; exact below_putObj _ (by omega)
      have hi2 : I k C1 W2 := hIstep _ _ _ _ hi hbl2 (fun i h => hs2 i (fun e => hn2 (e ▸ h)))
      have hbody2 := hbody (w.heap.size + 1) k hk C1 W2 hi2
      rw [← hW2] at hbody2
      refine wpIn_mono hbody2 ?_
      rintro e a3 W3 hp
      rw [hW2] at hp
      cases e with
      | normal =>
        obtain ⟨hbl3, C1', hact, hi3⟩ := hp
        have hl3 : W3.heap[w.heap.size + 1]? = some (.loop { rec .ready none with state := .busy }) := (hact.same _ (by omega) hn2).trans hl2
        have hk3 : W3.heap[w.heap.size]? = some (.deferred (some [])) := (hact.same _ (by omega) hn1).trans hk2
        have hend := run_endRound (P := P) none hl3
        rw [hrec] at hend
        refine ⟨_, _, hend, rfl, ?_, ?_⟩
        · exact (hbl2.trans hbl3).trans (below_putObj _ (by omega))
        · have hn1' : ¬ C1' w.heap.size := fun h => by rcases hact.foot _ h with h1 | h1; exact hn1 h1; omega
          have hn2' : ¬ C1' (w.heap.size + 1) := fun h => by rcases hact.foot _ h with h1 | h1; exact hn2 h1; omega
          refine ⟨fun i => C1' i ∨ i = w.heap.size ∨ i = w.heap.size + 1, ⟨by simp; have := hact.size; omega, ?_, ?_⟩, C1', fun i => Iff.rfl, hn1', hn2', ?_, ?_, ?_⟩
          · intro i hi' hc
            have hc1 : ¬ C1 i ∧ i ≠ w.heap.size ∧ i ≠ w.heap.size + 1 := ⟨fun h => hc ((hC i).2 (.inl h)), fun h => hc ((hC i).2 (.inr (.inl h))), fun h => hc ((hC i).2 (.inr (.inr h)))⟩
            exact (World.putObj_heap_other hc1.2.2).trans ((hact.same i (by omega) hc1.1).trans (hs2 i hc1.2.2))
          · intro i hci
            rcases hci with h | h | h
            · rcases hact.foot i h with h1 | h1
              · exact .inl ((hC i).2 (.inl h1))
              · exact .inr (by omega)
            · exact .inl ((hC i).2 (.inr (.inl h)))
            · exact .inl ((hC i).2 (.inr (.inr h)))
          · exact hIstep _ _ _ _ hi3 (below_putObj _ (by omega)) (fun i h => World.putObj_heap_other (fun e => hn2' (e ▸ h)))
          · rw [hrec]
            exact World.putObj_heap_same (Array.getElem?_eq_some_iff.1 hl3).1
          · exact (World.putObj_heap_other (by omega)).trans hk3
      | _ => exact hp.elim
    · refine ⟨C0, fun i => Iff.rfl, fun h => ?_, fun h => ?_, hI1, hL1, hK1⟩
      · have := hIlt 0 C0 w h0 _ h; omega
      · have := hIlt 0 C0 w h0 _ h; omega
    · intro i hi hd
      have hd' := hD i hd
      rcases hi with h | h | h
      · exact hsep i h hd
      · omega
      · omega
    · rintro e W2 ⟨⟨v, rfl⟩, C, C1, hC, hn1, hn2, hi, hl, hk⟩
      have hend := run_endLoop (P := P) hl (by rw [hrec]; simp)
      rw [hrec] at hend
      refine ⟨none, _, hend, ?_⟩
      exact hdone _ C1 _ (Nat.le_refl _) (hIstep _ _ _ _ hi (below_putObj _ (by omega)) (fun i h => World.putObj_heap_other (fun e => hn2 (e ▸ h)))) ((World.putObj_heap_other (by omega)).trans hk)
end Go.Proofs.YtlmbklpidmkdcaaGreatDoor
namespace Go.Proofs.YtlmbklpidmkdcaaGreatDoor
open Go.RowKit Go.Shelf
attribute [local go_sem] Oper.semAt_some

theorem SI.acts {C C' : Nat → Prop} {W W' : World} {k : IntKind} {x : Value} {xs : List Int} (h : SI W k x xs) (ha : Acts C C' W W') (hne : ∀ g, x.ownBlock = some g → ¬ C g) : SI W' k x xs := by
  obtain ⟨A, c, hv, hc, hr⟩ := h
  refine ⟨A, c, hv, hc, fun j hj => ?_⟩
  obtain ⟨ad, e, hcell⟩ := hr j hj
  refine ⟨ad, e, ?_⟩
  have hlt := World.block_lt_of_cell? W _ hcell
  have hb : (ad.add j).block = ad.block := add_block ad j
  rw [World.cell?_of_block (ha.same _ hlt (by rw [hb]; exact hne _ (by rw [hv, e]; rfl)))]
  exact hcell
theorem cell_acts {C C' : Nat → Prop} {W W' : World} {p : Addr} {v : Value} (h : W.cell? p = some v) (ha : Acts C C' W W') (hne : ¬ C p.block) : W'.cell? p = some v := by
  rw [World.cell?_of_block (ha.same _ (World.block_lt_of_cell? W _ h) hne)]
  exact h
theorem Acts.stays {C C' D : Nat → Prop} {W W' : World} (ha : Acts C C' W W') (hs : ∀ i, C i → ¬ D i) (hD : ∀ i, D i → i < W.heap.size) : ∀ i, C' i → ¬ D i := by
  intro i hi hd
  rcases ha.foot i hi with h | h
  · exact hs i h hd
  · have := hD i hd; omega

/-- What 'from' yields. -/
def fromL (xs : List Int) : List (Nat × Int) := (List.range xs.length).reverse.map fun i => (i, xs[i]?.getD 0)
theorem fromL_length (xs : List Int) : (fromL xs).length = xs.length := by simp [fromL]
theorem fromL_get (xs : List Int) (k : Nat) (hk : k < (fromL xs).length) : (fromL xs)[k] = (xs.length - 1 - k, xs[xs.length - 1 - k]?.getD 0) := by
  simp [fromL]

set_option maxHeartbeats 2000000 in
set_option maxRecDepth 100000 in
theorem from1_iter (xb : Nat) (A : Option Addr) (n c : Nat) (xs : List Int) (n0 : Nat) (w0 : World) (hx : w0.cell? ⟨xb, 0, none⟩ = some (.slice A n c)) (hr : SI w0 .u64 (.slice A n c) xs) (hn : xs.length ≤ 1099511627776) :
    IterOver Tryz.prog 125 #[.pointer (some ⟨xb, 0, none⟩)] (fun p : Nat × Int => #[.int .i64 (p.1 : Int), .int .u64 p.2]) (fromL xs) n0 (fun i => i = xb ∨ (xs ≠ [] ∧ (Value.slice A n c).ownBlock = some i)) w0 := by
  intro l J W C0 hb hlt hstep hround h0 hsep
  obtain ⟨A', c', hv, hcc, hcell⟩ := hr.form
  have hnl : n = xs.length := by injection hv
  subst hnl
  have hxW : W.cell? ⟨xb, 0, none⟩ = some (.slice A xs.length c) := (hb.cell (p := ⟨xb, 0, none⟩) (World.block_lt_of_cell? w0 _ hx)).trans hx
  have hrW : SI W .u64 (.slice A xs.length c) xs := hr.below hb
  have HS := Lib.hid hstep
  have HRo := Lib.hid hround
  have HLT := Lib.hid hlt
  have HJ0 := Lib.hid h0
  have HSEP := Lib.hid hsep
  have HRW := Lib.hid hrW
  clear hx hr hb hlt hstep hround h0 hsep hcell hv hrW
  refine callsIn_of_wp Tryz.func125 rfl trivial ?_ rfl
  simp only [Tryz.ntmps125, List.size_toArray, List.length_cons, List.length_nil, Nat.reduceAdd, Nat.reduceSub, Array.replicate_succ, Array.replicate_zero, List.push_toArray, List.append_toArray, List.nil_append, List.cons_append]
  gi_wp2
  gi_loopw [3] (fun i wr => ∃ (m : Nat) (C : Nat → Prop), m ≤ xs.length ∧ i = .int .i64 ((m : Int) - 1) ∧ J (xs.length - m) C wr ∧ (∀ i, C i → ¬ (i = xb ∨ (xs ≠ [] ∧ (Value.slice A xs.length c).ownBlock = some i))) ∧ wr.cell? ⟨xb, 0, none⟩ = some (.slice A xs.length c) ∧ SI wr .u64 (.slice A xs.length c) xs) (fun i wr => (intOf i + 1).toNat)
  case atStart => exact ⟨xs.length, C0, Nat.le_refl _, rfl, by rw [Nat.sub_self]; exact HJ0.out, HSEP.out, hxW, HRW.out⟩
  case round =>
    obtain ⟨m, C, hm, rfl, hJ, hC, hxr, hsr⟩ := hrel
    by_cases h0 : 0 < m
    · obtain ⟨j, rfl⟩ : ∃ j, m = j + 1 := ⟨m - 1, by omega⟩
      rw [show (((j + 1 : Nat) : Int) - 1) = (j : Int) by omega]
      obtain ⟨A2, c2, hv2, _, hcell2⟩ := hsr.form
      obtain ⟨ad, e, hcl⟩ := hcell2 j (by omega)
      have hA : A = A2 := by injection hv2
      subst hA
      subst e
      have hk : xs.length - (j + 1) < (fromL xs).length := by rw [fromL_length]; omega
      obtain ⟨fn, tmps, assign, body, hy, hR⟩ := HRo.out (xs.length - (j + 1)) hk C wr hJ
      rw [fromL_get, show xs.length - 1 - (xs.length - (j + 1)) = j by omega] at hy
      dsimp only at hy
      generalize hxx : xs[j]?.getD 0 = x at hcl hy
      have HXX := Lib.hid hxx
      have HSR := Lib.hid hsr
      have HR2 := Lib.hid hR
      have HC := Lib.hid hC
      clear hxx hsr hR hJ hcell2 hv2 hC hxW
      have hj1 : xs.length - (j + 1) + 1 = xs.length - j := by omega
      rw [hj1] at HR2
      clear hj1
      gi_wp2
      refine ⟨rfl, HR2.out.mono ?_⟩
      rintro e W' ⟨rfl, hB, C', hact, hJ'⟩
      have hne : xs ≠ [] := fun e => by rw [e] at hm; simp at hm
      have hxb : ¬ C xb := fun h => HC.out xb h (.inl rfl)
      have hxr' : W'.cell? ⟨xb, 0, none⟩ = some (.slice (some ad) xs.length c) := cell_acts hxr hact hxb
      have hsr' : SI W' .u64 (.slice (some ad) xs.length c) xs := HSR.out.acts hact (fun g hg h => HC.out g h (.inr ⟨hne, hg⟩))
      have hC' : ∀ i, C' i → ¬ (i = xb ∨ (xs ≠ [] ∧ (Value.slice (some ad) xs.length c).ownBlock = some i)) := by
        refine hact.stays HC.out (fun i hi => ?_)
        rcases hi with h | ⟨_, h⟩
        · subst h; exact World.block_lt_of_cell? wr _ hxr
        · have hb := World.block_lt_of_cell? wr _ hcl
          rw [add_block] at hb
          simp [Value.ownBlock] at h
          omega
      have HF := Lib.hid (And.intro hJ' (And.intro hC' (And.intro hxr' hsr')))
      clear hJ' hC' hxr' hsr' hact hB hxr hcl HSR HC
      gi_wp2
      exact ⟨⟨j, C', by omega, rfl, HF.out.1, HF.out.2.1, HF.out.2.2.1, HF.out.2.2.2⟩, by simp [intOf]; try omega⟩
    · obtain rfl : m = 0 := by omega
      rw [show (((0 : Nat) : Int) - 1) = -1 by omega]
      have HJ := Lib.hid hJ
      clear hJ hsr
      gi_wp2
      go_end0
      exact ⟨⟨_, rfl⟩, C, by rw [fromL_length]; exact HJ.out⟩
end Go.Proofs.YtlmbklpidmkdcaaGreatDoor
namespace Go.Proofs.YtlmbklpidmkdcaaGreatDoor
open Go.RowKit

set_option maxHeartbeats 4000000 in
set_option maxRecDepth 100000 in
theorem div64_big (hi lo y : Nat) (w : World) (h0 : 1 ≤ hi) (h1 : hi < y) (l1 : lo < 18446744073709551616) (y1 : y < 18446744073709551616) (s : Nat) (hs : s ≤ 63) (hsl : Lib.bitLen y = 64 - s) :
    Calls Tryz.prog 117 #[.int .u64 (hi : Int), .int .u64 (lo : Int), .int .u64 (y : Int)] w (RetV w (.tuple #[.int .u64 (((hi * 18446744073709551616 + lo) / y : Nat) : Int), .int .u64 (((hi * 18446744073709551616 + lo) % y : Nat) : Int)])) := by
  have hsl2 : (Lib.bitLen y : Int) = 64 - (s : Int) := by omega
  have HSL := Lib.hid hsl2
  obtain ⟨Y, v1, v0, n32, m, n1, n0, e1, e2, e3, e4, e5, e6, e7, f1, f2, f3, f4, f5, f6, f7⟩ := div64_prep hi lo y s h0 h1 l1 y1 hs hsl
  have HE := Lib.hid (And.intro e1 (And.intro e2 (And.intro e3 (And.intro e4 (And.intro e5 (And.intro e6 e7))))))
  have HK := Lib.hid f2
  have HF := Lib.hid (And.intro f1 (And.intro f5 f7))
  clear hsl hsl2 e1 e2 e3 e4 e5 e6 e7 f1 f2 f5 f7
  have t1 : ((y : Int) == 0) = false := beq_eq_false_iff_ne.2 (by omega)
  have t2 : ((hi : Int) == 0) = false := beq_eq_false_iff_ne.2 (by omega)
  go_enter Tryz.func117, Tryz.ntmps117
  go_upto_region 15 with (go_at_call 107; refine (Tryz.bits_LeadingZeros64 (y : Int) _ (by omega) (by omega)).mono ?_; rintro e w' ⟨rfl, rfl⟩; rw [Int.toNat_natCast, HSL.out, show (64 : Int) - (64 - (s : Int)) = (s : Int) by omega])
  simp only [HE.out.1, HE.out.2.1, HE.out.2.2.1, HE.out.2.2.2.1, HE.out.2.2.2.2.1, HE.out.2.2.2.2.2.1, HE.out.2.2.2.2.2.2]
  have k1 := HK.out.a0
  have k2 := HK.out.b0
  have k3 := HK.out.b1
  have k4 := HK.out.c0
  have k5 := HK.out.c1
  have k6 := HK.out.d0
  have k7 := HK.out.d1
  have k8 : n32 < 18446744073709551616 := by
    have := HK.out.a1
    have := HF.out.1
    omega
  have hst := HK.out.start
  have hr : IntKind.u64.wrap (n32 - IntKind.u64.wrap (n32 / v1 * v1)) = n32 % v1 := by
    have g1 := Int.mul_ediv_add_emod n32 v1
    have g2 := Int.emod_nonneg n32 (show v1 ≠ 0 by omega)
    have g3 : n32 / v1 * v1 = v1 * (n32 / v1) := Int.mul_comm _ _
    have g4 := Int.mul_nonneg (show 0 ≤ v1 by omega) (Int.ediv_nonneg k1 (show 0 ≤ v1 by omega))
    have g5 := HK.out.a1
    have g6 := HF.out.1
    have g7 := wrap_u64 (n32 / v1 * v1) (by omega) (by omega)
    rw [g7]
    refine (wrap_u64 _ (by omega) (by omega)).trans ?_
    omega
  generalize hq : n32 / v1 = q at hst hr
  generalize hrr : n32 % v1 = r at hst hr
  have HS := Lib.hid hst
  have HRR := Lib.hid hrr
  clear hst hrr
  go_upto_block 0 with (fail)
  rw [hq]
  clear hr hq
  obtain ⟨Q1, hQ1⟩ : ∃ Q1, Q1 = (n32 * 4294967296 + n1) / (v1 * 4294967296 + v0) := ⟨_, rfl⟩
  have HQ1 := Lib.hid hQ1
  clear hQ1
  go_cut [15] (fun a wx => a = .int .u64 Q1 ∧ w' = wx)
  case first =>
    go_wp2_with fail
    go_loop [15, 16] (fun a b => ∃ q r : Int, a = .int .u64 q ∧ b = .int .u64 r ∧ KnuthIn n32 n1 v1 v0 q r) (fun a _ => (intOf a).toNat)
    case atStart => exact ⟨q, r, rfl, rfl, HS.out⟩
    case round =>
      obtain ⟨q, r, rfl, rfl, hk⟩ := hrel
      have q0 := hk.q0
      have q1 := hk.q1
      have r0 := hk.r0
      have r1 := hk.r1
      have HKI := Lib.hid hk
      clear hk
      by_cases ht : q ≥ 4294967296
      · have hq1 : 1 ≤ q := by omega
        by_cases hb : 4294967296 ≤ r + v1
        · have HD := Lib.hid (HKI.out.brk HK.out (.inl ht) hb).2
          rw [← HQ1.out] at HD
          go_wp2_with fail
          go_meet
          exact ⟨by rw [← HD.out], rfl⟩
        · have HD := Lib.hid (HKI.out.next HK.out (.inl ht) (by omega)).2
          go_wp2_with fail
          go_round
          case rel => exact ⟨_, _, rfl, rfl, HD.out⟩
          case measure => simp [intOf]; omega
      · have hz0 : 0 ≤ q * v0 := Int.mul_nonneg q0 k6
        have hz1 : q * v0 ≤ 18446744065119617025 := Int.mul_le_mul (c := 4294967295) (d := 4294967295) (by omega) (by omega) k6 (by omega)
        by_cases ht2 : 4294967296 * r + n1 < q * v0
        · have hq1 : 1 ≤ q := (HKI.out.down HK.out (.inr ht2)).1
          by_cases hb : 4294967296 ≤ r + v1
          · have HD := Lib.hid (HKI.out.brk HK.out (.inr ht2) hb).2
            rw [← HQ1.out] at HD
            go_wp2_with fail
            go_meet
            exact ⟨by rw [← HD.out], rfl⟩
          · have HD := Lib.hid (HKI.out.next HK.out (.inr ht2) (by omega)).2
            go_wp2_with fail
            go_round
            case rel => exact ⟨_, _, rfl, rfl, HD.out⟩
            case measure => simp [intOf]; omega
        · have hqq := HKI.out.stop HK.out (by omega)
          rw [← HQ1.out] at hqq
          have HQQ := Lib.hid hqq
          clear hqq
          go_wp2_with fail
          go_meet
          exact ⟨by rw [HQQ.out], rfl⟩
  case rest =>
    obtain ⟨rfl, rfl⟩ := hcut
    go_upto_region 22 with (fail)
    have HR1 := Lib.hid (knuth_rem HK.out HF.out.1 f6 HQ1.out)
    rw [HR1.out]
    obtain ⟨R1, hR1⟩ : ∃ R1, R1 = (n32 * 4294967296 + n1) % Y := ⟨_, rfl⟩
    rw [← hR1]
    have HR := Lib.hid hR1
    have hK2 := knuth_next HK.out HF.out.1 f3 f4
    rw [← hR1] at hK2
    have HK2 := Lib.hid hK2
    clear hR1 hK2
    have j1 := HK2.out.a0
    have j2 := HK2.out.b0
    have j3 := HK2.out.b1
    have j8 : R1 < 18446744073709551616 := by
      have := HK2.out.a1
      have := HF.out.1
      omega
    have hst := HK2.out.start
    have hr : IntKind.u64.wrap (R1 - IntKind.u64.wrap (R1 / v1 * v1)) = R1 % v1 := by
      have g1 := Int.mul_ediv_add_emod R1 v1
      have g2 := Int.emod_nonneg R1 (show v1 ≠ 0 by omega)
      have g3 : R1 / v1 * v1 = v1 * (R1 / v1) := Int.mul_comm _ _
      have g4 := Int.mul_nonneg (show 0 ≤ v1 by omega) (Int.ediv_nonneg j1 (show 0 ≤ v1 by omega))
      have g7 := wrap_u64 (R1 / v1 * v1) (by omega) (by omega)
      rw [g7]
      refine (wrap_u64 _ (by omega) (by omega)).trans ?_
      omega
    generalize hq : R1 / v1 = q at hst hr
    generalize hrr : R1 % v1 = r at hst hr
    have HS2 := Lib.hid hst
    have HRR2 := Lib.hid hrr
    clear hst hrr
    go_upto_block 2 with (fail)
    rw [hq]
    clear hr hq
    obtain ⟨Q0, hQ0⟩ : ∃ Q0, Q0 = (R1 * 4294967296 + n0) / (v1 * 4294967296 + v0) := ⟨_, rfl⟩
    have HQ0 := Lib.hid hQ0
    clear hQ0
    go_cut [18] (fun a wx => a = .int .u64 Q0 ∧ w' = wx)
    case first =>
      go_wp2_with fail
      go_loop [18, 16] (fun a b => ∃ q r : Int, a = .int .u64 q ∧ b = .int .u64 r ∧ KnuthIn R1 n0 v1 v0 q r) (fun a _ => (intOf a).toNat)
      case atStart => exact ⟨q, r, rfl, rfl, HS2.out⟩
      case round =>
        obtain ⟨q, r, rfl, rfl, hk⟩ := hrel
        have q0 := hk.q0
        have q1 := hk.q1
        have r0 := hk.r0
        have r1 := hk.r1
        have HKI := Lib.hid hk
        clear hk
        by_cases ht : q ≥ 4294967296
        · have hq1 : 1 ≤ q := by omega
          by_cases hb : 4294967296 ≤ r + v1
          · have HD := Lib.hid (HKI.out.brk HK2.out (.inl ht) hb).2
            rw [← HQ0.out] at HD
            go_wp2_with fail
            go_meet
            exact ⟨by rw [← HD.out], rfl⟩
          · have HD := Lib.hid (HKI.out.next HK2.out (.inl ht) (by omega)).2
            go_wp2_with fail
            go_round
            case rel => exact ⟨_, _, rfl, rfl, HD.out⟩
            case measure => simp [intOf]; omega
        · have hz0 : 0 ≤ q * v0 := Int.mul_nonneg q0 k6
          have hz1 : q * v0 ≤ 18446744065119617025 := Int.mul_le_mul (c := 4294967295) (d := 4294967295) (by omega) (by omega) k6 (by omega)
          by_cases ht2 : 4294967296 * r + n0 < q * v0
          · have hq1 : 1 ≤ q := (HKI.out.down HK2.out (.inr ht2)).1
            by_cases hb : 4294967296 ≤ r + v1
            · have HD := Lib.hid (HKI.out.brk HK2.out (.inr ht2) hb).2
              rw [← HQ0.out] at HD
              go_wp2_with fail
              go_meet
              exact ⟨by rw [← HD.out], rfl⟩
            · have HD := Lib.hid (HKI.out.next HK2.out (.inr ht2) (by omega)).2
              go_wp2_with fail
              go_round
              case rel => exact ⟨_, _, rfl, rfl, HD.out⟩
              case measure => simp [intOf]; omega
          · have hqq := HKI.out.stop HK2.out (by omega)
            rw [← HQ0.out] at hqq
            have HQQ := Lib.hid hqq
            clear hqq
            go_wp2_with fail
            go_meet
            exact ⟨by rw [HQQ.out], rfl⟩
    case rest =>
      obtain ⟨rfl, rfl⟩ := hcut
      have HX := Lib.hid (knuth_fin HK.out HF.out.1 f3 f4 (by omega) HQ1.out HR.out HQ0.out rfl HF.out.2.1 HF.out.2.2)
      have HR0 := Lib.hid (knuth_rem HK2.out HF.out.1 f6 HQ0.out)
      go_upto_region 30 with (fail)
      rw [HR0.out, HX.out.1, HX.out.2]
      go_wp2_with fail
      go_ret2
      exact ⟨rfl, rfl⟩

set_option maxRecDepth 100000 in
theorem div64_low (lo y : Nat) (w : World) (h1 : 0 < y) (l1 : lo < 18446744073709551616) (y1 : y < 18446744073709551616) :
    Calls Tryz.prog 117 #[.int .u64 0, .int .u64 (lo : Int), .int .u64 (y : Int)] w (RetB w (.tuple #[.int .u64 ((lo / y : Nat) : Int), .int .u64 ((lo % y : Nat) : Int)])) := by
  have t1 : ((y : Int) == 0) = false := beq_eq_false_iff_ne.2 (by omega)
  have e1 : IntKind.u64.wrap ((lo : Int) / (y : Int)) = ((lo / y : Nat) : Int) := by
    rw [← Int.natCast_ediv]
    have := Nat.div_le_self lo y
    generalize lo / y = z at *
    exact wrap_u64 _ (by omega) (by omega)
  have e2 : ((lo : Int) % (y : Int)) = ((lo % y : Nat) : Int) := by
    rw [← Int.natCast_emod]
  have H1 := Lib.hid e1
  have H2 := Lib.hid e2
  clear e1 e2
  go_enter Tryz.func117, Tryz.ntmps117
  go_wp2
  go_quiet (fail)
  go_wp2
  go_ret2
  show RetB w _ (.returned (.tuple #[.int .u64 (IntKind.u64.wrap ((lo : Int) / (y : Int))), .int .u64 ((lo : Int) % (y : Int))])) _
  rw [H1.out, H2.out]
  exact ⟨rfl, below_drewN (Below.refl _ _) nq⟩

/-- Div64 divides. -/
theorem div64_calls (hi lo y : Nat) (w : World) (h1 : hi < y) (l1 : lo < 18446744073709551616) (y1 : y < 18446744073709551616) :
    Calls Tryz.prog 117 #[.int .u64 (hi : Int), .int .u64 (lo : Int), .int .u64 (y : Int)] w (RetB w (.tuple #[.int .u64 (((hi * 18446744073709551616 + lo) / y : Nat) : Int), .int .u64 (((hi * 18446744073709551616 + lo) % y : Nat) : Int)])) := by
  by_cases h0 : hi = 0
  · subst h0
    simp only [Nat.zero_mul, Nat.zero_add]
    exact div64_low lo y w (by omega) l1 y1
  · have hb := bitLen_spec 64 y y1 (Nat.le_refl _) (by omega)
    have hle : Lib.bitLen y ≤ 64 := by
      rcases Nat.lt_or_ge 64 (Lib.bitLen y) with h | h
      · have := Nat.pow_le_pow_right (n := 2) (by omega) (show 65 ≤ Lib.bitLen y from h)
        have e : (2 : Nat) ^ 65 = 36893488147419103232 := by decide
        omega
      · exact h
    have hge : 1 ≤ Lib.bitLen y := by
      rcases Nat.eq_zero_or_pos (Lib.bitLen y) with h | h
      · rw [h] at hb; have : y < 1 := hb.2; omega
      · exact h
    refine (div64_big hi lo y w (by omega) h1 l1 y1 (64 - Lib.bitLen y) (by omega) (by omega)).mono ?_
    rintro e w' ⟨rfl, rfl⟩
    exact ⟨rfl, Below.refl _ _⟩
end Go.Proofs.YtlmbklpidmkdcaaGreatDoor
namespace Go.Proofs.YtlmbklpidmkdcaaGreatDoor
open Go.RowKit

section
variable {P : Program} {md : Region.Mode} {ops : Array Oper} {Q : Exit → Act → World → Prop}
theorem wpOpIn_round (l : Nat) (hnd : ∀ (j : Nat) (o : Oper), ops[j]? = some o → ∀ c, o.op ≠ .defer c) (hL : ¬ LetsOut Q) {i : Nat} {K : Act → World → Prop} {a : Act} {w : World} (h : wpOp P ops Q i K a w) :
    wpOpIn (Fence.wide.inRound l) 0 P ops Q i K a w := by
  unfold wpOp at h
  unfold wpOpIn
  cases ho : ops[i]? with
  | none => rw [ho] at h; exact h
  | some o =>
    rw [ho] at h
    dsimp only at h ⊢
    by_cases hw : Region.wanted o (yielded ops a.tmps) = true
    · rw [if_pos hw] at h ⊢
      rcases h with h | h
      · refine ⟨fun f _ => trivial, ?_⟩
        rw [Oper.semAt_eq _ _ _ (hnd i o ho)]
        unfold Oper.wp at h
        generalize (execOp a.eval o).run P w = r at h ⊢
        cases r with
        | ok n w' =>
          cases n with
          | value v => exact h
          | skip => exact h
          | defer d => exact h
          | enter f args => exact ⟨fun h0 => by simp [Fence.wide] at h0, CallsIn.inRound l (callsIn_wide.2 h)⟩
          | row r args => exact ⟨fun h0 => by simp [Fence.wide] at h0, fun c cs _ => by obtain ⟨v, w2, hr, s⟩ := h c cs; exact ⟨v, w2, hr, stepsIn_wide.2 s⟩⟩
          | _ => exact False.elim h
        | halt x w' =>
          cases x with
          | panic v => exact h
          | _ => exact False.elim h
      · exact absurd h.2 hL
    · rw [if_neg hw] at h ⊢
      exact ⟨fun f _ => trivial, h⟩
theorem wpAnyIn_round (l : Nat) (hnd : ∀ (j : Nat) (o : Oper), ops[j]? = some o → ∀ c, o.op ≠ .defer c) (hL : ¬ LetsOut Q) : ∀ (fuel : Nat) (listed : Array Bool) (a : Act) (w : World), wpAny P md ops Q fuel listed a w → wpAnyIn (Fence.wide.inRound l) 0 P md ops Q fuel listed a w
  | 0, _, _, _, h => h
  | fuel + 1, listed, a, w, h => ⟨h.1, fun i hi => wpOpIn_round l hnd hL (wpOp_mono (fun a' w' h' => wpAnyIn_round l hnd hL fuel _ a' w' h') (h.2 i hi))⟩

def noDefers (ops : Array Oper) : Bool := ops.all fun o => match o.op with | .defer _ => false | _ => true
theorem noDefers_spec (h : noDefers ops = true) (j : Nat) (o : Oper) (ho : ops[j]? = some o) (c : Call) : o.op ≠ .defer c := by
  intro he
  have := (Array.all_eq_true_iff_forall_mem.1 h) o (Array.mem_of_getElem? ho)
  rw [he] at this
  simp at this

theorem wpIn_region_held (l : Nat) (S : World → Prop) {id : Nat} {a : Act} {w : World} (hm : P.follows .mixedOrders = true) (hd : noDefers ops = true) (hL : ¬ LetsOut Q) (hS : S w.drew)
    (h : S w.drew → wpAnyH P .any ops Q S ops.size (Array.replicate ops.size false) a w.drew) : (Code.region id ops true).wpIn (Fence.wide.inRound l) 0 P Q a w :=
  wpIn_region_any hm (wpAnyIn_round l (noDefers_spec hd) hL _ _ _ _ (wpAny_of_held _ _ _ _ (h hS)))

/-- One operation is taken first. -/
theorem held_take {S : World → Prop} (i : Nat) (v : Value) {fuel : Nat} {listed : Array Bool} {a : Act} {w : World} {oi : Oper} (hi : ops[i]? = some oi)
    (hs : Region.noSelect ops = true) (hf : Region.free md ops listed i = true) (hr : (Region.ready md ops listed).contains i = true)
    (hQ : ∀ c a w, ¬ Q (.panic c) a w) (hw : Region.wanted oi (yielded ops a.tmps) = true) (hy : ∀ w, S w → (execOp a.eval oi).run P w = .ok (.value v) w) (hS : S w)
    (h : wpAnyH P md ops Q S fuel (listed.setIfInBounds i true) (a.put oi.dst v) w) : wpAnyH P md ops Q S (fuel + 1) listed a w :=
  wpAnyH_take hi hs hf hr (fun c a w hp => absurd hp (hQ _ _ _)) (.inl ⟨hw, hy⟩) hS h
/-- One operation alone may come up. -/
theorem held_one {S : World → Prop} (i : Nat) {fuel : Nat} {listed : Array Bool} {a : Act} {w : World} {o : Oper} (ho : ops[i]? = some o)
    (hr : Region.ready md ops listed = [i]) (hw : Region.wanted o (yielded ops a.tmps) = true)
    (h' : ∀ K' : Act → World → Prop, Shut (∀ a w, S w → (S w → wpAnyH P md ops Q S fuel (listed.setIfInBounds i true) a w) → K' a w) → Oper.wp P o a w K' Q) : wpAnyH P md ops Q S (fuel + 1) listed a w := by
  have h : Oper.wp P o a w (fun a' w' => S w' ∧ wpAnyH P md ops Q S fuel (listed.setIfInBounds i true) a' w') Q := h' _ (fun a w hS hW => ⟨hS, hW hS⟩)
  refine wpAnyH_all hr (by simp) (fun j hj => ?_)
  have : j = i := by simpa using hj
  subst this
  unfold wpOp
  simp only [ho]
  rw [if_pos hw]
  exact .inl h
/-- One of two may come up. -/
theorem held_two {S : World → Prop} (i j : Nat) {fuel : Nat} {listed : Array Bool} {a : Act} {w : World} {o o' : Oper} (ho : ops[i]? = some o) (ho' : ops[j]? = some o')
    (hr : Region.ready md ops listed = [i, j]) (hw : Region.wanted o (yielded ops a.tmps) = true) (hw' : Region.wanted o' (yielded ops a.tmps) = true)
    (h1 : ∀ K' : Act → World → Prop, Shut (∀ a w, S w → (S w → wpAnyH P md ops Q S fuel (listed.setIfInBounds i true) a w) → K' a w) → Oper.wp P o a w K' Q)
    (h2 : ∀ K' : Act → World → Prop, Shut (∀ a w, S w → (S w → wpAnyH P md ops Q S fuel (listed.setIfInBounds j true) a w) → K' a w) → Oper.wp P o' a w K' Q) : wpAnyH P md ops Q S (fuel + 1) listed a w := by
  have g1 : Oper.wp P o a w (fun a' w' => S w' ∧ wpAnyH P md ops Q S fuel (listed.setIfInBounds i true) a' w') Q := h1 _ (fun a w hS hW => ⟨hS, hW hS⟩)
  have g2 : Oper.wp P o' a w (fun a' w' => S w' ∧ wpAnyH P md ops Q S fuel (listed.setIfInBounds j true) a' w') Q := h2 _ (fun a w hS hW => ⟨hS, hW hS⟩)
  refine wpAnyH_all hr (by simp) (fun m hm => ?_)
  have hm' : m = i ∨ m = j := by simpa using hm
  rcases hm' with rfl | rfl
  · unfold wpOp
    simp only [ho]
    rw [if_pos hw]
    exact .inl g1
  · unfold wpOp
    simp only [ho']
    rw [if_pos hw']
    exact .inl g2
end
end Go.Proofs.YtlmbklpidmkdcaaGreatDoor
namespace Go.Proofs.YtlmbklpidmkdcaaGreatDoor
open Go.RowKit Go.Shelf
attribute [local go_sem] Oper.semAt_some
theorem wide_fn (f : FuncId) : Fence.wide.fn f = True := eq_true trivial
theorem wide_depth : Fence.wide.depth = none := rfl
attribute [local go_sem] wide_fn wide_depth

theorem Own.foot {B e : Nat} {w w1 : World} {k : IntKind} {v : Value} {xs : List Int} (h : Own B e w k v xs) (hs : ∀ g, v.ownBlock = some g → w1.heap[g]? = w.heap[g]?) : Own B e w1 k v xs := by
  obtain ⟨h1, h2⟩ := h
  refine ⟨h1, ?_⟩
  rcases h2 with h2 | ⟨g, cap, cur, hv, hg, hh, r⟩
  · exact .inl h2
  · exact .inr ⟨g, cap, cur, hv, hg, by rw [hs g (by rw [hv]; rfl)]; exact hh, r⟩
theorem cell_foot {W W' : World} {b : Nat} {v : Value} (h : W.cell? ⟨b, 0, none⟩ = some v) (hs : W'.heap[b]? = W.heap[b]?) : W'.cell? ⟨b, 0, none⟩ = some v := by
  rw [World.cell?_of_block hs]; exact h
theorem frozen_foot {W W' : World} {p : Addr} {v : Bool} (h : W.frozen? p = v) (hs : W'.heap[p.block]? = W.heap[p.block]?) : W'.frozen? p = v := by
  rw [← h]; unfold World.frozen?; rw [hs]

theorem from_calls (A : Option Addr) (n c : Nat) (w : World) : Calls Tryz.prog 116 #[.slice A n c] w fun e w' => e = .returned (.func (.func 125) #[] #[.pointer (some ⟨w.heap.size, 0, none⟩)]) ∧ w' = w.alloc (.cells #[.slice A n c] 22) := by
  go_enter Tryz.func116, Tryz.ntmps116
  go_wp2
  go_ret
  exact ⟨rfl, rfl⟩

theorem divrow_step (d x q r h : Nat) (qs xs : List Int) (j : Nat) (hq : q = (h * 18446744073709551616 + x) / d) (hr : r = (h * 18446744073709551616 + x) % d) (hx : xs[j]?.getD 0 = (x : Int)) (hj : j < xs.length)
    (he : val 18446744073709551616 qs * d + h = val 18446744073709551616 (xs.drop (j + 1))) : val 18446744073709551616 ((q : Int) :: qs) * d + r = val 18446744073709551616 (xs.drop j) := by
  rw [List.drop_eq_getElem_cons hj, val_cons, val_cons, ← he]
  have e : xs[j] = (x : Int) := by rw [← hx, List.getElem?_eq_getElem hj]; rfl
  have := Nat.div_add_mod (h * 18446744073709551616 + x) d
  rw [← hq, ← hr] at this
  rw [e, Int.toNat_natCast, Int.toNat_natCast]
  grind
theorem set_zeros (j : Nat) (q : Int) (qs : List Int) : (List.replicate (j + 1) 0 ++ qs).set j q = List.replicate j 0 ++ (q :: qs) := by
  rw [List.set_append_left _ _ (by simp)]
  rw [List.replicate_succ', List.set_append_right _ _ (by simp)]
  simp

/-- The quotient of a row and a word, as a row of the call's own, and the rest. -/
def RetDiv (w : World) (xs : List Int) (d : Nat) (e : Ending) (w' : World) : Prop := ∃ (v1 : Value) (zs : List Int) (r : Nat), e = .returned (.tuple #[v1, .int .u64 (r : Int), .int .i64 0]) ∧ Own w.heap.size 42 w' .u64 v1 zs ∧ Below w.heap.size w w' ∧ zs.length = xs.length ∧ U64 zs ∧
      val 18446744073709551616 zs * d + r = val 18446744073709551616 xs ∧ r < d

/-- Div64, its results under names. -/
def RetD64 (w : World) (hi lo y : Nat) (e : Ending) (w' : World) : Prop := ∃ q r : Nat, e = .returned (.tuple #[.int .u64 (q : Int), .int .u64 (r : Int)]) ∧ Hid (q = (hi * 18446744073709551616 + lo) / y ∧ r = (hi * 18446744073709551616 + lo) % y) ∧ Below w.heap.size w w'
theorem div64_named (hi lo y : Nat) (w : World) (h1 : hi < y) (l1 : lo < 18446744073709551616) (y1 : y < 18446744073709551616) :
    Calls Tryz.prog 117 #[.int .u64 (hi : Int), .int .u64 (lo : Int), .int .u64 (y : Int)] w (RetD64 w hi lo y) := by
  refine (div64_calls hi lo y w h1 l1 y1).mono ?_
  rintro e w' ⟨rfl, hb⟩
  exact ⟨_, _, rfl, Lib.hid ⟨rfl, rfl⟩, hb⟩

set_option maxHeartbeats 1000000 in
set_option maxRecDepth 100000 in
theorem wdiv_calls (A : Option Addr) (n c : Nat) (xs : List Int) (d : Nat) (w : World) (hr : SI w .u64 (.slice A n c) xs) (hu : U64 xs) (hn : xs.length ≤ 4096) (hd : 0 < d) (hd2 : d < 18446744073709551616) :
    Calls Tryz.prog 96 #[.slice A n c, .int .u64 (d : Int), .int .u64 0] w (RetDiv w xs d) := by
  obtain ⟨A', c', hv, hcc, hcell⟩ := hr.form
  have hnl : n = xs.length := by injection hv
  subst hnl
  have HR := Lib.hid hr
  have HU := Lib.hid hu
  clear hr hu hv hcell
  have t1 : ((d : Int) == 0) = false := beq_eq_false_iff_ne.2 (by omega)
  refine (callsIn_wide (n := 1)).1 ?_
  refine callsIn_of_wp_marks Tryz.func96 rfl trivial ?_ rfl
  simp only [Tryz.ntmps96, List.size_toArray, List.length_cons, List.length_nil, Nat.reduceAdd, Nat.reduceSub, Array.replicate_succ, Array.replicate_zero, List.push_toArray, List.append_toArray, List.nil_append, List.cons_append]
  refine wpIn_wide.2 ?_
  go_upto_region 1 with (fail)
  obtain ⟨w0, hw0⟩ : ∃ w0, w0 = (w.alloc (.cells #[.int .u64 (d : Int)] 42)).alloc (.cells #[.int .u64 0] 42) := ⟨_, rfl⟩
  have c4 : w0.cell? ⟨w.heap.size, 0, none⟩ = some (.int .u64 (d : Int)) := by rw [hw0]; simp [go_sem]
  have c5 : w0.cell? ⟨w.heap.size + 1, 0, none⟩ = some (.int .u64 0) := by rw [hw0]; simp [go_sem]
  have c6 : w0.frozen? ⟨w.heap.size + 1, 0, none⟩ = false := by rw [hw0]; simp [go_sem]
  have c7 : w0.heap.size = w.heap.size + 2 := by rw [hw0]; simp
  have c8 : Below w.heap.size w w0 := by rw [hw0]; exact (below_new _ _).trans ((below_new _ _).mono (by simp))
  rw [← hw0]
  have HW := Lib.hid hw0
  clear hw0
  obtain ⟨w1, hw1⟩ : ∃ w1, w1 = w0.alloc (.cells #[.slice A xs.length c] 22) := ⟨_, rfl⟩
  have hfew : Few w1 (some ⟨w0.heap.size, 0, none⟩) 1 := by rw [hw1]; exact few_one _ _ _ _ _ hn
  have hcall := fewW_calls (some ⟨w0.heap.size, 0, none⟩) 1 1 w1 hfew (by omega)
  have b4 : w1.cell? ⟨w.heap.size, 0, none⟩ = some (.int .u64 (d : Int)) := by rw [hw1]; exact (below_new _ _).cell (by simp; omega) |>.trans c4
  have c6' : w1.frozen? ⟨w.heap.size + 1, 0, none⟩ = false := by rw [hw1]; exact (frozen_foot c6 ((below_new _ _).block _ (by simp; omega)))
  have b5 : w1.cell? ⟨w.heap.size + 1, 0, none⟩ = some (.int .u64 0) := by rw [hw1]; exact (below_new _ _).cell (by simp; omega) |>.trans c5
  have B1 : Below w.heap.size w w1 := by rw [hw1]; exact c8.trans ((below_new _ _).mono (by omega))
  have S1 : w.heap.size ≤ w1.heap.size := by rw [hw1]; simp; omega
  have HW1 := Lib.hid hw1
  rw [hw1] at hcall
  clear hw1 hfew c4 c5 c6
  have C7 := Lib.hid c7
  clear c7
  go_wp2_with (first
    | (go_at_call 115; refine hcall.mono ?_; clear hcall; rintro e w' ⟨rfl, rfl⟩; rw [← HW1.out])
    | (at_make; refine wpList_mk (W0 := w) rfl (.tmp 25) (.tmp 25) 22 rfl w.heap.size 42 8 .u64 Tryz.underlying22 info64 .i64 .i64 xs.length _ _ rfl rfl rfl rfl (by omega) (by omega) B1 S1 ?_; intro g w4 hO hBg hgt hB hB2 hsz)
    | (go_at_call 116; refine (from_calls _ _ _ _).mono ?_; rintro e w' ⟨rfl, rfl⟩))
  rename_i hKa
  have hA : xs ≠ [] → ∀ i, (Value.slice A xs.length c).ownBlock = some i → i < w.heap.size := by
    intro hne i hi
    obtain ⟨g', e, hlt⟩ := HR.out.block hne
    rw [e] at hi
    injection hi with hi
    omega
  have hgl : g < w4.heap.size := (World.ownsRow.lt hO g rfl).2
  have C4 : Below w.heap.size w w4 := B1.trans (hB2.mono S1)
  have S4 : w.heap.size + 2 < w1.heap.size := by rw [HW1.out]; simp; have := C7.out; omega
  obtain ⟨w5, hw5⟩ : ∃ w5, w5 = (w4.alloc (.cells #[.slice (some ⟨g, 0, none⟩) xs.length xs.length] 22)).alloc (.cells #[.slice A xs.length c] 22) := ⟨_, rfl⟩
  have B5 : Below w4.heap.size w4 w5 := by rw [hw5]; exact (below_new _ _).trans ((below_new _ _).mono (by simp))
  have f4 : w5.cell? ⟨w.heap.size, 0, none⟩ = some (.int .u64 (d : Int)) := (B5.cell (by simp; omega)).trans ((hB2.cell (by simp; omega)).trans b4)
  have f5 : w5.cell? ⟨w.heap.size + 1, 0, none⟩ = some (.int .u64 0) := (B5.cell (by simp; omega)).trans ((hB2.cell (by simp; omega)).trans b5)
  have f6 : w5.frozen? ⟨w.heap.size + 1, 0, none⟩ = false := frozen_foot (frozen_foot c6' (hB2.block _ (by simp; omega))) (B5.block _ (by simp; omega))
  have f7 : w5.cell? ⟨w4.heap.size, 0, none⟩ = some (.slice (some ⟨g, 0, none⟩) xs.length xs.length) := by rw [hw5]; simp [go_sem]
  have f8 : w5.cell? ⟨w4.heap.size + 1, 0, none⟩ = some (.slice A xs.length c) := by rw [hw5]; simp [go_sem]
  have f9 : w5.heap.size = w4.heap.size + 2 := by rw [hw5]; simp
  have f10 : Below w.heap.size w w5 := C4.trans (B5.mono (by omega))
  have f11 : Own w.heap.size 42 w5 .u64 (.slice (some ⟨g, 0, none⟩) xs.length xs.length) (List.replicate xs.length 0) := hO.below B5
  rw [← hw5]
  have HIT := Lib.hid (from1_iter (w4.heap.size + 1) A xs.length c xs w.heap.size w5 f8 (HR.out.below f10) (by omega))
  clear hw5 HW1
  refine (wpIn_wide (n := 0)).1 (wpIn_range (gf := 125) (lb := #[.pointer (some ⟨w4.heap.size + 1, 0, none⟩)]) rfl (enters_of Tryz.func125 (by kernel_rfl) rfl) HIT.out (by intro x; rfl) (by omega)
    (fun k C W => ∃ (qs : List Int) (h : Nat), k ≤ xs.length ∧ qs.length = k ∧ U64 qs ∧ Own w.heap.size 42 W .u64 (.slice (some ⟨g, 0, none⟩) xs.length xs.length) (List.replicate (xs.length - k) 0 ++ qs) ∧
      W.cell? ⟨w.heap.size, 0, none⟩ = some (.int .u64 (d : Int)) ∧ W.cell? ⟨w.heap.size + 1, 0, none⟩ = some (.int .u64 (h : Int)) ∧ W.frozen? ⟨w.heap.size + 1, 0, none⟩ = false ∧ W.cell? ⟨w4.heap.size, 0, none⟩ = some (.slice (some ⟨g, 0, none⟩) xs.length xs.length) ∧
      val 18446744073709551616 qs * d + h = val 18446744073709551616 (xs.drop (xs.length - k)) ∧ h < d ∧ Below w.heap.size w W ∧ (∀ i, C i ↔ i = w.heap.size ∨ i = w.heap.size + 1 ∨ i = w4.heap.size ∨ i = g))
    (fun i => i = w.heap.size ∨ i = w.heap.size + 1 ∨ i = w4.heap.size ∨ i = g) ?lt ?step ?start ?sep ?foot (fun x => { tmps := #[.slice A xs.length c, .int .u64 (d : Int), .int .u64 0, undef, .pointer (some ⟨w.heap.size, 0, none⟩), .pointer (some ⟨w.heap.size + 1, 0, none⟩), .slice none 0 0, .int .u64 0, .int .i64 0, .pointer (some ⟨w4.heap.size, 0, none⟩), .int .i64 (x.1 : Int), .int .u64 x.2,
      .bool false, .slice A xs.length c, .slice (some ⟨w0.heap.size, 0, none⟩) 1 1, .bool true, .bool false, .bool false, .int .u64 (d : Int), .bool false, .bool false, .int .u64 0, .int .u64 (d : Int), .bool false, .slice A xs.length c, .int .i64 (xs.length : Int),
      .slice (some ⟨g, 0, none⟩) xs.length xs.length, .slice A xs.length c, .func (.func 125) #[] #[.pointer (some ⟨w4.heap.size + 1, 0, none⟩)], .int .i64 (x.1 : Int), .int .u64 x.2, undef, undef, undef, undef, undef, undef, undef, undef, undef, undef, undef, undef], defers := [] }) ?assign ?body ?done)
  case lt =>
    rintro k C W ⟨qs, h, g1, g2, g3, g4, g5, g6, g7, g8, g9, g10, g11, g12⟩ i hi
    have := World.block_lt_of_cell? W _ g5
    have := World.block_lt_of_cell? W _ g6
    have := World.block_lt_of_cell? W _ g8
    have := (World.ownsRow.lt g4 g rfl).2
    rcases (g12 i).1 hi with rfl | rfl | rfl | rfl <;> assumption
  case step =>
    rintro k C W W' ⟨qs, h, g1, g2, g3, g4, g5, g6, g7, g8, g9, g10, g11, g12⟩ hB hs
    exact ⟨qs, h, g1, g2, g3, g4.foot (fun g' e => by injection e with e; subst e; exact hs _ ((g12 _).2 (.inr (.inr (.inr rfl))))), cell_foot g5 (hs _ ((g12 _).2 (.inl rfl))), cell_foot g6 (hs _ ((g12 _).2 (.inr (.inl rfl)))),
      frozen_foot g7 (hs _ ((g12 _).2 (.inr (.inl rfl)))), cell_foot g8 (hs _ ((g12 _).2 (.inr (.inr (.inl rfl))))), g9, g10, g11.trans hB, g12⟩
  case start =>
    refine ⟨[], 0, Nat.zero_le _, rfl, U64.nil, by simpa using f11, f4, f5, f6, f7, ?_, hd, f10, fun i => Iff.rfl⟩
    rw [Nat.sub_zero, List.drop_length, val_nil, Nat.zero_mul]
  case sep =>
    rintro i hi (h | ⟨hne, h⟩)
    · omega
    · have := hA hne i h
      omega
  case foot =>
    rintro i (h | ⟨hne, h⟩)
    · omega
    · have := hA hne i h
      omega
  case assign =>
    intro l x W K hK
    gi_wp2
    exact hK
  case body =>
    rintro l k hk C W ⟨qs, h, g1, g2, g3, g4, g5, g6, g7, g8, g9, g10, g11, g12⟩
    have hk' : k < xs.length := by rw [fromL_length] at hk; exact hk
    rw [fromL_get]
    obtain ⟨j, hj⟩ : ∃ j, xs.length - k = j + 1 := ⟨xs.length - k - 1, by omega⟩
    rw [show xs.length - 1 - k = j by omega]
    rw [hj] at g4 g9
    have hx := HU.out.at j
    obtain ⟨x, hxx⟩ : ∃ x : Nat, xs[j]?.getD 0 = (x : Int) := ⟨(xs[j]?.getD 0).toNat, by omega⟩
    rw [hxx] at hx ⊢
    have hcf := g4.cellAt j (by simp; omega)
    have hz : (List.replicate (j + 1) (0 : Int) ++ qs)[j]?.getD 0 = 0 := by rw [List.getElem?_append_left (by simp)]; simp
    rw [hz] at hcf
    obtain ⟨hc, hf⟩ := hcf
    have HXX := Lib.hid hxx
    have HO := Lib.hid g4
    have HV := Lib.hid g9
    have HQ := Lib.hid (And.intro g2 (And.intro g3 (And.intro g11 g12)))
    have HH := Lib.hid hj
    have lg := (World.ownsRow.lt g4 g rfl).2
    have l5 := World.block_lt_of_cell? W _ g6
    have l9 := World.block_lt_of_cell? W _ g8
    clear hxx g4 g9 g3 g11 g12 hz
    have hjn : j < xs.length := by omega
    clear hj
    have HGX := Lib.hid hx
    have hx1 : x < 18446744073709551616 := by omega
    have hng : ¬ g = w.heap.size := by omega
    have n1 : ¬ g = w.heap.size + 1 := by omega
    have n2 : ¬ w.heap.size + 1 = g := by omega
    have lB := g1
    dsimp only
    clear hKa HIT hO hB hB2 B5 f4 f5 f6 f7 f8 f9 f10 f11 b4 b5 c6' B1 S1 C4 S4 c8 HW C7 hA hsz hgt hx hk g2 t1 HR HU
    have hmx : Tryz.prog.follows .mixedOrders = true := by kernel_rfl
    gi_wp2
    refine wpIn_region_held l (fun w' => w'.cell? ⟨w4.heap.size, 0, none⟩ = some (.slice (some ⟨g, 0, none⟩) xs.length xs.length) ∧ w'.cell? ⟨w.heap.size, 0, none⟩ = some (.int .u64 (d : Int))) (by kernel_rfl) (by kernel_rfl) (by rintro ⟨a, w', h⟩; exact h) ⟨g8, g5⟩ (fun hS => ?_)
    refine held_take 1 (.int .i64 (j : Int)) rfl (by kernel_rfl) (by kernel_rfl) (by kernel_rfl) (fun _ _ _ h => h) (by rfl) (fun w' hSw => by (try dsimp only at hSw); go_simp) hS ?_
    (try simp only [Act.put, List.setIfInBounds_toArray, List.set_cons_zero, List.set_cons_succ])
    refine held_take 3 (.int .u64 (x : Int)) rfl (by kernel_rfl) (by kernel_rfl) (by kernel_rfl) (fun _ _ _ h => h) (by rfl) (fun w' hSw => by (try dsimp only at hSw); go_simp) hS ?_
    (try simp only [Act.put, List.setIfInBounds_toArray, List.set_cons_zero, List.set_cons_succ])
    refine held_take 0 (.slice (some ⟨g, 0, none⟩) xs.length xs.length) rfl (by kernel_rfl) (by kernel_rfl) (by kernel_rfl) (fun _ _ _ h => h) (by rfl) (fun w' hSw => by (try dsimp only at hSw); go_simp) hS ?_
    (try simp only [Act.put, List.setIfInBounds_toArray, List.set_cons_zero, List.set_cons_succ])
    refine held_take 4 (.int .u64 (d : Int)) rfl (by kernel_rfl) (by kernel_rfl) (by kernel_rfl) (fun _ _ _ h => h) (by rfl) (fun w' hSw => by (try dsimp only at hSw); go_simp) hS ?_
    (try simp only [Act.put, List.setIfInBounds_toArray, List.set_cons_zero, List.set_cons_succ])
    refine held_one 2 rfl (by kernel_rfl) (by rfl) (fun K hK => ?_)
    go_simp
    refine hK.out _ _ hS (fun hS => ?_)
    clear hK K
    (try simp only [Act.put, List.setIfInBounds_toArray, List.set_cons_zero, List.set_cons_succ])
    refine held_one 5 rfl (by kernel_rfl) (by rfl) (fun K hK => ?_)
    go_simp
    refine (div64_named h x d _ g10 hx1 hd2).mono ?_
    rintro e w' ⟨q, r, rfl, hqr, hB'⟩
    have k1 : w'.cell? ⟨g, j, none⟩ = some (.int .u64 0) := (hB'.cell (p := ⟨g, j, none⟩) lg).trans hc
    have k2 : w'.frozen? ⟨g, j, none⟩ = false := frozen_foot hf (hB'.block _ lg)
    have k3 : w'.cell? ⟨w.heap.size + 1, 0, none⟩ = some (.int .u64 (h : Int)) := (hB'.cell (p := ⟨w.heap.size + 1, 0, none⟩) l5).trans g6
    have k4 : w'.frozen? ⟨w.heap.size + 1, 0, none⟩ = false := frozen_foot g7 (hB'.block _ l5)
    have k5 : w'.cell? ⟨w4.heap.size, 0, none⟩ = some (.slice (some ⟨g, 0, none⟩) xs.length xs.length) := (hB'.cell (p := ⟨w4.heap.size, 0, none⟩) l9).trans g8
    have k6 : w'.cell? ⟨w.heap.size, 0, none⟩ = some (.int .u64 (d : Int)) := (hB'.cell (p := ⟨w.heap.size, 0, none⟩) (by simp; omega)).trans g5
    dsimp only
    refine hK.out _ _ ⟨k5, k6⟩ (fun hS => ?_)
    clear hK K
    (try simp only [Act.put, List.setIfInBounds_toArray, List.set_cons_zero, List.set_cons_succ])
    refine held_take 6 (.tuple #[.int .u64 (q : Int), .int .u64 (r : Int)]) rfl (by kernel_rfl) (by kernel_rfl) (by kernel_rfl) (fun _ _ _ h => h) (by rfl) (fun w' hSw => by (try dsimp only at hSw); go_simp) hS ?_
    (try simp only [Act.put, List.setIfInBounds_toArray, List.set_cons_zero, List.set_cons_succ])
    refine held_take 7 (.int .u64 (q : Int)) rfl (by kernel_rfl) (by kernel_rfl) (by kernel_rfl) (fun _ _ _ h => h) (by rfl) (fun w' hSw => by (try dsimp only at hSw); go_simp) hS ?_
    (try simp only [Act.put, List.setIfInBounds_toArray, List.set_cons_zero, List.set_cons_succ])
    refine held_take 8 (.int .u64 (r : Int)) rfl (by kernel_rfl) (by kernel_rfl) (by kernel_rfl) (fun _ _ _ h => h) (by rfl) (fun w' hSw => by (try dsimp only at hSw); go_simp) hS ?_
    (try simp only [Act.put, List.setIfInBounds_toArray, List.set_cons_zero, List.set_cons_succ])
    refine held_one 9 rfl (by kernel_rfl) (by rfl) (fun K hK => ?_)
    go_simp
    refine hK.out _ _ hS (fun hS => ?_)
    clear hK K
    (try simp only [Act.put, List.setIfInBounds_toArray, List.set_cons_zero, List.set_cons_succ])
    refine held_one 10 rfl (by kernel_rfl) (by rfl) (fun K hK => ?_)
    go_simp
    have z9 : ¬ g = w4.heap.size := by omega
    have z8 : ¬ g = w.heap.size := hng
    refine hK.out _ _ ⟨(World.cell?_setCell_far _ _ _ _ z9).trans k5, (World.cell?_setCell_far _ _ _ _ z8).trans k6⟩ (fun hS => ?_)
    clear hK K
    (try simp only [Act.put, List.setIfInBounds_toArray, List.set_cons_zero, List.set_cons_succ])
    have k7 : (w'.setCell ⟨g, j, none⟩ (.int .u64 (q : Int))).cell? ⟨w.heap.size + 1, 0, none⟩ = some (.int .u64 (h : Int)) := (World.cell?_setCell_far _ _ _ _ n1).trans k3
    have k8 : (w'.setCell ⟨g, j, none⟩ (.int .u64 (q : Int))).frozen? ⟨w.heap.size + 1, 0, none⟩ = false := by rw [World.frozen?_setCell]; exact k4
    obtain ⟨w2, hw2⟩ : ∃ w2, w2 = w'.setCell ⟨g, j, none⟩ (.int .u64 (q : Int)) := ⟨_, rfl⟩
    rw [← hw2] at k7 k8 hS ⊢
    have HW2 := Lib.hid hw2
    clear hw2 k1 k2 k3 k4
    refine held_one 11 rfl (by kernel_rfl) (by rfl) (fun K hK => ?_)
    go_simp
    refine hK.out _ _ ⟨(World.cell?_setCell_far _ _ _ _ (by simp; omega)).trans hS.1, (World.cell?_setCell_far _ _ _ _ (by simp)).trans hS.2⟩ (fun hS => ?_)
    clear hK K
    (try simp only [Act.put, List.setIfInBounds_toArray, List.set_cons_zero, List.set_cons_succ])
    refine wpAnyH_done (by kernel_rfl) ?_ _
    go_simp
    rename_i Q'
    show Below w.heap.size W (w2.setCell ⟨w.heap.size + 1, 0, none⟩ (.int .u64 (r : Int))) ∧ _
    have HB1 : Below w.heap.size W w' := (below_drewN (Below.refl _ W) 1).trans (hB'.mono (by show w.heap.size ≤ W.heap.size; omega))
    have HB2 : Below w.heap.size W w2 := by rw [HW2.out]; exact HB1.setCell (p := ⟨g, j, none⟩) hBg _
    have hsame : ∀ i, i ≠ g → i ≠ w.heap.size + 1 → i < W.heap.size → (w2.setCell ⟨w.heap.size + 1, 0, none⟩ (.int .u64 (r : Int))).heap[i]? = W.heap[i]? := by
      intro i hi1 hi2 hi3
      rw [Below.heap_setCell _ _ _ _ hi2, HW2.out, Below.heap_setCell _ _ _ _ hi1]
      exact hB'.block _ hi3
    have hq1 : q < 18446744073709551616 := by
      rw [hqr.out.1]
      refine Nat.div_lt_of_lt_mul ?_
      have := Nat.mul_le_mul_right 18446744073709551616 (show h + 1 ≤ d from g10)
      omega
    have hr1 : r < d := by rw [hqr.out.2]; exact Nat.mod_lt _ hd
    have HF := HQ.out
    have hsz : W.heap.size ≤ (w2.setCell ⟨w.heap.size + 1, 0, none⟩ (.int .u64 (r : Int))).heap.size := (HB2.setCell (p := ⟨w.heap.size + 1, 0, none⟩) (by simp) _).size
    refine ⟨HB2.setCell (p := ⟨w.heap.size + 1, 0, none⟩) (by simp) _, C, ⟨hsz, fun i hi hc' => ?_, fun i hi => .inl hi⟩, (q : Int) :: qs, r, by omega, by simp [HF.1], ?_, ?_, hS.2, World.cell?_setCell_same' _ _ _ (by rw [k7]; rfl), by rw [World.frozen?_setCell]; exact k8, hS.1, ?_, hr1, ?_, HF.2.2.2⟩
    · have hc2 := fun h => hc' ((HF.2.2.2 i).2 h)
      exact hsame i (fun e => hc2 (.inr (.inr (.inr e)))) (fun e => hc2 (.inr (.inl e))) hi
    · intro i hi
      rcases i with _ | i
      · simp; omega
      · have := HF.2.1 i (by simpa using hi)
        simpa using this
    · rw [show xs.length - (k + 1) = j by have := HH.out; omega]
      have ho : Own w.heap.size 42 w' .u64 (.slice (some ⟨g, 0, none⟩) xs.length xs.length) (List.replicate (j + 1) 0 ++ qs) := HO.out.foot (fun g' e => by injection e with e; subst e; exact hB'.block _ lg)
      have ho2 := Own.set ho j (q : Int)
      rw [set_zeros, ← HW2.out] at ho2
      exact ho2.foot (fun g' e => by injection e with e; subst e; exact Below.heap_setCell _ _ _ _ n1)
    · rw [show xs.length - (k + 1) = j by have := HH.out; omega]
      exact divrow_step d x q r h qs xs j hqr.out.1 hqr.out.2 HXX.out hjn HV.out
    · exact HF.2.2.1.trans (HB2.setCell (p := ⟨w.heap.size + 1, 0, none⟩) (by simp) _)
  case done =>
    rintro Dd C W hDd ⟨qs, h, g1, g2, g3, g4, g5, g6, g7, g8, g9, g10, g11, g12⟩ hK
    rw [fromL_length] at g2 g4 g9
    rw [Nat.sub_self, List.drop_zero] at g9
    rw [Nat.sub_self, List.replicate_zero, List.nil_append] at g4
    have HO := Lib.hid g4
    have HV := Lib.hid g9
    have HQ := Lib.hid (And.intro g2 (And.intro g3 (And.intro g11 g12)))
    have F9 := Lib.hid f9
    clear g4 g9 g2 g3 g11 g12 HIT hO hB hB2 B5 f4 f5 f6 f7 f8 f9 f10 f11 b4 b5 c6' B1 S1 C4 S4 c8 HW C7 hA t1 HR HU
    go_wp2
    go_quiet (fail)
    go_wp2
    refine ⟨by simp, .inl ⟨_, _, rfl, run_takeDeferred (w := W.drewN nq) hK, ?_⟩⟩
    refine ⟨_, results_tmp3 rfl _ _ _, ?_⟩
    have hgd : g ≠ Dd := by have := F9.out; omega
    have hdd : w.heap.size ≤ Dd := by have := F9.out; omega
    refine ⟨.slice (some ⟨g, 0, none⟩) xs.length xs.length, qs, h, rfl, HO.out.foot (fun g' e => by injection e with e; subst e; exact World.putObj_heap_other hgd), (below_drewN HQ.out.2.2.1 nq).trans (below_putObj _ hdd), HQ.out.1, HQ.out.2.1, HV.out, g10⟩
end Go.Proofs.YtlmbklpidmkdcaaGreatDoor
namespace Go.Proofs.YtlmbklpidmkdcaaGreatDoor
open Go.RowKit

/-- The quotient of a number by a word, and the rest. -/
def RetDivN (w : World) (q r : Nat) (e : Ending) (w' : World) : Prop := ∃ v1, e = .returned (.tuple #[v1, .int .u64 (r : Int), .int .i64 0]) ∧ SI w' .u64 v1 (wordsOf q) ∧ Below w.heap.size w w' ∧ (∀ g, wordsOf q ≠ [] → v1.ownBlock = some g → w.heap.size ≤ g)

theorem div_of (z d r n : Nat) (h : z * d + r = n) (hr : r < d) : z = n / d ∧ r = n % d := by
  subst h
  constructor
  · rw [Nat.mul_comm, Nat.mul_add_div (by omega), Nat.div_eq_of_lt hr]; omega
  · rw [Nat.mul_comm, Nat.mul_add_mod, Nat.mod_eq_of_lt hr]

set_option maxHeartbeats 1000000 in
theorem ndivword_calls (v : Value) (xs : List Int) (d : Nat) (w : World) (hr : SI w .u64 v xs) (hu : U64 xs) (hn : xs.length ≤ 4096) (hd : 0 < d) (hd2 : d < 18446744073709551616) :
    Calls Tryz.prog 71 #[v, .int .u64 (d : Int)] w (RetDivN w (val 18446744073709551616 xs / d) (val 18446744073709551616 xs % d)) := by
  obtain ⟨A, c, rfl, hcc, hcell⟩ := hr.form
  have HR := Lib.hid hr
  have HU := Lib.hid hu
  have HS := Lib.hid (si_cut hr)
  have hl := cut_length xs
  have ht := tlen_le xs xs.length
  have HL := Lib.hid hl
  clear hr hu hcell hl
  have t1 : ((d : Int) == 0) = false := beq_eq_false_iff_ne.2 (by omega)
  obtain ⟨w1, hw1⟩ : ∃ w1, w1 = w.alloc (.cells #[.slice A xs.length c] 23) := ⟨_, rfl⟩
  have hfew : Few w1 (some ⟨w.heap.size, 0, none⟩) 1 := by rw [hw1]; exact few_one _ _ _ _ _ hn
  have hcall := largeN_calls (some ⟨w.heap.size, 0, none⟩) 1 1 w1 hfew (by omega)
  have S1 : SI w1 .u64 (.slice A xs.length c) xs := by rw [hw1]; exact HR.out.alloc _
  have S2 : SI w1 .u64 (.slice A (tlen xs xs.length) c) (cut xs) := by rw [hw1]; exact HS.out.alloc _
  have B1 : Below w.heap.size w w1 := by rw [hw1]; exact below_new _ _
  have H1 := Lib.hid S1
  have H2 := Lib.hid S2
  have Z1 := Lib.hid (show w.heap.size ≤ w1.heap.size by rw [hw1]; simp)
  have HW := Lib.hid hw1
  rw [hw1] at hcall
  clear S1 S2 hw1 hfew
  go_enter Tryz.func71, Tryz.ntmps71
  go_upto_region 5 with (go_at_call 88; refine hcall.mono ?_; clear hcall; rintro e w' ⟨rfl, rfl⟩; rw [← HW.out])
  go_wp2_with (go_at_call 60; refine (trim_calls _ _ _ xs _ H1.out (by omega)).mono ?_; rintro e w' ⟨rfl, rfl⟩)
  refine (wdiv_calls _ _ _ (cut xs) d _ H2.out (HU.out.take _) (by rw [HL.out]; omega) hd hd2).mono ?_
  rintro e w2 ⟨v1, zs, r, rfl, g1, g2, g3, g4, g5, g6⟩
  obtain ⟨A3, c3, rfl, _⟩ := g1.slice
  rw [cut_val] at g5
  have hz1 : zs.length ≤ 1099511627776 := by rw [g3, HL.out]; omega
  have HD := Lib.hid (div_of _ _ _ _ g5 g6)
  have HC := Lib.hid (si_cut g1.si)
  have HG := Lib.hid g1
  have HSI := Lib.hid g1.si
  have HB := Lib.hid (B1.trans (g2.mono Z1.out))
  have HUZ := Lib.hid g4
  clear g1 g2 g3 g4 g5 g6
  go_wp2_with (go_at_call 60; refine (trim_calls _ _ _ zs _ HSI.out hz1).mono ?_; rintro e w' ⟨rfl, rfl⟩)
  go_ret3
  refine ⟨_, by rw [HD.out.2]; rfl, ?_, HB.out, ?_⟩
  · have h1 := HC.out
    rw [cut_words _ HUZ.out, HD.out.1] at h1
    exact h1
  · intro g hne hg
    have hg' : (Value.slice A3 (tlen zs zs.length) c3).ownBlock = some g := hg
    cases A3 with
    | none => cases hg'
    | some ad =>
      injection hg' with hg2
      rcases HG.out.2 with ⟨h1, _⟩ | ⟨g', cap, cur, hv, hgb, _⟩
      · injection h1 with h1; cases h1
      · injection hv with hv; injection hv with hv; subst hv; have hg3 : g' = g := hg2; have := Z1.out; omega
end Go.Proofs.YtlmbklpidmkdcaaGreatDoor
namespace Go.Proofs.YtlmbklpidmkdcaaGreatDoor
open Go.RowKit

/-- The greatest power of a base that is a word, and its exponent. -/
def Chunk (b k : Nat) : Prop := b ^ k < 18446744073709551616 ∧ 18446744073709551616 ≤ b ^ (k + 1)
def RetChunk (w : World) (b : Nat) (e : Ending) (w' : World) : Prop := ∃ k : Nat, e = .returned (.agg #[.int .u64 ((b ^ k : Nat) : Int), .int .i64 (k : Int)]) ∧ Chunk b k ∧ k ≤ 63 ∧ Below w.heap.size w w'

theorem pow_k {b k : Nat} (hb : 2 ≤ b) (h : b ^ k < 18446744073709551616) : k ≤ 63 := by
  rcases Nat.lt_or_ge 63 k with h1 | h1
  · have e1 := Nat.pow_le_pow_left hb k
    have e2 := Nat.pow_le_pow_right (n := 2) (by omega) (show 64 ≤ k from h1)
    have e3 : (2 : Nat) ^ 64 = 18446744073709551616 := by decide
    omega
  · exact h1

theorem heap_set2 (w : World) (g : Nat) (a b x y : Value) (e : Nat) (h : w.heap[g]? = some (.cells #[a, b] e)) : ((w.setCell ⟨g, 0, none⟩ x).setCell ⟨g, 1, none⟩ y).heap[g]? = some (.cells #[x, y] e) := by
  simp only [World.setCell, Array.getElem?_modify, if_pos, h, Option.map_some]
  rfl
theorem heap_set2_other (w : World) (g i : Nat) (x y : Value) (h : i ≠ g) : ((w.setCell ⟨g, 0, none⟩ x).setCell ⟨g, 1, none⟩ y).heap[i]? = w.heap[i]? :=
  (Below.heap_setCell _ _ _ _ h).trans (Below.heap_setCell _ _ _ _ h)

set_option maxHeartbeats 1000000 in
theorem chunkOf_calls (b : Nat) (w : World) (hb : 2 ≤ b) (hb2 : b ≤ 36) :
    Calls Tryz.prog 24 #[.int .i64 (b : Int)] w (RetChunk w b) := by
  go_enter Tryz.func24, Tryz.ntmps24
  go_upto_region 2 with (fail)
  obtain ⟨W0, hW0⟩ : ∃ W0, W0 = (w.alloc (.cells #[.int .u64 0, .int .i64 0] 55)).alloc (.cells #[.int .u64 1, .int .i64 0] 55) := ⟨_, rfl⟩
  have B0 : Below w.heap.size w W0 := by rw [hW0]; exact (below_new _ _).trans ((below_new _ _).mono (by simp))
  have c1 : W0.heap[w.heap.size]? = some (.cells #[.int .u64 0, .int .i64 0] 55) := by rw [hW0]; exact ((below_new _ _).block _ (by simp)).trans (World.alloc_heap_new _ _)
  have c2 : W0.heap[w.heap.size + 1]? = some (.cells #[.int .u64 1, .int .i64 0] 55) := by
    rw [hW0]
    have := World.alloc_heap_new (w.alloc (.cells #[.int .u64 0, .int .i64 0] 55)) (.cells #[.int .u64 1, .int .i64 0] 55)
    rwa [World.size_alloc] at this
  rw [← hW0]
  clear hW0
  go_loopg [] 64 (fun m wr => ∃ k : Nat, m + k = 64 ∧ b ^ k < 18446744073709551616 ∧ Below w.heap.size w wr ∧ wr.heap[w.heap.size]? = some (.cells #[.int .u64 0, .int .i64 0] 55) ∧ wr.heap[w.heap.size + 1]? = some (.cells #[.int .u64 ((b ^ k : Nat) : Int), .int .i64 (k : Int)] 55))
  case atStart => exact ⟨0, rfl, by simp, B0, c1, c2⟩
  case round =>
    obtain ⟨k, hk, hp, hB, hr, hc⟩ := hrel
    have hk2 := pow_k hb hp
    have e1 : b ^ (k + 1) = b ^ k * b := Nat.pow_succ b k
    obtain ⟨p, hpp⟩ : ∃ p, p = b ^ k := ⟨_, rfl⟩
    rw [← hpp] at hp hc e1
    have x0 : wr.cell? ⟨w.heap.size + 1, 0, none⟩ = some (.int .u64 (p : Int)) := by unfold World.cell?; simp only [hc]; rfl
    have x1 : wr.cell? ⟨w.heap.size + 1, 1, none⟩ = some (.int .i64 (k : Int)) := by unfold World.cell?; simp only [hc]; rfl
    have x2 : wr.cell? ⟨w.heap.size, 0, none⟩ = some (.int .u64 0) := by unfold World.cell?; simp only [hr]; rfl
    have x3 : wr.cell? ⟨w.heap.size, 1, none⟩ = some (.int .i64 0) := by unfold World.cell?; simp only [hr]; rfl
    have x4 : wr.frozen? ⟨w.heap.size + 1, 0, none⟩ = false := by unfold World.frozen?; simp only [hc]; rfl
    have x5 : wr.frozen? ⟨w.heap.size + 1, 1, none⟩ = false := by unfold World.frozen?; simp only [hc]; rfl
    have x6 : wr.frozen? ⟨w.heap.size, 0, none⟩ = false := by unfold World.frozen?; simp only [hr]; rfl
    have x7 : wr.frozen? ⟨w.heap.size, 1, none⟩ = false := by unfold World.frozen?; simp only [hr]; rfl
    have hb6 : b < 18446744073709551616 := by omega
    have hcv : IntKind.u64.wrap (b : Int) = (b : Int) := wrap_u64 _ (by omega) (by omega)
    by_cases hbig : p * b < 18446744073709551616
    · have hz : p * b / 18446744073709551616 = 0 := Nat.div_eq_of_lt hbig
      have hm : p * b % 18446744073709551616 = p * b := Nat.mod_eq_of_lt hbig
      have HM := Lib.hid hm
      have HB := Lib.hid hB
      have HE := Lib.hid e1
      have HP := Lib.hid hpp
      have HC := Lib.hid hc
      have HR := Lib.hid hr
      clear hm hB e1 hpp hc hr
      go_wp2_with (go_at_call 50; refine (Tryz.bits_Mul64 p b hp hb6 _).mono ?_; rintro e w' ⟨rfl, rfl⟩; rw [hz, HM.out])
      go_roundg (gk - 1)
      case rel =>
        have e3 : ((b ^ (k + 1) : Nat) : Int) = (p : Int) * (b : Int) := by rw [HE.out]; exact Int.natCast_mul _ _
        refine ⟨k + 1, by omega, by rw [HE.out]; exact hbig, (HB.out.setCell (p := ⟨w.heap.size + 1, 0, none⟩) (by simp) _).setCell (p := ⟨w.heap.size + 1, 1, none⟩) (by simp) _, (heap_set2_other _ _ _ _ _ (by omega)).trans HR.out, ?_⟩
        rw [heap_set2 _ _ _ _ _ _ _ HC.out, e3]
        rfl
      case measure => omega
    · have hz : ∃ z : Nat, p * b / 18446744073709551616 = z ∧ 0 < z := ⟨_, rfl, Nat.div_pos (by omega) (by omega)⟩
      obtain ⟨z, hz, hz0⟩ := hz
      obtain ⟨m, hm⟩ : ∃ m, m = p * b % 18446744073709551616 := ⟨_, rfl⟩
      have HM := Lib.hid hm
      have HB := Lib.hid hB
      have HE := Lib.hid e1
      have HP := Lib.hid hpp
      have HC := Lib.hid hc
      have HR := Lib.hid hr
      clear hm hB e1 hpp hc hr
      go_wp2_with (go_at_call 50; refine (Tryz.bits_Mul64 p b hp hb6 _).mono ?_; rintro e w' ⟨rfl, rfl⟩; rw [hz, ← HM.out])
      obtain ⟨wf, hwf⟩ : ∃ wf, wf = (w'.setCell ⟨w.heap.size, 0, none⟩ (.int .u64 (p : Int))).setCell ⟨w.heap.size, 1, none⟩ (.int .i64 (k : Int)) := ⟨_, rfl⟩
      have hg : wf.heap[w.heap.size]? = some (.cells #[.int .u64 (p : Int), .int .i64 (k : Int)] 55 (0, 0)) := by rw [hwf]; exact heap_set2 _ _ _ _ _ _ _ HR.out
      have hBf : Below w.heap.size w wf := by rw [hwf]; exact (HB.out.setCell (p := ⟨w.heap.size, 0, none⟩) (by simp) _).setCell (p := ⟨w.heap.size, 1, none⟩) (by simp) _
      rw [← hwf]
      refine bodyPost_ret_by (results_cell_row rfl _ wf w.heap.size _ _ _ _ rfl hg Tryz.underlying55 rfl (by kernel_rfl)) rfl ?_
      refine ⟨k, by rw [HP.out], ⟨by rw [← HP.out]; exact hp, by rw [HE.out]; omega⟩, hk2, hBf⟩
end Go.Proofs.YtlmbklpidmkdcaaGreatDoor
namespace Go.Proofs.YtlmbklpidmkdcaaGreatDoor
open Go.RowKit Go.Shelf
attribute [local go_sem] Oper.semAt_some wide_fn wide_depth

theorem digs_step {b q k i rr : Nat} (hb : 2 ≤ b) (hi : i < k) (h : rr < b ^ (k - i)) (hne : ¬ (q = 0 ∧ rr = 0)) :
    digs b (q * b ^ (k - i) + rr) = ((rr % b : Nat) : Int) :: digs b (q * b ^ (k - (i + 1)) + rr / b) ∧ rr / b < b ^ (k - (i + 1)) := by
  obtain ⟨e, he⟩ : ∃ e, e = b ^ (k - (i + 1)) := ⟨_, rfl⟩
  have hp : b ^ (k - i) = e * b := by rw [show k - i = (k - (i + 1)) + 1 by omega, Nat.pow_succ, he]
  have he0 : 0 < e := by rw [he]; exact Nat.pow_pos (by omega)
  rw [hp] at h
  rw [hp, ← he]
  have e1 : q * (e * b) + rr = rr + b * (q * e) := by grind
  have hM : q * (e * b) + rr ≠ 0 := by
    intro h0
    have h1 : rr = 0 := by omega
    have h2 : q * (e * b) = 0 := by omega
    rcases Nat.mul_eq_zero.1 h2 with h3 | h3
    · exact hne ⟨h3, h1⟩
    · rcases Nat.mul_eq_zero.1 h3 with h4 | h4 <;> omega
  refine ⟨?_, ?_⟩
  · rw [digs_pos hM hb, e1, Nat.add_mul_mod_self_left, Nat.add_mul_div_left _ _ (by omega), Nat.add_comm (rr / b)]
  · exact Nat.div_lt_of_lt_mul (by rw [Nat.mul_comm]; exact h)
theorem drop_cons {α : Type} {l : List α} {i : Nat} {x : α} {t : List α} (h : l.drop i = x :: t) : ∃ hi : i < l.length, l[i] = x ∧ l.drop (i + 1) = t := by
  have hi : i < l.length := by
    rcases Nat.lt_or_ge i l.length with h1 | h1
    · exact h1
    · rw [List.drop_eq_nil_of_le h1] at h; cases h
  refine ⟨hi, ?_⟩
  rw [List.drop_eq_getElem_cons hi] at h
  injection h with h1 h2
  exact ⟨h1, h2⟩

/-- The iterator's own blocks. -/
def DigD (bb xb : Nat) (A : Option Addr) (n : Nat) (i : Nat) : Prop := i = bb ∨ i = xb ∨ (n ≠ 0 ∧ (Value.slice A n 0).ownBlock = some i)

/-- What holds while the iterator of digits runs: M is still to be written, the row reads as q. -/
def DigS (J : Nat → (Nat → Prop) → World → Prop) (D : List Int) (bb xb cb b p k M q : Nat) (row xv : Value) (wr : World) : Prop :=
  ∃ idx C, (idx ≤ D.length ∧ D.drop idx = digs b M) ∧ J idx C wr ∧ wr.cell? ⟨bb, 0, none⟩ = some (.int .i64 (b : Int)) ∧ wr.cell? ⟨xb, 0, none⟩ = some xv ∧ wr.frozen? ⟨xb, 0, none⟩ = false ∧
    wr.heap[cb]? = some (.cells #[.int .u64 (p : Int), .int .i64 (k : Int)] 55) ∧ SI wr .u64 row (wordsOf q) ∧ (q ≠ 0 → row.ownBlock ≠ some xb) ∧
    (∀ i, C i → i ≠ bb ∧ i ≠ xb ∧ i ≠ cb ∧ (q ≠ 0 → row.ownBlock ≠ some i))

theorem DigS.done {J : Nat → (Nat → Prop) → World → Prop} {D : List Int} {bb xb cb b p k q : Nat} {row xv : Value} {wr : World} (h : DigS J D bb xb cb b p k 0 q row xv wr) : ∃ C, J D.length C wr := by
  obtain ⟨idx, C, h1, h2, _⟩ := h
  rw [digs_zero] at h1
  have : D.length ≤ idx := by
    have := congrArg List.length h1.2
    simp at this
    omega
  have : idx = D.length := by omega
  subst this
  exact ⟨C, h2⟩

section
variable {J : Nat → (Nat → Prop) → World → Prop} {D : List Int} {bb xb cb b p k M q n0 : Nat} {row xv : Value} {wr w' : World}
theorem DigS.below (h : DigS J D bb xb cb b p k M q row xv wr) (hstep : ∀ k C W W', J k C W → Below n0 W W' → (∀ i, C i → W'.heap[i]? = W.heap[i]?) → J k C W') (hlt : ∀ k C W, J k C W → ∀ i, C i → i < W.heap.size) (hn0 : n0 ≤ xb)
    (hb : Below wr.heap.size wr w') : DigS J D bb xb cb b p k M q row xv w' := by
  obtain ⟨idx, C, h1, h2, h3, h4, h5, h6, h7, h8, h9⟩ := h
  have l1 := World.block_lt_of_cell? wr _ h3
  have l2 := World.block_lt_of_cell? wr _ h4
  have l3 := (Array.getElem?_eq_some_iff.1 h6).1
  exact ⟨idx, C, h1, hstep _ _ _ _ h2 (hb.mono (by simp at l2; omega)) (fun i hi => hb.block i (hlt _ _ _ h2 i hi)), (hb.cell l1).trans h3, (hb.cell l2).trans h4, frozen_foot h5 (hb.block _ l2), (hb.block _ l3).trans h6, h7.below hb, h8, h9⟩
/-- A call that makes a new row. -/
theorem DigS.after (h : DigS J D bb xb cb b p k M q row xv wr) (hstep : ∀ k C W W', J k C W → Below n0 W W' → (∀ i, C i → W'.heap[i]? = W.heap[i]?) → J k C W') (hlt : ∀ k C W, J k C W → ∀ i, C i → i < W.heap.size) (hn0 : n0 ≤ xb)
    (hb : Below wr.heap.size wr w') {q' : Nat} {row' : Value} (hs : SI w' .u64 row' (wordsOf q')) (hg : ∀ g, wordsOf q' ≠ [] → row'.ownBlock = some g → wr.heap.size ≤ g) : DigS J D bb xb cb b p k M q' row' xv w' := by
  obtain ⟨idx, C, h1, h2, h3, h4, h5, h6, h7, h8, h9⟩ := h
  have l1 := World.block_lt_of_cell? wr _ h3
  have l2 := World.block_lt_of_cell? wr _ h4
  have l3 := (Array.getElem?_eq_some_iff.1 h6).1
  refine ⟨idx, C, h1, hstep _ _ _ _ h2 (hb.mono (by simp at l2; omega)) (fun i hi => hb.block i (hlt _ _ _ h2 i hi)), (hb.cell l1).trans h3, (hb.cell l2).trans h4, frozen_foot h5 (hb.block _ l2), (hb.block _ l3).trans h6, hs, fun hq e => ?_, fun i hi => ⟨(h9 i hi).1, (h9 i hi).2.1, (h9 i hi).2.2.1, fun hq e => ?_⟩⟩
  · have := hg _ (wordsOf_ne hq) e
    simp at l2
    omega
  · have := hg _ (wordsOf_ne hq) e
    have := hlt _ _ _ h2 i hi
    omega
/-- The store into x. -/
theorem DigS.store (h : DigS J D bb xb cb b p k M q row xv wr) (hstep : ∀ k C W W', J k C W → Below n0 W W' → (∀ i, C i → W'.heap[i]? = W.heap[i]?) → J k C W') (hn0 : n0 ≤ xb) (hne : bb ≠ xb) (hcx : cb ≠ xb) (u : Value) :
    DigS J D bb xb cb b p k M q row u (wr.setCell ⟨xb, 0, none⟩ u) := by
  obtain ⟨idx, C, h1, h2, h3, h4, h5, h6, h7, h8, h9⟩ := h
  refine ⟨idx, C, h1, hstep _ _ _ _ h2 ((Below.refl _ _).setCell (p := ⟨xb, 0, none⟩) hn0 u) (fun i hi => Below.heap_setCell _ _ _ _ (h9 i hi).2.1), (World.cell?_setCell_far _ _ _ _ (Ne.symm hne)).trans h3, World.cell?_setCell_same' _ _ _ (by rw [h4]; rfl), by rw [World.frozen?_setCell]; exact h5, (Below.heap_setCell _ _ _ _ hcx).trans h6, ?_, h8, h9⟩
  by_cases hq : q = 0
  · subst hq
    rw [wordsOf_zero] at h7 ⊢
    obtain ⟨A, c, e1, e2, _⟩ := h7
    exact ⟨A, c, e1, e2, fun j hj => absurd hj (by simp)⟩
  · obtain ⟨A, c, e1, e2, e3⟩ := h7
    refine ⟨A, c, e1, e2, fun j hj => ?_⟩
    obtain ⟨ad, e4, e5⟩ := e3 j hj
    refine ⟨ad, e4, (World.cell?_setCell_far _ _ _ _ ?_).trans e5⟩
    have := h8 hq
    rw [e1, e4] at this
    intro e
    apply this
    rw [add_block] at e
    simp [Value.ownBlock]
    exact e.symm
/-- A yield. -/
theorem DigS.yield (h : DigS J D bb xb cb b p k M q row xv wr) {x : Int} {M' : Nat} (hM : digs b M = x :: digs b M') :
    ∃ (idx : Nat) (C : Nat → Prop) (hi : idx < D.length), D[idx] = x ∧ J idx C wr ∧ ∀ W' C', Acts C C' wr W' → J (idx + 1) C' W' → DigS J D bb xb cb b p k M' q row xv W' := by
  obtain ⟨idx, C, h1, h2, h3, h4, h5, h6, h7, h8, h9⟩ := h
  rw [hM] at h1
  obtain ⟨hi, g1, g2⟩ := drop_cons h1.2
  have l1 := World.block_lt_of_cell? wr _ h3
  have l2 := World.block_lt_of_cell? wr _ h4
  have l3 := (Array.getElem?_eq_some_iff.1 h6).1
  refine ⟨idx, C, hi, g1, h2, fun W' C' ha hJ => ⟨idx + 1, C', ⟨by omega, g2⟩, hJ, cell_acts h3 ha (fun hc => (h9 _ hc).1 rfl), cell_acts h4 ha (fun hc => (h9 _ hc).2.1 rfl), frozen_foot h5 (ha.same _ l2 (fun hc => (h9 _ hc).2.1 rfl)), (ha.same _ l3 (fun hc => (h9 _ hc).2.2.1 rfl)).trans h6, ?_, h8, fun i hi => ?_⟩⟩
  · by_cases hq : q = 0
    · subst hq
      rw [wordsOf_zero] at h7 ⊢
      obtain ⟨A, c, e1, e2, _⟩ := h7
      exact ⟨A, c, e1, e2, fun j hj => absurd hj (by simp)⟩
    · exact h7.acts ha (fun g hg hc => (h9 _ hc).2.2.2 hq hg)
  · rcases ha.foot i hi with hc | hc
    · exact h9 i hc
    · simp at l1 l2
      refine ⟨by omega, by omega, by omega, fun hq e => ?_⟩
      obtain ⟨g, e1, e2⟩ := h7.block (wordsOf_ne hq)
      rw [e1] at e
      injection e with e
      omega
end

set_option maxHeartbeats 4000000 in
set_option maxRecDepth 100000 in
theorem digits1_iter (bb xb : Nat) (A : Option Addr) (n c : Nat) (xs : List Int) (b : Nat) (n0 : Nat) (w0 : World) (hbx : w0.cell? ⟨bb, 0, none⟩ = some (.int .i64 (b : Int))) (hx : w0.cell? ⟨xb, 0, none⟩ = some (.slice A n c)) (hxf : w0.frozen? ⟨xb, 0, none⟩ = false)
    (hr : SI w0 .u64 (.slice A n c) xs) (hu : U64 xs) (hn : xs.length ≤ 4096) (hb : 2 ≤ b) (hb2 : b ≤ 36) (hn0 : n0 ≤ xb) (hne : bb ≠ xb) :
    IterOver Tryz.prog 70 #[.pointer (some ⟨bb, 0, none⟩), .pointer (some ⟨xb, 0, none⟩)] (fun d : Int => #[.int .i64 d]) (digs b (val 18446744073709551616 xs)) n0 (DigD bb xb A n) w0 := by
  obtain ⟨N, hN⟩ : ∃ N, N = val 18446744073709551616 xs := ⟨_, rfl⟩
  rw [← hN]
  have HN := Lib.hid hN
  clear hN
  intro l J W C0 hB0 hlt hstep hround h0 hsep
  have lb := World.block_lt_of_cell? w0 _ hbx
  have lx := World.block_lt_of_cell? w0 _ hx
  have y1 : W.cell? ⟨bb, 0, none⟩ = some (.int .i64 (b : Int)) := (hB0.cell (p := ⟨bb, 0, none⟩) lb).trans hbx
  have y2 : W.cell? ⟨xb, 0, none⟩ = some (.slice A n c) := (hB0.cell (p := ⟨xb, 0, none⟩) lx).trans hx
  have y3 : W.frozen? ⟨xb, 0, none⟩ = false := frozen_foot hxf (hB0.block _ lx)
  have y4 : SI W .u64 (.slice A n c) xs := hr.below hB0
  have HS := Lib.hid hstep
  have HRo := Lib.hid hround
  have HLT := Lib.hid hlt
  have HJ0 := Lib.hid h0
  have HSEP := Lib.hid hsep
  have HU := Lib.hid hu
  have HY := Lib.hid y4
  have hszW := hB0.size
  clear hbx hx hxf hr hB0 hlt hstep hround h0 hsep y4 hu
  obtain ⟨LD, hLD⟩ : ∃ LD, LD = (digs b N).length := ⟨_, rfl⟩
  rw [← hLD]
  have HLD := Lib.hid hLD
  clear hLD
  refine callsIn_of_wp Tryz.func70 rfl trivial ?_ rfl
  simp only [Tryz.ntmps70, List.size_toArray, List.length_cons, List.length_nil, Nat.reduceAdd, Nat.reduceSub, Array.replicate_succ, Array.replicate_zero, List.push_toArray, List.append_toArray, List.nil_append, List.cons_append]
  gi_wp2_with (first
    | (gi_at_call 24; refine (callsIn_wide.2 (chunkOf_calls b _ hb hb2)).mono ?_; rintro e w1 ⟨k, rfl, h1, h2, h3⟩
       have y5 : w1.cell? ⟨bb, 0, none⟩ = some (.int .i64 (b : Int)) := (h3.cell (p := ⟨bb, 0, none⟩) (by simp; omega)).trans y1
       have y6 : w1.cell? ⟨xb, 0, none⟩ = some (.slice A n c) := (h3.cell (p := ⟨xb, 0, none⟩) (by simp; omega)).trans y2
       have y7 : w1.frozen? ⟨xb, 0, none⟩ = false := frozen_foot y3 (h3.block _ (by simp; omega))
       have lb1 := World.block_lt_of_cell? w1 _ y5
       have lx1 := World.block_lt_of_cell? w1 _ y6
       have y5a : ∀ o, (w1.alloc o).cell? ⟨bb, 0, none⟩ = some (.int .i64 (b : Int)) := fun o => ((below_new w1 o).cell (p := ⟨bb, 0, none⟩) lb1).trans y5
       have y6a : ∀ o, (w1.alloc o).cell? ⟨xb, 0, none⟩ = some (.slice A n c) := fun o => ((below_new w1 o).cell (p := ⟨xb, 0, none⟩) lx1).trans y6
       have y7a : ∀ o, (w1.alloc o).frozen? ⟨xb, 0, none⟩ = false := fun o => frozen_foot y7 ((below_new w1 o).block _ lx1)
       obtain ⟨p, hp⟩ : ∃ p, p = b ^ k := ⟨_, rfl⟩
       rw [← hp]
       have HY1 := Lib.hid (HY.out.below h3)
       have HP := Lib.hid (And.intro hp h1)
       have H3 := Lib.hid h3
       have HJ1 := Lib.hid (HS.out 0 C0 _ _ HJ0.out (h3.mono (by omega)) (fun i hi => h3.block i (HLT.out 0 C0 _ HJ0.out i hi)))
       clear h1 h3 hp y5 y6 y7 HJ0 HY y1 y2 y3)
    | (gi_at_call 30; refine (callsIn_wide.2 (trimN_calls _ xs _ (HY1.out.alloc _) (by omega))).mono ?_; rintro e w2 ⟨v1, rfl, g1, g2⟩
       have z5 : w2.cell? ⟨bb, 0, none⟩ = some (.int .i64 (b : Int)) := (g2.cell (p := ⟨bb, 0, none⟩) (by simp; omega)).trans (y5a _)
       have z6 : w2.cell? ⟨xb, 0, none⟩ = some (.slice A n c) := (g2.cell (p := ⟨xb, 0, none⟩) (by simp; omega)).trans (y6a _)
       have z7 : w2.frozen? ⟨xb, 0, none⟩ = false := frozen_foot (y7a _) (g2.block _ (by simp; omega))
       have z8 : w2.heap[w1.heap.size]? = some (.cells #[.int .u64 (p : Int), .int .i64 (k : Int)] 55) := (g2.block _ (by simp)).trans (World.alloc_heap_new _ _)
       rw [cut_words xs HU.out, ← HN.out] at g1
       obtain ⟨A1, c1, rfl, hc1⟩ := g1.slice
       obtain ⟨L1, hL1⟩ : ∃ L1, L1 = (wordsOf N).length := ⟨_, rfl⟩
       rw [← hL1] at g1 hc1 ⊢
       have HL1 := Lib.hid hL1
       have G1 := Lib.hid g1
       have G2 := Lib.hid (show Below w1.heap.size w1 w2 from (below_new _ _).trans (g2.mono (by simp)))
       clear g1 g2 y5a y6a y7a hL1))
  have hcb : w1.heap.size ≠ xb := by omega
  have S0 : DigS J (digs b N) bb xb w1.heap.size b p k N N (.slice A1 L1 c1) (.slice A n c) w2 := by
    refine ⟨0, C0, ⟨Nat.zero_le _, by simp⟩, HS.out 0 C0 _ _ HJ1.out (G2.out.mono (by omega)) (fun i hi => G2.out.block i (HLT.out 0 C0 _ HJ1.out i hi)), z5, z6, z7, z8, by have := G1.out.si; exact this, ?_, fun i hi => ?_⟩
    · intro _ e
      have := (World.ownsRow.lt G1.out xb e).1
      simp at this
      omega
    · have h1 := HLT.out 0 C0 _ HJ1.out i hi
      have h2 := HSEP.out i hi
      refine ⟨fun e => h2 (.inl e), fun e => h2 (.inr (.inl e)), by omega, fun _ e => ?_⟩
      have := (World.ownsRow.lt G1.out i e).1
      simp at this
      omega
  have S1 := Lib.hid (S0.store HS.out hn0 hne hcb (.slice A1 L1 c1))
  clear S0 z5 z6 z7 z8
  have hLN : N < 18446744073709551616 ^ xs.length := by rw [HN.out]; exact val_lt64 xs HU.out
  have HLN := Lib.hid hLN
  have HQ1 : Hid (L1 = (wordsOf N).length) := HL1
  have hp2 : 2 ≤ p := by
    obtain ⟨e1, e2, e3⟩ := HP.out
    rcases Nat.lt_or_ge p 2 with h | h
    · have hk : k = 0 := by
        rcases Nat.eq_zero_or_pos k with h0 | h0
        · exact h0
        · have := Nat.pow_le_pow_right (n := b) (by omega) (show 1 ≤ k from h0)
          rw [Nat.pow_one] at this
          omega
      rw [hk] at e3
      simp at e3
      omega
    · exact h
  have hp3 : p < 18446744073709551616 := by obtain ⟨e1, e2, _⟩ := HP.out; omega
  clear hLN HJ1 G1 H3 HSEP HY1 HU HN
  gi_loopg [] N (fun m wr => m ≤ N ∧ ∃ A L c, L = (wordsOf m).length ∧ DigS J (digs b N) bb xb w1.heap.size b p k m m (.slice A L c) (.slice A L c) wr)
  case atStart => exact ⟨Nat.le_refl _, _, _, _, HL1.out, S1.out⟩
  case round =>
    obtain ⟨hm, A, L, c, hL, hS⟩ := hrel
    have HD := Lib.hid hS
    obtain ⟨idx, C, h1', h2', h3, h4, h5, h6, h7, h8', h9'⟩ := hS
    clear h1' h2' h8' h9'
    have l1 := World.block_lt_of_cell? wr _ h4
    by_cases h0 : gk = 0
    · subst h0
      rw [wordsOf_zero] at hL
      have hL' : L = 0 := hL
      subst hL'
      have HF := Lib.hid HD.out.done
      clear h3 h5 h6 h7 hm HLT HRo HS HQ1 HL1 HLN hL
      gi_wp2
      go_end0
      exact ⟨⟨_, rfl⟩, by rw [HLD.out]; exact HF.out⟩
    · have hpos : 0 < L := by
        rw [hL]
        rcases Nat.eq_zero_or_pos (wordsOf gk).length with h | h
        · exact absurd (wordsOf_nil.1 h) h0
        · exact h
      have hLL : L ≤ 4096 := by
        have := wordsOf_len _ _ (Nat.lt_of_le_of_lt hm HLN.out)
        omega
      have HSI := Lib.hid h7
      have HL := Lib.hid hL
      have p1 : wr.cell? ⟨w1.heap.size, 0, none⟩ = some (.int .u64 (p : Int)) := by unfold World.cell?; simp only [h6]; rfl
      clear h3 h5 h6 h7 hL
      gi_wp2_with (gi_at_call 71; refine (callsIn_wide.2 (ndivword_calls _ (wordsOf gk) p _ HSI.out (wordsOf_u64 _) (by rw [← HL.out]; exact hLL) (by omega) hp3)).mono ?_; rintro e w3 ⟨v1, rfl, g1, g2, g3⟩
                   rw [wordsOf_val] at g1 g3
                   obtain ⟨A2, c2, rfl, hc2, _⟩ := g1.form
                   have HD3 := Lib.hid (HD.out.after HS.out HLT.out hn0 g2 g1 g3)
                   obtain ⟨L2, hL2⟩ : ∃ L2, L2 = (wordsOf (gk / p)).length := ⟨_, rfl⟩
                   rw [wordsOf_val, ← hL2]
                   rw [← hL2] at HD3
                   have HL2 := Lib.hid hL2
                   obtain ⟨q, hq⟩ : ∃ q, q = gk / p := ⟨_, rfl⟩
                   obtain ⟨r, hr⟩ : ∃ r, r = gk % p := ⟨_, rfl⟩
                   rw [← hq] at HD3
                   rw [← hr]
                   have HQR := Lib.hid (And.intro hq hr)
                   have p2 : w3.cell? ⟨w1.heap.size, 1, none⟩ = some (.int .i64 (k : Int)) := by obtain ⟨_, _, _, _, _, _, _, h6, _⟩ := HD3.out; unfold World.cell?; simp only [h6]; rfl
                   clear hq hr hL2 g1 g2 g3)
      gi_loopg [6, 25] k (fun mm r i wr => ∃ ii rr : Nat, ii + mm = k ∧ r = .int .u64 (rr : Int) ∧ i = .int .i64 (ii : Int) ∧ rr < b ^ (k - ii) ∧ DigS J (digs b N) bb xb w1.heap.size b p k (q * b ^ (k - ii) + rr) q (.slice A2 L2 c2) (.slice A L c) wr)
      case atStart =>
        refine ⟨0, r, by omega, rfl, rfl, ?_, ?_⟩
        · rw [Nat.sub_zero, ← HP.out.1, HQR.out.2]; exact Nat.mod_lt _ (by omega)
        · rw [Nat.sub_zero, ← HP.out.1, HQR.out.1, HQR.out.2, Nat.mul_comm, Nat.div_add_mod, ← HQR.out.1]; exact HD3.out
      case round =>
        obtain ⟨ii, rr, hik, rfl, rfl, hrr, hS⟩ := hrel
        by_cases h1 : ii < k
        · obtain ⟨hB1, hB2⟩ : 0 ≤ (b : Int) ∧ (b : Int) < 18446744073709551616 := by omega
          have hcv : IntKind.u64.wrap (b : Int) = (b : Int) := wrap_u64 _ hB1 hB2
          by_cases hz : q = 0 ∧ rr = 0
          · obtain ⟨rfl, rfl⟩ := hz
            have hl0 := HL2.out
            rw [← HQR.out.1, wordsOf_zero] at hl0
            have hl1 : L2 = 0 := hl0
            subst hl1
            rw [Nat.zero_mul, Nat.add_zero] at hS
            have HF := Lib.hid hS.done
            clear hS hl0
            gi_wp2
            refine bodyPost_ret (results_none rfl _ _ _) rfl ?_
            exact ⟨⟨_, rfl⟩, by rw [HLD.out]; exact HF.out⟩
          · have hst := digs_step hb h1 hrr hz
            have HST := Lib.hid hst
            have hor : L2 ≠ 0 ∨ rr ≠ 0 := by
              by_cases hq0 : q = 0
              · right; intro h; exact hz ⟨hq0, h⟩
              · left
                rw [HL2.out, ← HQR.out.1]
                intro h
                exact hq0 (wordsOf_nil.1 h)
            obtain ⟨idx, C, hi, e1, e2, e3⟩ := hS.yield hst.1
            obtain ⟨fn, tmps, assign, body, hy, hR⟩ := HRo.out idx hi C wr e2
            rw [e1, Int.natCast_emod] at hy
            have hx0 := Int.emod_nonneg (rr : Int) (show (b : Int) ≠ 0 by omega)
            have hx1 := Int.emod_lt_of_pos (rr : Int) (show 0 < (b : Int) by omega)
            have hwm : wrap64 ((rr : Int) % (b : Int)) = (rr : Int) % (b : Int) := by unfold wrap64; omega
            have hrk : rr < 18446744073709551616 := by
              have := HP.out.2.1
              have e8 := Nat.pow_le_pow_right (n := b) (by omega) (show k - ii ≤ k by omega)
              omega
            have hq5 : IntKind.u64.wrap ((rr : Int) / (b : Int)) = (rr : Int) / (b : Int) := by
              rw [← Int.natCast_ediv]
              have := Nat.div_le_self rr b
              generalize rr / b = z at *
              exact wrap_u64 _ (by omega) (by omega)
            obtain ⟨i1, i2, i3, i4, x3, x4, x5, x6, x7, x8, x9⟩ := hS
            clear i3 i4 x4 x5 x6 x7 x8 x9
            have hb0 : ((b : Int) == 0) = false := beq_eq_false_iff_ne.2 (by omega)
            have HR2 := Lib.hid hR
            have HE3 := Lib.hid e3
            have HRR := Lib.hid hrr
            have HQ5 := Lib.hid hq5
            clear hx0 hx1 hrk hq5
            have HIK := Lib.hid hik
            clear hst e1 e2 e3 hR hi hz hrr hik
            rcases Nat.eq_zero_or_pos L2 with hl0 | hl0
            · have hA : ((L2 : Int) == 0) = true := by rw [hl0]; rfl
              have hB : ((rr : Int) == 0) = false := beq_eq_false_iff_ne.2 (by omega)
              clear hl0 hor
              gi_wp2
              refine HR2.out.mono ?_
              rintro e W' ⟨rfl, hB', C', hact, hJ'⟩
              have HN := Lib.hid (HE3.out W' C' hact hJ')
              have x3' : W'.cell? ⟨bb, 0, none⟩ = some (.int .i64 (b : Int)) := by obtain ⟨_, _, _, _, y3, _⟩ := HN.out; exact y3
              clear hact hJ' hB' x3 hy HR2 HE3 hwm
              have hq5 := HQ5.out
              gi_wp2
              have hik := HIK.out
              gi_roundg (gk - 1)
              case rel => exact ⟨ii + 1, rr / b, by omega, by rw [Int.natCast_ediv], by go_num, HST.out.2, HN.out⟩
              case measure => omega
            · have hA : ((L2 : Int) == 0) = false := beq_eq_false_iff_ne.2 (by omega)
              clear hor
              gi_wp2
              refine HR2.out.mono ?_
              rintro e W' ⟨rfl, hB', C', hact, hJ'⟩
              have HN := Lib.hid (HE3.out W' C' hact hJ')
              have x3' : W'.cell? ⟨bb, 0, none⟩ = some (.int .i64 (b : Int)) := by obtain ⟨_, _, _, _, y3, _⟩ := HN.out; exact y3
              clear hact hJ' hB' x3 hy HR2 HE3 hwm
              have hq5 := HQ5.out
              gi_wp2
              have hik := HIK.out
              gi_roundg (gk - 1)
              case rel => exact ⟨ii + 1, rr / b, by omega, by rw [Int.natCast_ediv], by go_num, HST.out.2, HN.out⟩
              case measure => omega
        · obtain rfl : ii = k := by omega
          rw [Nat.sub_self, Nat.pow_zero] at hrr hS
          have hr0 : rr = 0 := by omega
          subst hr0
          rw [Nat.mul_one, Nat.add_zero] at hS
          have HS2 := Lib.hid (hS.store HS.out hn0 hne hcb (.slice A2 L2 c2))
          obtain ⟨_, _, _, _, _, x4, x5, _, _, _, _⟩ := hS
          gi_wp2
          gi_roundg q
          case rel =>
            refine ⟨?_, A2, L2, c2, ?_, HS2.out⟩
            · rw [HQR.out.1]; exact Nat.le_trans (Nat.div_le_self _ _) hm
            · rw [HL2.out, ← HQR.out.1]
          case measure => rw [HQR.out.1]; exact Nat.div_lt_self (by omega) (by omega)
end Go.Proofs.YtlmbklpidmkdcaaGreatDoor
namespace Go.Proofs.YtlmbklpidmkdcaaGreatDoor
open Go.RowKit

/-- The row when i pairs have been exchanged. -/
def RevAt (xs ys : List Int) (i : Nat) : Prop := ys.length = xs.length ∧ ∀ t, t < xs.length → ys[t]?.getD 0 = if t < i ∨ xs.length - 1 - i < t then xs[xs.length - 1 - t]?.getD 0 else xs[t]?.getD 0
theorem RevAt.start (xs : List Int) : RevAt xs xs 0 := ⟨rfl, fun t ht => by rw [if_neg (by omega)]⟩
theorem RevAt.fin {xs ys : List Int} {i : Nat} (h : RevAt xs ys i) (hi : xs.length ≤ 2 * i + 1) : ys = xs.reverse := by
  refine List.ext_getElem (by simp [h.1]) (fun t h1 h2 => ?_)
  have ht : t < xs.length := by rw [← h.1]; exact h1
  have := h.2 t ht
  rw [List.getElem?_eq_getElem h1, Option.getD_some] at this
  rw [this, List.getElem_reverse]
  split
  · rw [List.getElem?_eq_getElem (by omega)]; rfl
  · have e : t = xs.length - 1 - t := by omega
    rw [List.getElem?_eq_getElem ht, Option.getD_some]
    congr 1
theorem RevAt.step {xs ys : List Int} {i : Nat} (h : RevAt xs ys i) (hi : 2 * i + 1 < xs.length) : RevAt xs ((ys.set i (ys[xs.length - 1 - i]?.getD 0)).set (xs.length - 1 - i) (ys[i]?.getD 0)) (i + 1) := by
  refine ⟨by simp [h.1], fun t ht => ?_⟩
  have h1 := h.2 (xs.length - 1 - i) (by omega)
  have h2 := h.2 i (by omega)
  have h3 := h.2 t ht
  rw [if_neg (by omega)] at h1 h2
  have e3 : xs.length - 1 - (xs.length - 1 - i) = i := by omega
  by_cases ta : t = xs.length - 1 - i
  · subst ta
    rw [List.getElem?_set_self (by simp [h.1]; omega), if_pos (by omega), e3]
    exact h2
  · rw [List.getElem?_set_ne (by omega)]
    by_cases tb : t = i
    · subst tb
      rw [List.getElem?_set_self (by rw [h.1]; omega), if_pos (by omega)]
      exact h1
    · rw [List.getElem?_set_ne (by omega), h3]
      by_cases hc : t < i ∨ xs.length - 1 - i < t
      · rw [if_pos hc, if_pos (by omega)]
      · rw [if_neg hc, if_neg (by omega)]

set_option maxHeartbeats 1000000 in
theorem revB_calls (v : Value) (xs : List Int) (B : Nat) (w : World) (h : Own B 5 w .u8 v xs) (hn : xs.length ≤ 1099511627776) :
    Calls Tryz.prog 47 #[v] w fun e w' => e = .returned (.tuple #[]) ∧ Own B 5 w' .u8 v xs.reverse ∧ Below B w w' ∧ ∀ i, v.ownBlock ≠ some i → w'.heap[i]? = w.heap[i]? := by
  obtain ⟨A, c, rfl, hc⟩ := h.slice
  have HO := Lib.hid h
  have HS := Lib.hid (RevAt.start xs)
  clear h
  go_enter Tryz.func47, Tryz.ntmps47
  go_wp2
  go_loopw [2, 3] (fun a b wr => ∃ (i : Nat) (ys : List Int), a = .int .i64 (i : Int) ∧ b = .int .i64 ((xs.length : Int) - 1 - (i : Int)) ∧ 2 * i ≤ xs.length ∧ RevAt xs ys i ∧ Own B 5 wr .u8 (.slice A xs.length c) ys ∧ Below B w wr ∧ ∀ i, (Value.slice A xs.length c).ownBlock ≠ some i → wr.heap[i]? = w.heap[i]?) (fun a b _ => (intOf b + 1).toNat)
  case atStart => exact ⟨0, xs, rfl, by go_num, by omega, HS.out, HO.out, Below.refl _ _, fun _ _ => rfl⟩
  case round =>
    obtain ⟨i, ys, rfl, rfl, hi, hR, ho, hB, hsm⟩ := hrel
    by_cases hlt : 2 * i + 1 < xs.length
    · obtain ⟨g, cap, e, hg, hgl, hcap⟩ := ho.form (by rw [hR.1]; omega)
      injection e with e1 e2 e3
      subst e1
      subst e3
      obtain ⟨j, hj⟩ : ∃ j, j = xs.length - 1 - i := ⟨_, rfl⟩
      have hji : ((xs.length : Int) - 1 - (i : Int)) = (j : Int) := by omega
      rw [hji]
      obtain ⟨c1, f1⟩ := ho.cellAt i (by rw [hR.1]; omega)
      obtain ⟨c2, f2⟩ := ho.cellAt j (by rw [hR.1]; omega)
      have hst := hR.step hlt
      rw [← hj] at hst
      have hl := hR.1
      generalize hx : ys[i]?.getD 0 = x at c1 hst
      generalize hy : ys[j]?.getD 0 = y at c2 hst
      have HST := Lib.hid hst
      have HB := Lib.hid hB
      have HOO := Lib.hid ho
      have HSM := Lib.hid hsm
      have hij : i < j := by omega
      have hjn : j < xs.length := by omega
      have HJ := Lib.hid hj
      have HL := Lib.hid hl
      have hne : ¬ (i = j) := by omega
      have hne2 : ¬ (j = i) := by omega
      clear hst hB ho hR hsm hx hy hj hl hji HO HS
      go_wp2
      go_region
      all_goals go_wp2
      all_goals
        have hjj := HJ.out
        have ho1 := Own.set (Own.set HOO.out i y) j x
        refine ⟨⟨i + 1, (ys.set i y).set j x, by go_num, ?_, by omega, HST.out, ho1.foot (fun _ _ => rfl), below_drewN ((HB.out.setCell (p := ⟨g, i, none⟩) hg _).setCell (p := ⟨g, j, none⟩) hg _) 1, fun m hm => ?_⟩, by simp [intOf]; try omega⟩
        · congr 1
          omega
        · have hm2 : m ≠ g := fun e => hm (by rw [e]; rfl)
          exact (Below.heap_setCell _ _ _ _ hm2).trans ((Below.heap_setCell _ _ _ _ hm2).trans (HSM.out m hm))
    · have hf := hR.fin (by omega)
      subst hf
      have HB := Lib.hid hB
      have HOO := Lib.hid ho
      have HSM := Lib.hid hsm
      clear hB ho hR HO HS hsm
      go_wp2
      go_end0
      exact ⟨rfl, HOO.out, HB.out, HSM.out⟩
end Go.Proofs.YtlmbklpidmkdcaaGreatDoor
