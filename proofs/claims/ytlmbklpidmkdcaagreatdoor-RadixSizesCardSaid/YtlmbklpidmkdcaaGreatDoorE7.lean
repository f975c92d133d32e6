/- radix.Literal. -/
import Derived.Test.YtlmbklpidmkdcaaGreatDoorE6
namespace Go.Proofs.YtlmbklpidmkdcaaGreatDoor
open Go.RowKit

theorem litS_cases (b : Nat) (L : List Int) : litS b L = (0, []) ∨ (litS b L).1 = (b : Int) ∧ (litS b L).2 = L.filter (· ≠ 95) ∧ LOK b L := by
  unfold litS
  by_cases h : LOK b L
  · rw [if_pos h]; exact .inr ⟨rfl, rfl, h⟩
  · rw [if_neg h]; exact .inl rfl
theorem LOK_dig {b : Nat} {L : List Int} (h : LOK b L) : ∀ x ∈ L.filter (· ≠ 95), dig10 x < (b : Int) := by
  intro x hx
  rw [List.mem_filter] at hx
  obtain ⟨i, hi, rfl⟩ := List.mem_iff_getElem.1 hx.1
  have := (h.1 i hi).2
  rw [List.getElem?_eq_getElem hi] at this
  exact this (by simpa using hx.2)
/-- What litP answers: none, or a base and digits of it. -/
theorem litP_cases (L : List Int) : litP L = (0, []) ∨ ∃ b : Nat, (b = 2 ∨ b = 8 ∨ b = 10 ∨ b = 16) ∧ (litP L).1 = (b : Int) ∧ (litP L).2 ≠ [] ∧ (litP L).2.length ≤ L.length ∧ (∀ x ∈ (litP L).2, dig10 x < (b : Int) ∧ x ∈ L) := by
  unfold litP
  by_cases hp : 1 < L.length ∧ L[0]?.getD 0 = 48
  · rw [if_pos hp]
    by_cases hb : bas (L[1]?.getD 0).toNat = 0
    · rw [if_pos hb]; exact .inl rfl
    · rw [if_neg hb]
      rcases litS_cases (bas (L[1]?.getD 0).toNat) (L.drop 2) with h | ⟨h1, h2, h3⟩
      · exact .inl h
      · refine .inr ⟨bas (L[1]?.getD 0).toNat, by have := bas_cases (L[1]?.getD 0).toNat; omega, h1, by rw [h2]; exact h3.2.2, by rw [h2]; exact Nat.le_trans (List.length_filter_le _ _) (by rw [List.length_drop]; omega), fun x hx => ?_⟩
        rw [h2] at hx
        exact ⟨LOK_dig h3 x hx, List.mem_of_mem_drop (List.mem_filter.1 hx).1⟩
  · rw [if_neg hp]
    by_cases he : L = [] ∨ L[0]?.getD 0 = 95
    · rw [if_pos he]; exact .inl rfl
    · rw [if_neg he]
      rcases litS_cases 10 L with h | ⟨h1, h2, h3⟩
      · exact .inl h
      · refine .inr ⟨10, by omega, h1, by rw [h2]; exact h3.2.2, by rw [h2]; exact List.length_filter_le _ _, fun x hx => ?_⟩
        rw [h2] at hx
        exact ⟨LOK_dig h3 x hx, (List.mem_filter.1 hx).1⟩

/-- The number of digits, the highest first. -/
def dval (b : Nat) (ds : List Int) : Nat := val b (ds.map dig10).reverse
theorem bytes_strOf {l : List Int} (h : ∀ x ∈ l, 0 ≤ x ∧ x < 256) : bytes (strOf l) = l := by
  unfold bytes strOf
  rw [strOfNums_data, List.map_map]
  conv => rhs; rw [← List.map_id l]
  refine List.map_congr_left fun x hx => ?_
  obtain ⟨h0, h1⟩ := h x hx
  simp
  omega
theorem pre_strOf {b : Nat} {ds : List Int} (h : ∀ x ∈ ds, 0 ≤ x ∧ x < 256) : pre b (strOf ds) (strOf ds).size = dval b ds := by
  unfold pre dval
  rw [bytes_strOf h, strOf_size, List.take_length]
theorem bytes_mem (s : ByteArray) : ∀ x ∈ bytes s, 0 ≤ x ∧ x < 256 := by
  intro x hx
  obtain ⟨i, hi, rfl⟩ := List.mem_iff_getElem.1 hx
  have := bytes_range s i
  rw [List.getElem?_eq_getElem hi] at this
  exact this

set_option maxHeartbeats 1000000 in
theorem literalR_no (s : ByteArray) (w : World) (hn : s.size ≤ 65536) (hN : NoneAt w) (h : litP (bytes s) = (0, [])) :
    Calls Tryz.prog 42 #[.string s] w (RetB w (.tuple #[.slice none 0 0, .int .i64 0, .int .i64 6])) := by
  have hcall := readR_calls s w hn hN
  rw [h] at hcall
  have hs : strOf ([] : List Int) = ⟨#[]⟩ := rfl
  simp only [hs] at hcall
  have HC := Lib.hid hcall
  have HN := Lib.hid hN
  have hce := fun w p p' s s' => parts_eql w p p' s s'
  have hcg := fun w op x y xs ys => parts_guard w op x y xs ys
  clear h hcall hs hN
  go_enter Tryz.func42, Tryz.ntmps42
  go_wp2_with (go_at_call 72; refine HC.out.mono ?_; rintro e w1 ⟨rfl, q1⟩; have HB := Lib.hid q1; have hm := HN.out.below q1 HN.out.pos; have hz := hm.pos; obtain ⟨m0, m1⟩ := hm; clear q1)
  go_ret3
  exact ⟨rfl, HB.out.trans ((below_new _ _).mono HB.out.size)⟩

def RetLit (w : World) (n b : Nat) (e : Ending) (w' : World) : Prop := ∃ v', e = .returned (.tuple #[v', .int .i64 (b : Int), .int .i64 0]) ∧ SI w' .u64 v' (wordsOf n) ∧ Below w.heap.size w w'
set_option maxHeartbeats 1000000 in
theorem literalR_yes (s : ByteArray) (w : World) (hn : s.size ≤ 65536) (hN : NoneAt w) (b : Nat) (ds : List Int) (h : litP (bytes s) = ((b : Int), ds)) (hb0 : 0 < b) (hw : (wordsOf (dval b ds)).length ≤ 4096) :
    Calls Tryz.prog 42 #[.string s] w (RetLit w (dval b ds) b) := by
  have hcall := readR_calls s w hn hN
  obtain ⟨d, hd⟩ : ∃ d, d = strOf ds := ⟨_, rfl⟩
  rw [h] at hcall
  dsimp only at hcall
  rw [← hd] at hcall
  have hc := litP_cases (bytes s)
  rw [h] at hc
  rcases hc with hc | ⟨b', hb', e1, hne, hlen, hall⟩
  · injection hc with h1 h2; omega
  have hbb : b' = b := by have e2 : (b : Int) = (b' : Int) := e1; omega
  subst hbb
  have hrg : ∀ x ∈ ds, 0 ≤ x ∧ x < 256 := fun x hx => bytes_mem s x (hall x hx).2
  have hds : ds.length ≤ 65536 := by
    have : ds.length ≤ (bytes s).length := hlen
    rw [bytes_length] at this
    omega
  have ht : Txt d b' := by
    intro j hj
    rw [hd, bytes_strOf hrg]
    rw [hd, strOf_size] at hj
    rw [List.getElem?_eq_getElem hj]
    exact (hall _ (List.getElem_mem hj)).1
  have hpre : pre b' d d.size = dval b' ds := by rw [hd]; exact pre_strOf hrg
  have hdz : d.size ≤ 65536 := by rw [hd, strOf_size]; exact hds
  obtain ⟨N, hYtlmbklpidmkdcaaGreatDoor⟩ : ∃ N, N = dval b' ds := ⟨_, rfl⟩
  rw [← hYtlmbklpidmkdcaaGreatDoor] at hw hpre ⊢
  have hnum := fun w => numberR_calls d b' w (by omega) (by omega) hdz ht
  rw [hpre] at hnum
  have HNUM := Lib.hid hnum
  have HC := Lib.hid hcall
  have HN := Lib.hid hN
  have HW := Lib.hid hw
  have hce := fun w p p' s s' => parts_eql w p p' s s'
  have hcg := fun w op x y xs ys => parts_guard w op x y xs ys
  have hb1 : ((b' : Int) == 0) = false := beq_eq_false_iff_ne.2 (by omega)
  clear h hcall hd hN hb' e1 hne hlen hall hrg hds ht hpre hnum hw hYtlmbklpidmkdcaaGreatDoor
  go_enter Tryz.func42, Tryz.ntmps42
  go_upto_region 6 with (go_at_call 72; refine HC.out.mono ?_; rintro e w1 ⟨rfl, q1⟩; have HB := Lib.hid q1; have hm := HN.out.below q1 HN.out.pos; have hz := hm.pos; obtain ⟨m0, m1⟩ := hm; clear q1)
  obtain ⟨W, hW⟩ : ∃ W, W = w1.alloc (.cells #[.int .i64 (b' : Int), .string d] 123) := ⟨_, rfl⟩
  have hrow : W.heap[w1.heap.size]? = some (.cells #[.int .i64 (b' : Int), .string d] 123) := by rw [hW]; exact World.alloc_heap_new _ _
  have hBW : Below w.heap.size w W := by rw [hW]; exact HB.out.trans ((below_new _ _).mono HB.out.size)
  obtain ⟨x0, x1, x2, x3⟩ := cells2 hrow
  rw [← hW]
  have HROW := Lib.hid hrow
  have HBW := Lib.hid hBW
  clear hW hrow hBW hce hcg m0 m1
  go_upto_region 9 with (first
    | (go_at_call 23; refine (HNUM.out _).mono ?_; rintro e w2 ⟨v2, rfl, q2, q3⟩; obtain ⟨A, c, rfl, _, _⟩ := q2.form; have G2 := Lib.hid q2; have G3 := Lib.hid q3; obtain ⟨y0, y1, _, _⟩ := cells2 ((q3.block _ (Array.getElem?_eq_some_iff.1 HROW.out).1).trans HROW.out); clear q2 q3)
    | (go_at_call 22; refine (fitR_calls _ _ _ _ HW.out).mono ?_; rintro e w' ⟨rfl, rfl⟩))
  go_quiet (fail)
  go_wp2
  go_ret3
  exact ⟨_, rfl, G2.out, (HBW.out.trans (G3.out.mono HBW.out.size)).trans (below_drewN (Below.refl _ _) _)⟩

end Go.Proofs.YtlmbklpidmkdcaaGreatDoor
