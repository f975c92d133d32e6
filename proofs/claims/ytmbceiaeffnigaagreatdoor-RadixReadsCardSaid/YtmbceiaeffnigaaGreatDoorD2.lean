/- The reference's FromDigits. -/
import Derived.Test.YtmbceiaeffnigaaGreatDoorD1
import Derived.Test.YtmbceiaeffnigaaGreatDoorA
import Derived.Deep.RegionHeld3
import Derived.Deep.DeepCutAuto
import Derived.Deep.CutBlock
namespace Go.Proofs.YtmbceiaeffnigaaGreatDoor
open Go.RowKit

theorem val_words {b : Nat} (hb : b ≤ 36) : ∀ (L : List Int), Dig b L → (wordsOf (val b L)).length ≤ L.length := by
  intro L hL
  refine wordsOf_len _ _ ?_
  have h0 : ∀ x ∈ L, x.toNat < 18446744073709551616 := by
    intro x hx
    obtain ⟨j, hj, rfl⟩ := List.mem_iff_getElem.1 hx
    have := hL j hj
    rw [List.getElem?_eq_getElem hj] at this
    simp at this
    omega
  have h1 : ∀ x ∈ L, x.toNat < b ∨ b = 0 := by
    intro x hx
    obtain ⟨j, hj, rfl⟩ := List.mem_iff_getElem.1 hx
    have := hL j hj
    rw [List.getElem?_eq_getElem hj] at this
    simp at this
    omega
  rcases Nat.eq_zero_or_pos b with hb0 | hb0
  · subst hb0
    cases L with
    | nil => simp [val]
    | cons x xs => have := hL 0 (by simp); simp at this; omega
  · refine Nat.lt_of_lt_of_le (val_lt b hb0 L (fun x hx => (h1 x hx).resolve_right (by omega))) (Nat.pow_le_pow_left (by omega) _)

set_option maxHeartbeats 1000000 in
theorem fromdigits10_calls (u : Value) (L : List Int) (b : Nat) (w : World) (hr : SI w .i64 u L) (hd : Dig b L) (hb : 2 ≤ b) (hb2 : b ≤ 36) (hn : L.length ≤ 3000) :
    Calls Tryz.prog 19 #[u, .int .i64 (b : Int)] w fun e w' => ∃ v', e = .returned v' ∧ SI w' .u64 v' (wordsOf (val b L)) ∧ Below w.heap.size w w' := by
  obtain ⟨A, c, rfl, hc, hcell⟩ := hr.form
  have HC := Lib.hid hcell
  have HD := Lib.hid hd
  have HW := Lib.hid (fun m => val_words hb2 (L.drop m))
  clear hr hcell hd
  go_enter Tryz.func19, Tryz.ntmps19
  go_upto_region 3 with (go_at_call 22; refine (fromword_calls _ _ (by omega) (by omega)).mono ?_; rintro e w1 ⟨vb, rfl, h1, h2⟩; rw [Int.toNat_natCast] at h1; have H1 := Lib.hid h1.si; have H2 := Lib.hid h2; clear h1 h2)
  go_wp2
  go_loopw [5, 7] (fun o i wr => ∃ m : Nat, m ≤ L.length ∧ i = .int .i64 ((m : Int) - 1) ∧ SI wr .u64 o (wordsOf (val b (L.drop m))) ∧ Below w1.heap.size w1 wr) (fun o i _ => (intOf i + 1).toNat)
  case atStart => exact ⟨L.length, Nat.le_refl _, rfl, by rw [List.drop_length, val_nil, wordsOf_zero]; exact SI.nil _ _, Below.refl _ _⟩
  case round =>
    obtain ⟨m, hm, rfl, hs, hB⟩ := hrel
    by_cases h0 : 0 < m
    · obtain ⟨j, rfl⟩ : ∃ j, m = j + 1 := ⟨m - 1, by omega⟩
      rw [show (((j + 1 : Nat) : Int) - 1) = (j : Int) by omega]
      have hlt : j < L.length := by omega
      obtain ⟨ad, e, hcl⟩ := HC.out j hlt
      subst e
      have hB0 : Below w.heap.size w wr := H2.out.trans (hB.mono H2.out.size)
      have hcl2 : wr.cell? (ad.add j) = some (.int .i64 (L[j]?.getD 0)) := (hB0.cell (World.block_lt_of_cell? w _ hcl)).trans hcl
      have hd := HD.out j hlt
      have hv : val b (L.drop j) = (L[j]?.getD 0).toNat + b * val b (L.drop (j + 1)) := by
        rw [List.drop_eq_getElem_cons hlt, val_cons, List.getElem?_eq_getElem hlt]; rfl
      obtain ⟨x, hx⟩ : ∃ x : Nat, L[j]?.getD 0 = (x : Int) := ⟨(L[j]?.getD 0).toNat, by omega⟩
      rw [hx] at hcl2 hd hv
      rw [Int.toNat_natCast] at hv
      have hwl := (val_words (b := b) hb2 (L.drop (j + 1)) (fun i hi => by have := HD.out (j + 1 + i) (by simp at hi; omega); rw [List.getElem?_drop]; exact this))
      have hwl2 : (L.drop (j + 1)).length ≤ 3000 := by simp; omega
      generalize val b (L.drop (j + 1)) = V at *
      have HV := Lib.hid hv
      have HS := Lib.hid hs
      have HBB := Lib.hid hB
      have hby : SI wr .u64 vb (wordsOf b) := H1.out.below hB
      have HBY := Lib.hid hby
      have hx1 : x < 36 := by omega
      have HWL := Lib.hid (show (wordsOf V).length ≤ 3000 by omega)
      have hcv : IntKind.u64.wrap (x : Int) = (x : Int) := wrap_u64 _ (by omega) (by omega)
      clear hv hs hB hB0 hby hcl hx hwl hwl2 hd
      go_wp2
      have hbl : (wordsOf b).length ≤ 50000 := by rw [wordsOf_small b (by omega) (by omega)]; simp
      have hvl : (wordsOf (V * b)).length ≤ 50000 := by
        obtain ⟨K, hK⟩ : ∃ K : Nat, K = 3000 := ⟨_, rfl⟩
        have hKl : (wordsOf V).length ≤ K := by rw [hK]; exact HWL.out
        have h1 : V < 18446744073709551616 ^ K := by
          have h2 := val_lt64 (wordsOf V) (wordsOf_u64 V)
          rw [wordsOf_val] at h2
          exact Nat.lt_of_lt_of_le h2 (Nat.pow_le_pow_right (by omega) hKl)
        have h3 : V * b < 18446744073709551616 ^ (K + 1) := by
          rw [Nat.pow_succ]
          exact Nat.mul_lt_mul_of_lt_of_le h1 (by omega) (by omega)
        have := wordsOf_len _ _ h3
        omega
      have hxl : (wordsOf x).length ≤ 50000 := by
        have := wordsOf_len 1 x (by rw [Nat.pow_one]; omega)
        omega
      have HVL := Lib.hid (And.intro hbl (And.intro hvl hxl))
      clear hbl hvl hxl
      go_region_held3 (fun w' => w'.cell? (ad.add j) = some (.int .i64 (x : Int)) ∧ Below wr.heap.size wr w') (first | exact ⟨hcl2, below_drewN (Below.refl _ wr) 1⟩ | exact ⟨kd, ke⟩ | exact ⟨kc, kb⟩) (first
        | (go_at_call 27; refine (mul02_calls _ _ (wordsOf V) (wordsOf b) _ (HS.out.below (And.right ‹_ ∧ Below wr.heap.size wr _›)) (HBY.out.below (And.right ‹_ ∧ Below wr.heap.size wr _›)) (wordsOf_u64 _) (wordsOf_u64 _) (by have := HWL.out; omega) HVL.out.1).mono ?_; rintro e w2 ⟨v2, rfl, a1, a2⟩
           rw [wordsOf_val, wordsOf_val] at a1
           have kb : Below wr.heap.size wr w2 := (And.right ‹_ ∧ Below wr.heap.size wr _›).trans (a2.mono (And.right ‹_ ∧ Below wr.heap.size wr _›).size)
           have kc : w2.cell? (ad.add j) = some (.int .i64 (x : Int)) := (kb.cell (World.block_lt_of_cell? wr _ hcl2)).trans hcl2)
        | (go_at_call 22; refine (fromword_calls _ _ (by omega) (by omega)).mono ?_; rintro e w3 ⟨v3, rfl, b1, b2⟩
           rw [Int.toNat_natCast] at b1
           have kb : Below wr.heap.size wr w3 := (And.right ‹_ ∧ Below wr.heap.size wr _›).trans (b2.mono (And.right ‹_ ∧ Below wr.heap.size wr _›).size)
           have kc : w3.cell? (ad.add j) = some (.int .i64 (x : Int)) := (kb.cell (World.block_lt_of_cell? wr _ hcl2)).trans hcl2)
        | (go_at_call 47; refine (add02_calls _ _ (wordsOf (V * b)) (wordsOf x) _ (by first | exact a1.si | exact a1.si.below b2) (by first | exact b1.si | exact b1.si.below a2) (wordsOf_u64 _) (wordsOf_u64 _) HVL.out.2.1 HVL.out.2.2).mono ?_; rintro e w4 ⟨v4, rfl, d1, d2⟩
           rw [wordsOf_val, wordsOf_val] at d1
           have ke : Below wr.heap.size wr w4 := kb.trans (d2.mono kb.size)
           have kd : w4.cell? (ad.add j) = some (.int .i64 (x : Int)) := (ke.cell (World.block_lt_of_cell? wr _ hcl2)).trans hcl2))
      all_goals
        go_wp2
        go_roundw
        case rel => exact ⟨j, by omega, rfl, by rw [HV.out, Nat.add_comm, Nat.mul_comm b]; exact d1.si, HBB.out.trans (ke.mono HBB.out.size)⟩
        case measure => simp [intOf]
    · obtain rfl : m = 0 := by omega
      rw [show (((0 : Nat) : Int) - 1) = -1 by omega]
      rw [List.drop_zero] at hs
      have HS := Lib.hid hs
      have HBB := Lib.hid hB
      clear hs hB
      go_wp2
      go_ret
      exact ⟨_, rfl, HS.out, H2.out.trans (HBB.out.mono H2.out.size)⟩
end Go.Proofs.YtmbceiaeffnigaaGreatDoor
