/- nat.Mul. -/
import Derived.Test.YtmbceiaeffnigaaGreatDoorK6
namespace Go.Proofs.YtmbceiaeffnigaaGreatDoor
open Go.RowKit

/-- A number and no error. -/
def RetSIT (w : World) (xs : List Int) (e : Ending) (w' : World) : Prop := ∃ v', e = .returned (.tuple #[v', .int .i64 0]) ∧ SI w' .u64 v' xs ∧ Below w.heap.size w w'

theorem val_words_len {xs ys : List Int} (hx : U64 xs) (hy : U64 ys) : (wordsOf (val 18446744073709551616 xs * val 18446744073709551616 ys)).length ≤ xs.length + ys.length := by
  refine wordsOf_len _ _ ?_
  rw [Nat.pow_add]
  exact Nat.mul_lt_mul'' (val_lt64 xs hx) (val_lt64 ys hy)

set_option maxHeartbeats 1000000 in
set_option maxRecDepth 100000 in
theorem natMul_calls (u v : Value) (xs ys : List Int) (w : World) (hr : SI w .u64 u xs) (hs : SI w .u64 v ys) (hux : U64 xs) (huy : U64 ys) (hx : xs.length ≤ 1000) (hy : ys.length ≤ 1000) :
    Calls Tryz.prog 176 #[u, v] w (RetSIT w (wordsOf (val 18446744073709551616 xs * val 18446744073709551616 ys))) := by
  obtain ⟨Ax, cx, rfl, _, _⟩ := hr.form
  obtain ⟨Ay, cy, rfl, _, _⟩ := hs.form
  obtain ⟨w1, hw1⟩ : ∃ w1, w1 = w.alloc (.cells #[.slice Ax xs.length cx, .slice Ay ys.length cy] 23) := ⟨_, rfl⟩
  have hfew : Few w1 (some ⟨w.heap.size, 0, none⟩) 2 := by rw [hw1]; exact few_two _ _ _ _ _ _ _ _ (by omega) (by omega)
  have hcall := largeN_calls (some ⟨w.heap.size, 0, none⟩) 2 2 w1 hfew (by omega)
  have S1 : SI w1 .u64 (.slice Ax xs.length cx) xs := by rw [hw1]; exact hr.alloc _
  have S2 : SI w1 .u64 (.slice Ay ys.length cy) ys := by rw [hw1]; exact hs.alloc _
  have B1 : Below w.heap.size w w1 := by rw [hw1]; exact below_new _ _
  have HL1 := Lib.hid (natLen_calls _ xs w1 S1 hux (by omega))
  have HL2 := Lib.hid (natLen_calls _ ys w1 S2 huy (by omega))
  have HM := Lib.hid (natmul_calls _ _ xs ys w1 S1 S2 hux huy (by omega) (by omega))
  have HLN := Lib.hid (val_words_len hux huy)
  have HB := Lib.hid B1
  have HW := Lib.hid hw1
  rw [hw1] at hcall
  have HC := Lib.hid hcall
  clear S1 S2 hw1 hfew hcall hr hs hux huy B1
  obtain ⟨N, hN⟩ : ∃ N, N = val 18446744073709551616 xs * val 18446744073709551616 ys := ⟨_, rfl⟩
  rw [← hN] at HM HLN ⊢
  clear hN
  go_enter Tryz.func176, Tryz.ntmps176
  go_upto_region 2 with (first
    | (go_at_call 182; refine (tooLong_calls _ _ _ M1.out.1 M2.out.1 (by have := M1.out.2; have := M2.out.2; omega)).mono ?_; rintro e w' ⟨rfl, rfl⟩)
    | (go_at_call 183; refine HL2.out.mono ?_; rintro e w' ⟨m2, rfl, q1, q2, rfl⟩; have M2 := Lib.hid (And.intro q1 q2); clear q1 q2)
    | (go_at_call 183; refine HL1.out.mono ?_; rintro e w' ⟨m1, rfl, q1, q2, rfl⟩; have M1 := Lib.hid (And.intro q1 q2); clear q1 q2)
    | (go_at_call 98; refine HC.out.mono ?_; clear HC; rintro e w' ⟨rfl, rfl⟩; rw [← HW.out]))
  refine HM.out.mono ?_
  rintro e w2 ⟨v2, rfl, q1, q2⟩
  obtain ⟨A2, c2, rfl, _, _⟩ := q1.form
  have HF := Lib.hid (fitN_calls A2 (wordsOf N).length c2 (wordsOf N) w2 q1 (by have := HLN.out; omega))
  have HS := Lib.hid (si_cut q1)
  have B2 := Lib.hid (bnx2 HB.out q2)
  clear q1 q2
  go_wp2_with (go_at_call 117; refine HF.out.mono ?_; rintro e w' ⟨rfl, rfl⟩)
  go_ret2
  refine ⟨_, rfl, ?_, B2.out⟩
  have h := HS.out
  rw [cut_words _ (wordsOf_u64 _), wordsOf_val] at h
  exact h
end Go.Proofs.YtmbceiaeffnigaaGreatDoor
