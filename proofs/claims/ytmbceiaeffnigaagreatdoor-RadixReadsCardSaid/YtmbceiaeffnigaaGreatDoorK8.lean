/- fast.Mul, of numbers of few words. -/
import Derived.Test.YtmbceiaeffnigaaGreatDoorK7
import Derived.Laws.EntriesVeiled
namespace Go.Proofs.YtmbceiaeffnigaaGreatDoor
open Go.RowKit

theorem largeF_calls (A : Option Addr) (n c : Nat) (w : World) (hf : Few w A n) (hn : n ≤ 1000) :
    Calls Tryz.prog 132 #[.slice A n c] w (RetV w (.bool false)) := by
  have HF := Lib.hid hf
  clear hf
  go_enter Tryz.func132, Tryz.ntmps132
  go_wp2
  go_loopw [7] (fun i wr => ∃ k : Nat, k ≤ n ∧ i = .int .i64 (k : Int) ∧ wr = w) (fun i _ => n - (intOf i).toNat)
  case atStart => exact ⟨0, Nat.zero_le _, rfl, rfl⟩
  case round =>
    obtain ⟨k, hk, rfl, rfl⟩ := hrel
    by_cases hlt : k < n
    · obtain ⟨ad, rfl, A', m, c', hcl, hm⟩ := HF.out k hlt
      have hgt : decide (4096 < (m : Int)) = false := decide_eq_false (by omega)
      go_wp2
      go_roundw
      case rel => exact ⟨k + 1, by omega, by go_num, trivial⟩
      case measure => simp [intOf]; omega
    · obtain rfl : k = n := by omega
      go_wp2
      go_ret
      exact ⟨rfl, rfl⟩

set_option maxHeartbeats 1000000 in
theorem mustF_calls (v e0 : Value) (w : World) : Calls Tryz.prog 175 #[v, e0] w (RetV w v) := by
  go_enter Tryz.func175, Tryz.ntmps175
  go_wp2
  go_ret
  exact ⟨rfl, rfl⟩

set_option maxHeartbeats 1000000 in
theorem fitF_calls (v : Value) (xs : List Int) (w : World) (hr : SI w .u64 v xs) (hn : xs.length ≤ 4096) : Calls Tryz.prog 133 #[v] w (RetSIT w (cut xs)) := by
  have HT := Lib.hid (trimN_calls v xs w hr (by omega))
  have hl := cut_length xs
  have ht := tlen_le xs xs.length
  have HL : Hid ((cut xs).length ≤ 4096) := by show (cut xs).length ≤ 4096; omega
  generalize cut xs = zs at *
  clear hr hl ht
  go_enter Tryz.func133, Tryz.ntmps133
  go_upto_region 2 with (go_at_call 69; refine HT.out.mono ?_; rintro e w1 ⟨v1, rfl, q1, q2⟩; obtain ⟨A1, c1, rfl, _⟩ := q1.slice; have G1 := Lib.hid q1.si; have B1 := Lib.hid q2; clear q1 q2)
  have hgt : decide (4096 < (zs.length : Int)) = false := decide_eq_false (by have := HL.out; omega)
  go_wp2
  go_ret2
  exact ⟨_, rfl, G1.out, B1.out⟩

set_option maxHeartbeats 1000000 in
set_option maxRecDepth 100000 in
theorem plainF_calls (u v : Value) (xs ys : List Int) (w : World) (hr : SI w .u64 u xs) (hs : SI w .u64 v ys) (hux : U64 xs) (huy : U64 ys) (hx : xs.length ≤ 1000) (hy : ys.length ≤ 1000) :
    Calls Tryz.prog 167 #[u, v] w (RetSI w (wordsOf (val 18446744073709551616 xs * val 18446744073709551616 ys))) := by
  obtain ⟨Ax, cx, rfl, _, _⟩ := hr.form
  obtain ⟨Ay, cy, rfl, _, _⟩ := hs.form
  obtain ⟨w1, hw1⟩ : ∃ w1, w1 = w.alloc (.cells #[.slice Ay ys.length cy] 23) := ⟨_, rfl⟩
  have S1 : SI w1 .u64 (.slice Ax xs.length cx) xs := by rw [hw1]; exact hr.alloc _
  have S2 : SI w1 .u64 (.slice Ay ys.length cy) ys := by rw [hw1]; exact hs.alloc _
  have B1 : Below w.heap.size w w1 := by rw [hw1]; exact below_new _ _
  have c1 : w1.cell? ⟨w.heap.size, 0, none⟩ = some (.slice Ay ys.length cy) := by rw [hw1]; simp [go_sem]
  have HM := Lib.hid (natMul_calls _ _ xs ys w1 S1 S2 hux huy (by omega) (by omega))
  have HB := Lib.hid B1
  have HC1 := Lib.hid c1
  have HW := Lib.hid hw1
  clear S1 S2 hr hs hux huy B1 c1 hw1
  obtain ⟨N, hN⟩ : ∃ N, N = val 18446744073709551616 xs * val 18446744073709551616 ys := ⟨_, rfl⟩
  rw [← hN] at HM ⊢
  clear hN
  go_enter Tryz.func167, Tryz.ntmps167
  go_upto_region 1 with (fail)
  rw [← HW.out]
  have hc1 := HC1.out
  have hle : decide ((xs.length : Int) + (ys.length : Int) ≤ 4096) = true := decide_eq_true (by omega)
  clear HW HC1
  go_wp2_with (first
    | (go_at_call 175; refine (mustF_calls _ _ _).mono ?_; rintro e w' ⟨rfl, rfl⟩)
    | (go_at_call 176; refine HM.out.mono ?_; rintro e w2 ⟨v2, rfl, q1, q2⟩; have G2 := Lib.hid q1; have B2 := Lib.hid q2; clear q1 q2))
  go_ret
  exact ⟨_, rfl, G2.out, bnx2 HB.out B2.out⟩

set_option maxHeartbeats 1000000 in
set_option maxRecDepth 100000 in
/-- The closure of Karatsuba, at numbers of few words: the schoolbook. -/
theorem grow_calls (u v : Value) (xs ys : List Int) (pk : Nat) (pg : Value) (w : World) (hr : SI w .u64 u xs) (hs : SI w .u64 v ys) (hux : U64 xs) (huy : U64 ys) (hx : xs.length ≤ 50) (hy : ys.length ≤ 50)
    (hk : w.cell? ⟨pk, 0, none⟩ = some (.int .i64 64)) :
    Calls Tryz.prog 189 #[u, v, .pointer (some ⟨pk, 0, none⟩), pg] w (RetSI w (wordsOf (val 18446744073709551616 xs * val 18446744073709551616 ys))) := by
  have HR := Lib.hid hr
  have HS := Lib.hid hs
  have HU := Lib.hid (And.intro hux huy)
  have HK := Lib.hid hk
  clear hr hs hux huy hk
  go_enter Tryz.func189, Tryz.ntmps189
  go_upto_region 2 with (first
    | (go_at_call 69; refine (trimN_calls v ys _ (HS.out.below B1.out) (by omega)).mono ?_; rintro e w2 ⟨v2, rfl, q1, q2⟩; obtain ⟨A2, c2, rfl, _⟩ := q1.slice; have G2 := Lib.hid q1.si; have B2 := Lib.hid q2; clear q1 q2)
    | (go_at_call 69; refine (trimN_calls u xs _ HR.out (by omega)).mono ?_; rintro e w1 ⟨v1, rfl, q1, q2⟩; obtain ⟨A1, c1, rfl, _⟩ := q1.slice; have G1 := Lib.hid q1.si; have B1 := Lib.hid q2; clear q1 q2))
  have hkc : w2.cell? ⟨pk, 0, none⟩ = some (.int .i64 64) := ((bnx2 B1.out B2.out).cell (World.block_lt_of_cell? w _ HK.out)).trans HK.out
  have hl1 := cut_length xs
  have hl2 := cut_length ys
  have ht1 := tlen_le xs xs.length
  have ht2 := tlen_le ys ys.length
  have hm : decide (min ((cut xs).length : Int) ((cut ys).length : Int) < 64) = true := decide_eq_true (by omega)
  have hc1 : (cut xs).length ≤ 50 := by omega
  have hc2 : (cut ys).length ≤ 50 := by omega
  have HP := Lib.hid (plainF_calls _ _ (cut xs) (cut ys) w2 (G1.out.below B2.out) G2.out (HU.out.1.take _) (HU.out.2.take _) (by omega) (by omega))
  rw [cut_val, cut_val] at HP
  clear hl1 hl2 ht1 ht2
  go_wp2_with (go_at_call 167; refine HP.out.mono ?_; rintro e w3 ⟨v3, rfl, q1, q2⟩; have G3 := Lib.hid q1; have B3 := Lib.hid q2; clear q1 q2)
  go_ret
  exact ⟨_, rfl, G3.out, bnx2 (bnx2 B1.out B2.out) B3.out⟩

set_option maxHeartbeats 1000000 in
set_option maxRecDepth 100000 in
theorem kmul_calls (u v : Value) (xs ys : List Int) (w : World) (hr : SI w .u64 u xs) (hs : SI w .u64 v ys) (hux : U64 xs) (huy : U64 ys) (hx : xs.length ≤ 50) (hy : ys.length ≤ 50) :
    Calls Tryz.prog 188 #[.agg #[.int .i64 64], u, v] w (RetSI w (wordsOf (val 18446744073709551616 xs * val 18446744073709551616 ys))) := by
  have HR := Lib.hid hr
  have HS := Lib.hid hs
  have HU := Lib.hid (And.intro hux huy)
  clear hr hs hux huy
  go_enter Tryz.func188, Tryz.ntmps188
  go_upto_region 2 with (fail)
  obtain ⟨w2, hw2⟩ : ∃ w2, w2 = (w.alloc (.cells #[.int .i64 64] 162)).alloc (.cells #[.nilFunc] 48) := ⟨_, rfl⟩
  have B2 : Below w.heap.size w w2 := by rw [hw2]; exact bnx2 (below_new _ _) (below_new _ _)
  have c1 : w2.cell? ⟨w.heap.size, 0, none⟩ = some (.int .i64 64) := by rw [hw2]; simp [go_sem]
  have c2 : w2.cell? ⟨w.heap.size + 1, 0, none⟩ = some .nilFunc := by rw [hw2]; simp [go_sem]
  have f2 : w2.frozen? ⟨w.heap.size + 1, 0, none⟩ = false := by rw [hw2]; simp [go_sem]
  rw [← hw2]
  clear hw2
  have HB2 := Lib.hid B2
  have HC1 := Lib.hid c1
  have HC2 := Lib.hid c2
  clear B2 c1
  go_upto_region 3 with (fail)
  obtain ⟨w3, hw3⟩ : ∃ w3, w3 = w2.setCell ⟨w.heap.size + 1, 0, none⟩ (.func (.func 189) #[] #[.pointer (some ⟨w.heap.size, 0, none⟩), .pointer (some ⟨w.heap.size + 1, 0, none⟩)]) := ⟨_, rfl⟩
  have B3 : Below w.heap.size w w3 := by rw [hw3]; exact HB2.out.setCell (p := ⟨w.heap.size + 1, 0, none⟩) (by simp) _
  have c4 : w3.cell? ⟨w.heap.size, 0, none⟩ = some (.int .i64 64) := by rw [hw3]; exact (World.cell?_setCell_far _ _ _ _ (by simp)).trans HC1.out
  have c5 : w3.cell? ⟨w.heap.size + 1, 0, none⟩ = some (.func (.func 189) #[] #[.pointer (some ⟨w.heap.size, 0, none⟩), .pointer (some ⟨w.heap.size + 1, 0, none⟩)]) := by rw [hw3]; exact World.cell?_setCell_same' _ _ _ (by rw [HC2.out]; rfl)
  rw [← hw3]
  clear hw3 c2 f2 HC1 HC2 HB2
  have HG := Lib.hid (grow_calls u v xs ys w.heap.size (.pointer (some ⟨w.heap.size + 1, 0, none⟩)) w3 (HR.out.below B3) (HS.out.below B3) HU.out.1 HU.out.2 hx hy c4)
  have HB := Lib.hid B3
  clear c4 B3
  go_wp2_with (go_at_call 189; refine HG.out.mono ?_; rintro e w4 ⟨v4, rfl, q1, q2⟩; have G4 := Lib.hid q1; have B4 := Lib.hid q2; clear q1 q2)
  go_ret
  exact ⟨_, rfl, G4.out, bnx2 HB.out B4.out⟩

set_option maxHeartbeats 1000000 in
set_option maxRecDepth 100000 in
theorem checkedF_calls (u v : Value) (xs ys : List Int) (w : World) (hr : SI w .u64 u xs) (hs : SI w .u64 v ys) (hux : U64 xs) (huy : U64 ys) (hx : xs.length ≤ 50) (hy : ys.length ≤ 50) :
    Calls Tryz.prog 114 #[u, v, .int .i64 64, .iface 162 (.agg #[.int .i64 64])] w (RetSIT w (wordsOf (val 18446744073709551616 xs * val 18446744073709551616 ys))) := by
  obtain ⟨Ax, cx, rfl, _, _⟩ := hr.form
  obtain ⟨Ay, cy, rfl, _, _⟩ := hs.form
  obtain ⟨w1, hw1⟩ : ∃ w1, w1 = w.alloc (.cells #[.slice Ax xs.length cx, .slice Ay ys.length cy] 23) := ⟨_, rfl⟩
  have hfew : Few w1 (some ⟨w.heap.size, 0, none⟩) 2 := by rw [hw1]; exact few_two _ _ _ _ _ _ _ _ (by omega) (by omega)
  have hcall := largeF_calls (some ⟨w.heap.size, 0, none⟩) 2 2 w1 hfew (by omega)
  have S1 : SI w1 .u64 (.slice Ax xs.length cx) xs := by rw [hw1]; exact hr.alloc _
  have S2 : SI w1 .u64 (.slice Ay ys.length cy) ys := by rw [hw1]; exact hs.alloc _
  have B1 : Below w.heap.size w w1 := by rw [hw1]; exact below_new _ _
  have HS1 := Lib.hid S1
  have HS2 := Lib.hid S2
  have HU := Lib.hid (And.intro hux huy)
  have HB := Lib.hid B1
  have HW := Lib.hid hw1
  rw [hw1] at hcall
  have HC := Lib.hid hcall
  clear S1 S2 hw1 hfew hcall hr hs hux huy B1
  go_enter Tryz.func114, Tryz.ntmps114
  go_upto_region 3 with (go_at_call 132; refine HC.out.mono ?_; clear HC; rintro e w' ⟨rfl, rfl⟩; rw [← HW.out])
  go_upto_region 6 with (fail)
  go_wp2_with (first
    | (go_at_call 69; refine (trimN_calls _ ys _ (HS2.out.below B1.out) (by omega)).mono ?_; rintro e w2 ⟨v2, rfl, q1, q2⟩; obtain ⟨A2, c2, rfl, _⟩ := q1.slice; have G2 := Lib.hid q1.si; have B2 := Lib.hid q2; clear q1 q2)
    | (go_at_call 69; refine (trimN_calls _ xs _ HS1.out (by omega)).mono ?_; rintro e w1 ⟨v1, rfl, q1, q2⟩; obtain ⟨A1, c1, rfl, _⟩ := q1.slice; have G1 := Lib.hid q1.si; have B1 := Lib.hid q2; clear q1 q2))
  have hl1 := cut_length xs
  have hl2 := cut_length ys
  have ht1 := tlen_le xs xs.length
  have ht2 := tlen_le ys ys.length
  have hc1 : (cut xs).length ≤ 50 := by omega
  have hc2 : (cut ys).length ≤ 50 := by omega
  have HKM := Lib.hid (kmul_calls _ _ (cut xs) (cut ys) w2 (G1.out.below B2.out) G2.out (HU.out.1.take _) (HU.out.2.take _) hc1 hc2)
  rw [cut_val, cut_val] at HKM
  have HLN := Lib.hid (val_words_len HU.out.1 HU.out.2)
  obtain ⟨N, hN⟩ : ∃ N, N = val 18446744073709551616 xs * val 18446744073709551616 ys := ⟨_, rfl⟩
  rw [← hN] at HKM HLN
  have HN := Lib.hid hN
  clear hl1 hl2 ht1 ht2 hN
  have hm : ∀ w : World, (method 335 162 (.agg #[.int .i64 64]) "reckoner/fast.mul").run Tryz.prog w = .ok (188, .agg #[.int .i64 64]) w := fun _ => by kernel_rfl
  simp only [hm, Result.andThen]
  go_simp
  refine HKM.out.mono ?_
  rintro e w3 ⟨v3, rfl, q1, q2⟩
  have HF := Lib.hid (fitF_calls v3 _ w3 q1 (by have := HLN.out; omega))
  rw [cut_words _ (wordsOf_u64 _), wordsOf_val] at HF
  have B3 := Lib.hid q2
  clear q1 q2 hm
  go_wp2_with (go_at_call 133; refine HF.out.mono ?_; rintro e w4 ⟨v4, rfl, q1, q2⟩; have G4 := Lib.hid q1; have B4 := Lib.hid q2; clear q1 q2)
  go_ret2
  refine ⟨v4, rfl, by rw [← HN.out]; exact G4.out, ?_⟩
  exact bnx2 (bnx2 (bnx2 (bnx2 HB.out B1.out) B2.out) B3.out) B4.out

set_option maxHeartbeats 1000000 in
set_option maxRecDepth 100000 in
theorem fastMul_calls (u v : Value) (xs ys : List Int) (w : World) (hr : SI w .u64 u xs) (hs : SI w .u64 v ys) (hux : U64 xs) (huy : U64 ys) (hx : xs.length ≤ 50) (hy : ys.length ≤ 50) :
    Calls Tryz.prog 93 #[u, v] w (RetSIT w (wordsOf (val 18446744073709551616 xs * val 18446744073709551616 ys))) := by
  have HC := Lib.hid (checkedF_calls u v xs ys w hr hs hux huy hx hy)
  obtain ⟨Ax, cx, rfl, _, _⟩ := hr.form
  obtain ⟨Ay, cy, rfl, _, _⟩ := hs.form
  have hm : decide (256 < min (xs.length : Int) (ys.length : Int)) = false := decide_eq_false (by omega)
  clear hr hs hux huy
  generalize val 18446744073709551616 xs * val 18446744073709551616 ys = N at *
  go_enter Tryz.func93, Tryz.ntmps93
  go_wp2_with (go_at_call 114; refine HC.out.mono ?_; rintro e w4 ⟨v4, rfl, q1, q2⟩; have G4 := Lib.hid q1; have B4 := Lib.hid q2; clear q1 q2)
  go_ret2
  exact ⟨_, rfl, G4.out, B4.out⟩
end Go.Proofs.YtmbceiaeffnigaaGreatDoor
