/- What the law asks whatever the input is. -/
import Derived.Test.YtlmbklpidmkdcaaGreatDoorE7
import Derived.Test.YtlmbklpidmkdcaaGreatDoorC
namespace Go.Proofs.YtlmbklpidmkdcaaGreatDoor
open Go.RowKit

theorem fmt_255 : fmt 16 255 = [102, 102] := by simp [fmt, digs_pos, digs_zero, chr]
theorem fmt_5 : fmt 2 5 = [49, 48, 49] := by simp [fmt, digs_pos, digs_zero, chr]
theorem digs_1000 : digs 10 1000 = [0, 0, 0, 1] := by simp [digs_pos, digs_zero]
theorem words_255 : wordsOf 255 = [255] := wordsOf_small 255 (by omega) (by omega)
theorem words_1000 : wordsOf 1000 = [1000] := wordsOf_small 1000 (by omega) (by omega)
theorem u64_small (x : Int) (h0 : 0 ≤ x) (h1 : x < 4294967296) : U64 [x] := U64.one h0 (by omega)

theorem aw_format (v : Value) (w : World) (h : SI w .u64 v [255]) : Calls Tryz.prog 4 #[v, .int .i64 16] w (RetB w (.tuple #[.string ⟨#[102, 102]⟩, .int .i64 0])) := by
  have := formatR_yes v [255] 16 w h (u64_small 255 (by omega) (by omega)) (by simp) (by omega) (by omega)
  rw [show val 18446744073709551616 [255] = 255 from rfl, fmt_255] at this
  exact this
theorem aw_parse (w : World) : Calls Tryz.prog 5 #[.string ⟨#[70, 70]⟩, .int .i64 16] w (RetNat w 255) := by
  have e : pre 16 ⟨#[70, 70]⟩ (ByteArray.mk #[70, 70]).size = 255 := by decide +kernel
  have := parseR_yes ⟨#[70, 70]⟩ 16 w (by omega) (by omega) (by decide) (by rw [e, words_255]; simp) (by decide +kernel)
  rw [e] at this
  exact this
theorem aw_lit1 (w : World) (hN : NoneAt w) : Calls Tryz.prog 42 #[.string ⟨#[48, 120, 95, 102, 70]⟩] w (RetLit w 255 16) := by
  have e : dval 16 [102, 70] = 255 := by decide +kernel
  have := literalR_yes ⟨#[48, 120, 95, 102, 70]⟩ w (by decide) hN 16 [102, 70] (by decide +kernel) (by omega) (by rw [e, words_255]; simp)
  rw [e] at this
  exact this
theorem aw_lit2 (w : World) (hN : NoneAt w) : Calls Tryz.prog 42 #[.string ⟨#[49, 95, 48, 48, 48]⟩] w (RetLit w 1000 10) := by
  have e : dval 10 [49, 48, 48, 48] = 1000 := by decide +kernel
  have := literalR_yes ⟨#[49, 95, 48, 48, 48]⟩ w (by decide) hN 10 [49, 48, 48, 48] (by decide +kernel) (by omega) (by rw [e, words_1000]; simp)
  rw [e] at this
  exact this
theorem aw_lit3 (w : World) (hN : NoneAt w) : Calls Tryz.prog 42 #[.string ⟨#[48, 49]⟩] w (RetB w (.tuple #[.slice none 0 0, .int .i64 0, .int .i64 6])) :=
  literalR_no ⟨#[48, 49]⟩ w (by decide) hN (by decide +kernel)
theorem aw_pad (v : Value) (w : World) (h : SI w .u64 v [5]) : Calls Tryz.prog 10 #[v, .int .i64 2, .int .i64 6] w (RetB w (.tuple #[.string ⟨#[48, 48, 48, 49, 48, 49]⟩, .int .i64 0])) := by
  have := padR_yes v [5] 2 6 w h (u64_small 5 (by omega) (by omega)) (by simp) (by omega) (by omega) (by omega)
  rw [show val 18446744073709551616 [5] = 5 from rfl, fmt_5] at this
  exact this
theorem aw_group (w : World) : Calls Tryz.prog 11 #[.string ⟨#[49, 50, 51, 52, 53, 54, 55]⟩, .int .i64 3] w (RetB w (.tuple #[.string ⟨#[49, 95, 50, 51, 52, 95, 53, 54, 55]⟩, .int .i64 0])) := by
  have := groupR_calls ⟨#[49, 50, 51, 52, 53, 54, 55]⟩ 3 w (by omega) (by omega) (by decide)
  exact this
theorem aw_tail (v : Value) (w : World) (h : SI w .u64 v [1000]) : Calls Tryz.prog 13 #[v, .int .i64 10] w (RetB w (.tuple #[.int .i64 3, .int .i64 0])) := by
  have := tailR_yes v [1000] 10 w h (u64_small 1000 (by omega) (by omega)) (by simp) (by omega) (by omega)
  rw [show val 18446744073709551616 [1000] = 1000 from rfl, digs_1000] at this
  exact this
theorem aw_is (u v : Value) (n : Nat) (w : World) (hn : n < 4294967296) (h0 : n ≠ 0) (hr : SI w .u64 u (wordsOf n)) (hs : SI w .u64 v [(n : Int)]) : Calls Tryz.prog 43 #[u, v] w (RetB w (.bool true)) := by
  have := is_calls u v n [(n : Int)] w hr hs (u64_small _ (by omega) (by omega)) (by rw [wordsOf_small n h0 hn]; simp) (by simp)
  rw [show val 18446744073709551616 [(n : Int)] = n by simp [val], decide_eq_true rfl] at this
  exact this

set_option maxHeartbeats 2000000 in
set_option maxRecDepth 100000 in
theorem awake_calls (w : World) (hN : NoneAt w) : Calls Tryz.prog 14 #[] w (RetB w (.bool true)) := by
  have HN := Lib.hid hN
  clear hN
  go_enter Tryz.func14, Tryz.ntmps14
  go_upto_region 2 with (go_at_call 4; refine (aw_format _ _ (SI.one _ _ _ _)).mono ?_; rintro e w1 ⟨rfl, q1⟩; have B1 := Lib.hid ((below_new w _).trans (q1.mono (by simp))); clear q1)
  go_upto_region 3 with (go_at_call 5; refine (aw_parse _).mono ?_; rintro e w2 ⟨v2, rfl, s2, q1⟩; have S2 := Lib.hid s2; have B2 := Lib.hid (B1.out.trans (q1.mono B1.out.size)); clear q1 s2)
  go_upto_region 4 with (go_at_call 42; refine (aw_lit1 _ (HN.out.below B2.out HN.out.pos)).mono ?_; rintro e w3 ⟨v3, rfl, s3, q1⟩; have S3 := Lib.hid s3; have S23 := Lib.hid (S2.out.below q1); have B3 := Lib.hid (B2.out.trans (q1.mono B2.out.size)); clear q1 s3)
  go_upto_region 5 with (go_at_call 42; refine (aw_lit2 _ (HN.out.below B3.out HN.out.pos)).mono ?_; rintro e w4 ⟨v4, rfl, s4, q1⟩; have S4 := Lib.hid s4; have S24 := Lib.hid (S23.out.below q1); have S34 := Lib.hid (S3.out.below q1); have B4 := Lib.hid (B3.out.trans (q1.mono B3.out.size)); clear q1 s4)
  go_upto_region 6 with (go_at_call 42; refine (aw_lit3 _ (HN.out.below B4.out HN.out.pos)).mono ?_; rintro e w5 ⟨rfl, q1⟩; have Q5 := Lib.hid q1; have B5 := Lib.hid (B4.out.trans (q1.mono B4.out.size)); clear q1)
  go_upto_region 7 with (go_at_call 10; refine (aw_pad _ _ (SI.one _ _ _ _)).mono ?_; rintro e w6 ⟨rfl, q1⟩; have Q6 := Lib.hid ((below_new w5 _).trans (q1.mono (by simp))); clear q1)
  go_upto_region 8 with (go_at_call 11; refine (aw_group _).mono ?_; rintro e w7 ⟨rfl, q1⟩; have Q7 := Lib.hid q1; clear q1)
  go_wp2_with (go_at_call 13; refine (aw_tail _ _ (SI.one _ _ _ _)).mono ?_; rintro e w8 ⟨rfl, q1⟩; have Q8 := Lib.hid ((below_new w7 _).trans (q1.mono (by simp))); clear q1; have hq : Below w4.heap.size w4 w8 := ((Q5.out.trans (Q6.out.mono Q5.out.size)).trans (Q7.out.mono (Nat.le_trans Q5.out.size Q6.out.size))).trans (Q8.out.mono (Nat.le_trans (Nat.le_trans Q5.out.size Q6.out.size) Q7.out.size)); have T2 := Lib.hid (S24.out.below hq); have T3 := Lib.hid (S34.out.below hq); have T4 := Lib.hid (S4.out.below hq); have B8 := Lib.hid (B4.out.trans (hq.mono B4.out.size)); clear hq)
  refine (aw_is v2 _ 255 _ (by omega) (by omega) (T2.out.alloc _) (SI.one _ _ _ _)).mono ?_
  rintro e w9 ⟨rfl, q1⟩
  have R3 := Lib.hid ((T3.out.alloc _).below q1)
  have R4 := Lib.hid ((T4.out.alloc _).below q1)
  have B9 := Lib.hid (B8.out.trans (((below_new w8 (.cells #[.int .u64 255] 42)).trans (q1.mono (by simp))).mono B8.out.size))
  clear q1
  go_wp2_with fail
  refine (aw_is v3 _ 255 _ (by omega) (by omega) (R3.out.alloc _) (SI.one _ _ _ _)).mono ?_
  rintro e w10 ⟨rfl, q1⟩
  have R5 := Lib.hid ((R4.out.alloc _).below q1)
  have B10 := Lib.hid (B9.out.trans (((below_new w9 (.cells #[.int .u64 255] 42)).trans (q1.mono (by simp))).mono B9.out.size))
  clear q1
  go_wp2_with fail
  refine (aw_is v4 _ 1000 _ (by omega) (by omega) (R5.out.alloc _) (SI.one _ _ _ _)).mono ?_
  rintro e w11 ⟨rfl, q1⟩
  have B11 := Lib.hid (B10.out.trans (((below_new w10 (.cells #[.int .u64 1000] 42)).trans (q1.mono (by simp))).mono B10.out.size))
  clear q1
  go_wp2
  go_ret
  exact ⟨rfl, B11.out⟩
end Go.Proofs.YtlmbklpidmkdcaaGreatDoor
