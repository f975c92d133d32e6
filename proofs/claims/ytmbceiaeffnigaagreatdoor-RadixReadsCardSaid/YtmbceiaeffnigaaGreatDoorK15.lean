/- RadixReads: the walk. -/
import Derived.Test.YtmbceiaeffnigaaGreatDoorK14
import Derived.Test.YtmbceiaeffnigaaGreatDoorD4
import Derived.Test.YtmbceiaeffnigaaGreatDoorE8
namespace Go.Proofs.YtmbceiaeffnigaaGreatDoor
open Go.RowKit

theorem refp_yes (s : ByteArray) (b : Nat) (w : World) (hb : 2 ≤ b) (hb2 : b ≤ 36) (hn : s.size ≤ 300) (h : areB s b = true) :
    Calls Tryz.prog 31 #[.string s, .int .i64 (b : Int)] w fun e w' => ∃ v', e = .returned (.tuple #[v', .bool true]) ∧ SI w' .u64 v' (wordsOf (pre b s s.size)) ∧ Below w.heap.size w w' := by
  obtain ⟨h1, h2⟩ := of_decide_eq_true h
  refine (parse10_yes s b w hb hb2 (by omega) h2).mono ?_
  rintro e w' ⟨v', rfl, q1, q2⟩
  exact ⟨v', by rw [decide_eq_true h1], by rw [pre_all]; exact q1, q2⟩
theorem refp_no (s : ByteArray) (b : Nat) (w : World) (hb : 2 ≤ b) (hb2 : b ≤ 36) (hn : s.size ≤ 300) (h : areB s b = false) :
    Calls Tryz.prog 31 #[.string s, .int .i64 (b : Int)] w fun e w' => ∃ v', e = .returned (.tuple #[v', .bool false]) ∧ Below w.heap.size w w' := by
  have h' := of_decide_eq_false h
  by_cases ht : Txt s b
  · have h0 : ¬ 0 < s.size := fun h0 => h' ⟨h0, ht⟩
    refine (parse10_yes s b w hb hb2 (by omega) ht).mono ?_
    rintro e w' ⟨v', rfl, q1, q2⟩
    exact ⟨v', by rw [decide_eq_false h0], q2⟩
  · refine (parse10_no s b w hb hb2 (by omega) ht).mono ?_
    rintro e w' ⟨rfl, q2⟩
    exact ⟨_, rfl, q2⟩

set_option maxHeartbeats 8000000 in
set_option maxRecDepth 100000 in
theorem reads_calls (s : ByteArray) (o0 o1 : Int) (w : World) (hN : NoneAt w) (r0 : -9223372036854775808 ≤ o0 ∧ o0 < 9223372036854775808) (r1 : -9223372036854775808 ≤ o1 ∧ o1 < 9223372036854775808) :
    Calls Tryz.prog 5 #[.string s, .int .i64 o0, .int .i64 o1] w (RetB w (.bool true)) := by
  have HN := Lib.hid hN
  clear hN
  go_enter Tryz.func5, Tryz.ntmps5
  go_upto_region 2 with (go_at_call 28; refine (part_calls s 300 _).mono ?_; rintro e w2 ⟨rfl, rfl⟩)
  obtain ⟨tt, ht⟩ : ∃ tt, tt = s.extract 0 (min s.size 300) := ⟨_, rfl⟩
  have hts : tt.size ≤ 300 := by rw [ht]; simp; omega
  rw [← ht]
  clear ht
  go_wp2
  go_loopw [1, 2, 7, 8] (fun bv lv tv i wr => ∃ (k : Nat) (b0 l0 : Int) (t : ByteArray), k ≤ 2 ∧ i = .int .i64 (k : Int) ∧ bv = .int .i64 b0 ∧ lv = .int .i64 l0 ∧ tv = .string t ∧ (-9223372036854775808 ≤ b0 ∧ b0 < 9223372036854775808) ∧ (-9223372036854775808 ≤ l0 ∧ l0 < 9223372036854775808) ∧ t.size ≤ 300 ∧ Below w.heap.size w wr) (fun _ _ _ i _ => 2 - (intOf i).toNat)
  case atStart => exact ⟨0, o0, o1, tt, by omega, rfl, rfl, rfl, rfl, r0, r1, hts, Below.refl _ _⟩
  case round =>
    clear hts
    obtain ⟨k, b0, l0, t, hk, rfl, rfl, rfl, rfl, rb, rl, hts, hB⟩ := hrel
    have HB := Lib.hid hB
    clear hB
    by_cases hlt : k < 2
    · obtain ⟨bn, hbn⟩ : ∃ bn : Nat, (bn : Int) = lawB b0 := ⟨(lawB b0).toNat, by have := lawB_range b0; omega⟩
      have hbr := lawB_range b0
      rw [← hbn] at hbr
      have HBN := Lib.hid hbn
      obtain ⟨u1, hu1⟩ : ∃ u1, IntKind.u64.wrap l0 = u1 := ⟨_, rfl⟩
      have u1r : 0 ≤ u1 ∧ u1 < 18446744073709551616 := by have := IntKind.wrap_u64 l0; omega
      clear hbn
      have hd65 : decide ((65536 : Int) < (t.size : Int)) = false := decide_eq_false (by omega)
      rcases hib : isB b0 with _ | _
      · have HIB := Lib.hid hib
        clear hib
        rcases (show (l0 < 2) ∨ (2 ≤ l0 ∧ 64 < l0) ∨ (2 ≤ l0 ∧ l0 ≤ 64) by omega) with hl | hl | hl
        · have e1 : decide (l0 < 2) = true := decide_eq_true hl
          go_wp2_with (first
                      | (go_at_call 32; refine (plainL_calls s bn _ (by omega) (by omega)).mono ?_; rintro e w8 ⟨t2, rfl, ht2, q1⟩; have HBZ := Lib.hid (HBY.out.trans (q1.mono HBY.out.size)); clear q1)
                      | (go_at_call 20; refine (lawbase_calls b0 _).mono ?_; rintro e w' ⟨rfl, rfl⟩; rw [← HBN.out])
                      | (go_at_call 12; refine (base_calls b0 _).mono ?_; rintro e w' ⟨rfl, rfl⟩; rw [HIB.out])
                      | (go_at_call 30; refine (fastParseR_arg t b0 l0 _ (by omega) (.inl HIB.out)).mono ?_; rintro e w4 ⟨rfl, q1⟩; have HBY := Lib.hid (HBX.out.trans (q1.mono HBX.out.size)); clear q1)
                      | (go_at_call 29; refine (parseR_arg t b0 _ (by omega) HIB.out).mono ?_; rintro e w3 ⟨rfl, q1⟩; have HBX := Lib.hid (HB.out.trans (q1.mono HB.out.size)); clear q1))
          go_roundw
          case rel => exact ⟨k + 1, (bn : Int), 2 + u1 % 63, t2, by omega, by go_num, rfl, rfl, rfl, by omega, by omega, ht2, HBZ.out⟩
          case measure => simp [intOf]; omega
        · have e1 : decide (l0 < 2) = false := decide_eq_false (by omega)
          have e2 : decide (64 < l0) = true := decide_eq_true hl.2
          go_wp2_with (first
                      | (go_at_call 32; refine (plainL_calls s bn _ (by omega) (by omega)).mono ?_; rintro e w8 ⟨t2, rfl, ht2, q1⟩; have HBZ := Lib.hid (HBY.out.trans (q1.mono HBY.out.size)); clear q1)
                      | (go_at_call 20; refine (lawbase_calls b0 _).mono ?_; rintro e w' ⟨rfl, rfl⟩; rw [← HBN.out])
                      | (go_at_call 12; refine (base_calls b0 _).mono ?_; rintro e w' ⟨rfl, rfl⟩; rw [HIB.out])
                      | (go_at_call 30; refine (fastParseR_arg t b0 l0 _ (by omega) (.inl HIB.out)).mono ?_; rintro e w4 ⟨rfl, q1⟩; have HBY := Lib.hid (HBX.out.trans (q1.mono HBX.out.size)); clear q1)
                      | (go_at_call 29; refine (parseR_arg t b0 _ (by omega) HIB.out).mono ?_; rintro e w3 ⟨rfl, q1⟩; have HBX := Lib.hid (HB.out.trans (q1.mono HB.out.size)); clear q1))
          go_roundw
          case rel => exact ⟨k + 1, (bn : Int), 2 + u1 % 63, t2, by omega, by go_num, rfl, rfl, rfl, by omega, by omega, ht2, HBZ.out⟩
          case measure => simp [intOf]; omega
        · have e1 : decide (l0 < 2) = false := decide_eq_false (by omega)
          have e2 : decide (64 < l0) = false := decide_eq_false (by omega)
          go_wp2_with (first
                      | (go_at_call 32; refine (plainL_calls s bn _ (by omega) (by omega)).mono ?_; rintro e w8 ⟨t2, rfl, ht2, q1⟩; have HBZ := Lib.hid (HBY.out.trans (q1.mono HBY.out.size)); clear q1)
                      | (go_at_call 20; refine (lawbase_calls b0 _).mono ?_; rintro e w' ⟨rfl, rfl⟩; rw [← HBN.out])
                      | (go_at_call 12; refine (base_calls b0 _).mono ?_; rintro e w' ⟨rfl, rfl⟩; rw [HIB.out])
                      | (go_at_call 30; refine (fastParseR_arg t b0 l0 _ (by omega) (.inl HIB.out)).mono ?_; rintro e w4 ⟨rfl, q1⟩; have HBY := Lib.hid (HBX.out.trans (q1.mono HBX.out.size)); clear q1)
                      | (go_at_call 29; refine (parseR_arg t b0 _ (by omega) HIB.out).mono ?_; rintro e w3 ⟨rfl, q1⟩; have HBX := Lib.hid (HB.out.trans (q1.mono HB.out.size)); clear q1))
          go_roundw
          case rel => exact ⟨k + 1, (bn : Int), 2 + u1 % 63, t2, by omega, by go_num, rfl, rfl, rfl, by omega, by omega, ht2, HBZ.out⟩
          case measure => simp [intOf]; omega
      · obtain ⟨b, rfl⟩ : ∃ b : Nat, b0 = (b : Int) := ⟨b0.toNat, by have := isB_of hib; omega⟩
        have hb := isB_of hib
        have HIB := Lib.hid hib
        have hb2 : 2 ≤ b := by omega
        have hb36 : b ≤ 36 := by omega
        clear hib hb
        rcases har : areB t b with _ | _
        · have HAR := Lib.hid har
          clear har
          rcases (show (l0 < 2) ∨ (2 ≤ l0 ∧ 64 < l0) ∨ (2 ≤ l0 ∧ l0 ≤ 64) by omega) with hl | hl | hl
          · have e1 : decide (l0 < 2) = true := decide_eq_true hl
            go_wp2_with (first
                        | (go_at_call 32; refine (plainL_calls s bn _ (by omega) (by omega)).mono ?_; rintro e w8 ⟨t2, rfl, ht2, q1⟩; have HBZ := Lib.hid (HBY.out.trans (q1.mono HBY.out.size)); clear q1)
                        | (go_at_call 20; refine (lawbase_calls (b : Int) _).mono ?_; rintro e w' ⟨rfl, rfl⟩; rw [← HBN.out])
                        | (go_at_call 31; refine (refp_no t b _ hb2 hb36 hts HAR.out).mono ?_; rintro e w5 ⟨v5, rfl, q1⟩; have HBY := Lib.hid (HBV.out.trans (q1.mono HBV.out.size)); clear q1)
                        | (go_at_call 12; refine (base_calls (b : Int) _).mono ?_; rintro e w' ⟨rfl, rfl⟩; rw [HIB.out])
                        | (go_at_call 30; refine (fastParseR_arg t (b : Int) l0 _ (by omega) (.inr (by omega))).mono ?_; rintro e w4 ⟨rfl, q1⟩; have HBV := Lib.hid (HBX.out.trans (q1.mono HBX.out.size)); clear q1)
                        | (go_at_call 29; refine (parseR_form t b _ hb2 hb36 (by omega) HAR.out).mono ?_; rintro e w3 ⟨rfl, q1⟩; have HBX := Lib.hid (HB.out.trans (q1.mono HB.out.size)); clear q1))
            go_roundw
            case rel => exact ⟨k + 1, (bn : Int), 2 + u1 % 63, t2, by omega, by go_num, rfl, rfl, rfl, by omega, by omega, ht2, HBZ.out⟩
            case measure => simp [intOf]; omega
          · have e1 : decide (l0 < 2) = false := decide_eq_false (by omega)
            have e2 : decide (64 < l0) = true := decide_eq_true hl.2
            go_wp2_with (first
                        | (go_at_call 32; refine (plainL_calls s bn _ (by omega) (by omega)).mono ?_; rintro e w8 ⟨t2, rfl, ht2, q1⟩; have HBZ := Lib.hid (HBY.out.trans (q1.mono HBY.out.size)); clear q1)
                        | (go_at_call 20; refine (lawbase_calls (b : Int) _).mono ?_; rintro e w' ⟨rfl, rfl⟩; rw [← HBN.out])
                        | (go_at_call 31; refine (refp_no t b _ hb2 hb36 hts HAR.out).mono ?_; rintro e w5 ⟨v5, rfl, q1⟩; have HBY := Lib.hid (HBV.out.trans (q1.mono HBV.out.size)); clear q1)
                        | (go_at_call 12; refine (base_calls (b : Int) _).mono ?_; rintro e w' ⟨rfl, rfl⟩; rw [HIB.out])
                        | (go_at_call 30; refine (fastParseR_arg t (b : Int) l0 _ (by omega) (.inr (by omega))).mono ?_; rintro e w4 ⟨rfl, q1⟩; have HBV := Lib.hid (HBX.out.trans (q1.mono HBX.out.size)); clear q1)
                        | (go_at_call 29; refine (parseR_form t b _ hb2 hb36 (by omega) HAR.out).mono ?_; rintro e w3 ⟨rfl, q1⟩; have HBX := Lib.hid (HB.out.trans (q1.mono HB.out.size)); clear q1))
            go_roundw
            case rel => exact ⟨k + 1, (bn : Int), 2 + u1 % 63, t2, by omega, by go_num, rfl, rfl, rfl, by omega, by omega, ht2, HBZ.out⟩
            case measure => simp [intOf]; omega
          · obtain ⟨l1, rfl⟩ : ∃ l1 : Nat, l0 = (l1 : Int) := ⟨l0.toNat, by omega⟩
            have e1 : decide ((l1 : Int) < 2) = false := decide_eq_false (by omega)
            have e2 : decide (64 < (l1 : Int)) = false := decide_eq_false (by omega)
            go_wp2_with (first
                        | (go_at_call 32; refine (plainL_calls s bn _ (by omega) (by omega)).mono ?_; rintro e w8 ⟨t2, rfl, ht2, q1⟩; have HBZ := Lib.hid (HBY.out.trans (q1.mono HBY.out.size)); clear q1)
                        | (go_at_call 20; refine (lawbase_calls (b : Int) _).mono ?_; rintro e w' ⟨rfl, rfl⟩; rw [← HBN.out])
                        | (go_at_call 31; refine (refp_no t b _ hb2 hb36 hts HAR.out).mono ?_; rintro e w5 ⟨v5, rfl, q1⟩; have HBY := Lib.hid (HBV.out.trans (q1.mono HBV.out.size)); clear q1)
                        | (go_at_call 12; refine (base_calls (b : Int) _).mono ?_; rintro e w' ⟨rfl, rfl⟩; rw [HIB.out])
                        | (go_at_call 30; refine (fastParseR_form t b l1 _ (by omega) hb2 hb36 (by omega) (by omega) HAR.out).mono ?_; rintro e w4 ⟨rfl, q1⟩; have HBV := Lib.hid (HBX.out.trans (q1.mono HBX.out.size)); clear q1)
                        | (go_at_call 29; refine (parseR_form t b _ hb2 hb36 (by omega) HAR.out).mono ?_; rintro e w3 ⟨rfl, q1⟩; have HBX := Lib.hid (HB.out.trans (q1.mono HB.out.size)); clear q1))
            go_roundw
            case rel => exact ⟨k + 1, (bn : Int), 2 + u1 % 63, t2, by omega, by go_num, rfl, rfl, rfl, by omega, by omega, ht2, HBZ.out⟩
            case measure => simp [intOf]; omega
        · have HAR := Lib.hid har
          have hnw : (wordsOf (pre b t t.size)).length ≤ 29 := num_words hb2 hb36 (of_decide_eq_true har).2 hts
          obtain ⟨N, hN⟩ : ∃ N, N = pre b t t.size := ⟨_, rfl⟩
          have HYtmbceiaeffnigaaGreatDoor := Lib.hid hN
          have HNW := Lib.hid hnw
          clear har hN hnw
          rcases (show (l0 < 2) ∨ (2 ≤ l0 ∧ 64 < l0) ∨ (2 ≤ l0 ∧ l0 ≤ 64) by omega) with hl | hl | hl
          · have e1 : decide (l0 < 2) = true := decide_eq_true hl
            go_wp2_with (first
                        | (go_at_call 32; refine (plainL_calls s bn _ (by omega) (by omega)).mono ?_; rintro e w8 ⟨t2, rfl, ht2, q1⟩; have HBZ := Lib.hid (HBY.out.trans (q1.mono HBY.out.size)); clear q1)
                        | (go_at_call 20; refine (lawbase_calls (b : Int) _).mono ?_; rintro e w' ⟨rfl, rfl⟩; rw [← HBN.out])
                        | (go_at_call 16; refine (is_calls _ _ _ _ _ S3v.out S5.out (wordsOf_u64 _) (by have := HNW.out; omega) (by have := HNW.out; omega)).mono ?_; rintro e w6 ⟨rfl, q1⟩; rw [wordsOf_val, decide_eq_true rfl]; have HBY := Lib.hid (HBU.out.trans (q1.mono HBU.out.size)); clear q1)
                        | (go_at_call 31; refine (refp_yes t b _ hb2 hb36 hts HAR.out).mono ?_; rintro e w5 ⟨v5, rfl, q0, q1⟩; have S5 := Lib.hid q0; have S3v := Lib.hid (S3u.out.below q1); have HBU := Lib.hid (HBV.out.trans (q1.mono HBV.out.size)); clear q1)
                        | (go_at_call 12; refine (base_calls (b : Int) _).mono ?_; rintro e w' ⟨rfl, rfl⟩; rw [HIB.out])
                        | (go_at_call 30; refine (fastParseR_arg t (b : Int) l0 _ (by omega) (.inr (by omega))).mono ?_; rintro e w4 ⟨rfl, q1⟩; have S3u := Lib.hid (S3.out.below q1); have HBV := Lib.hid (HBX.out.trans (q1.mono HBX.out.size)); clear q1)
                        | (go_at_call 29; refine (parseR_yes t b _ hb2 hb36 (by omega) (by have := HNW.out; omega) HAR.out).mono ?_; rintro e w3 ⟨v3, rfl, q0, q1⟩; have S3 := Lib.hid q0; have HBX := Lib.hid (HB.out.trans (q1.mono HB.out.size)); clear q1))
            go_roundw
            case rel => exact ⟨k + 1, (bn : Int), 2 + u1 % 63, t2, by omega, by go_num, rfl, rfl, rfl, by omega, by omega, ht2, HBZ.out⟩
            case measure => simp [intOf]; omega
          · have e1 : decide (l0 < 2) = false := decide_eq_false (by omega)
            have e2 : decide (64 < l0) = true := decide_eq_true hl.2
            go_wp2_with (first
                        | (go_at_call 32; refine (plainL_calls s bn _ (by omega) (by omega)).mono ?_; rintro e w8 ⟨t2, rfl, ht2, q1⟩; have HBZ := Lib.hid (HBY.out.trans (q1.mono HBY.out.size)); clear q1)
                        | (go_at_call 20; refine (lawbase_calls (b : Int) _).mono ?_; rintro e w' ⟨rfl, rfl⟩; rw [← HBN.out])
                        | (go_at_call 16; refine (is_calls _ _ _ _ _ S3v.out S5.out (wordsOf_u64 _) (by have := HNW.out; omega) (by have := HNW.out; omega)).mono ?_; rintro e w6 ⟨rfl, q1⟩; rw [wordsOf_val, decide_eq_true rfl]; have HBY := Lib.hid (HBU.out.trans (q1.mono HBU.out.size)); clear q1)
                        | (go_at_call 31; refine (refp_yes t b _ hb2 hb36 hts HAR.out).mono ?_; rintro e w5 ⟨v5, rfl, q0, q1⟩; have S5 := Lib.hid q0; have S3v := Lib.hid (S3u.out.below q1); have HBU := Lib.hid (HBV.out.trans (q1.mono HBV.out.size)); clear q1)
                        | (go_at_call 12; refine (base_calls (b : Int) _).mono ?_; rintro e w' ⟨rfl, rfl⟩; rw [HIB.out])
                        | (go_at_call 30; refine (fastParseR_arg t (b : Int) l0 _ (by omega) (.inr (by omega))).mono ?_; rintro e w4 ⟨rfl, q1⟩; have S3u := Lib.hid (S3.out.below q1); have HBV := Lib.hid (HBX.out.trans (q1.mono HBX.out.size)); clear q1)
                        | (go_at_call 29; refine (parseR_yes t b _ hb2 hb36 (by omega) (by have := HNW.out; omega) HAR.out).mono ?_; rintro e w3 ⟨v3, rfl, q0, q1⟩; have S3 := Lib.hid q0; have HBX := Lib.hid (HB.out.trans (q1.mono HB.out.size)); clear q1))
            go_roundw
            case rel => exact ⟨k + 1, (bn : Int), 2 + u1 % 63, t2, by omega, by go_num, rfl, rfl, rfl, by omega, by omega, ht2, HBZ.out⟩
            case measure => simp [intOf]; omega
          · obtain ⟨l1, rfl⟩ : ∃ l1 : Nat, l0 = (l1 : Int) := ⟨l0.toNat, by omega⟩
            have e1 : decide ((l1 : Int) < 2) = false := decide_eq_false (by omega)
            have e2 : decide (64 < (l1 : Int)) = false := decide_eq_false (by omega)
            go_wp2_with (first
                        | (go_at_call 32; refine (plainL_calls s bn _ (by omega) (by omega)).mono ?_; rintro e w8 ⟨t2, rfl, ht2, q1⟩; have HBZ := Lib.hid (HBY.out.trans (q1.mono HBY.out.size)); clear q1)
                        | (go_at_call 20; refine (lawbase_calls (b : Int) _).mono ?_; rintro e w' ⟨rfl, rfl⟩; rw [← HBN.out])
                        | (go_at_call 16; refine (is_calls _ _ _ _ _ S4w.out S5w.out (wordsOf_u64 _) (by have := HNW.out; omega) (by have := HNW.out; omega)).mono ?_; rintro e w7 ⟨rfl, q1⟩; rw [wordsOf_val, decide_eq_true rfl]; have HBY := Lib.hid (HBT.out.trans (q1.mono HBT.out.size)); clear q1)
                        | (go_at_call 16; refine (is_calls _ _ _ _ _ S3v.out S5.out (wordsOf_u64 _) (by have := HNW.out; omega) (by have := HNW.out; omega)).mono ?_; rintro e w6 ⟨rfl, q1⟩; rw [wordsOf_val, decide_eq_true rfl]; have S4w := Lib.hid (S4v.out.below q1); have S5w := Lib.hid (S5.out.below q1); have HBT := Lib.hid (HBU.out.trans (q1.mono HBU.out.size)); clear q1)
                        | (go_at_call 31; refine (refp_yes t b _ hb2 hb36 hts HAR.out).mono ?_; rintro e w5 ⟨v5, rfl, q0, q1⟩; have S5 := Lib.hid q0; have S3v := Lib.hid (S3u.out.below q1); have S4v := Lib.hid (S4.out.below q1); have HBU := Lib.hid (HBV.out.trans (q1.mono HBV.out.size)); clear q1)
                        | (go_at_call 12; refine (base_calls (b : Int) _).mono ?_; rintro e w' ⟨rfl, rfl⟩; rw [HIB.out])
                        | (go_at_call 30; refine (fastParseR_yes t b l1 _ (by omega) hb2 hb36 (by omega) (by omega) HAR.out).mono ?_; rintro e w4 ⟨v4, rfl, q0, q1⟩; have S4 := Lib.hid q0; have S3u := Lib.hid (S3.out.below q1); have HBV := Lib.hid (HBX.out.trans (q1.mono HBX.out.size)); clear q1)
                        | (go_at_call 29; refine (parseR_yes t b _ hb2 hb36 (by omega) (by have := HNW.out; omega) HAR.out).mono ?_; rintro e w3 ⟨v3, rfl, q0, q1⟩; have S3 := Lib.hid q0; have HBX := Lib.hid (HB.out.trans (q1.mono HB.out.size)); clear q1))
            go_roundw
            case rel => exact ⟨k + 1, (bn : Int), 2 + u1 % 63, t2, by omega, by go_num, rfl, rfl, rfl, by omega, by omega, ht2, HBZ.out⟩
            case measure => simp [intOf]; omega
    · go_wp2_with (go_at_call 21; refine (awake_calls _ (HN.out.below HB.out HN.out.pos)).mono ?_; rintro e w9 ⟨rfl, q1⟩; have HQ := Lib.hid q1; clear q1)
      go_ret
      exact ⟨rfl, HB.out.trans (HQ.out.mono HB.out.size)⟩
end Go.Proofs.YtmbceiaeffnigaaGreatDoor
