/- RadixSizes: the walk. -/
import Derived.Test.YtlmbklpidmkdcaaGreatDoorS3
import Derived.Test.YtlmbklpidmkdcaaGreatDoorS4
namespace Go.Proofs.YtlmbklpidmkdcaaGreatDoor
open Go.RowKit

theorem bytes_ones (M : Nat) : bytes (strOf (List.replicate M 49)) = List.replicate M 49 := by
  unfold bytes strOf strOfNums
  simp
/-- A text of ones alone. -/
def Ones (t : ByteArray) : Prop := ∀ j, j < t.size → (bytes t)[j]?.getD 0 = 49
theorem Ones.made (M : Nat) : Ones (strOf (List.replicate M 49)) := by
  intro j hj
  rw [strOf_size, List.length_replicate] at hj
  rw [bytes_ones, List.getElem?_replicate, if_pos hj]
  rfl
theorem Ones.cut {t : ByteArray} (h : Ones t) (n : Nat) (hn : n ≤ t.size) : Ones (t.extract 0 n) ∧ (t.extract 0 n).size = n := by
  have hs : (t.extract 0 n).size = n := by rw [ByteArray.size_extract, Nat.min_eq_left hn]; omega
  refine ⟨fun j hj => ?_, hs⟩
  rw [hs] at hj
  rw [bytes_extract, List.drop_zero, List.getElem?_take_of_lt hj]
  exact h j (by omega)
theorem Ones.are {t : ByteArray} (h : Ones t) (h0 : 0 < t.size) : areB t 36 = true := by
  refine decide_eq_true ⟨h0, fun j hj => ?_⟩
  rw [h j hj]
  decide
theorem Ones.words {t : ByteArray} (h : Ones t) (L : Nat) (hL : 64 * L ≤ 5 * (t.size - 1)) (h0 : 0 < t.size) : L < (wordsOf (pre 36 t t.size)).length := by
  refine words_ge L _ ?_
  obtain ⟨k, hk⟩ : ∃ k, t.size = k + 1 := ⟨t.size - 1, by omega⟩
  rw [hk]
  refine Nat.le_trans (pow36_ge L k (by omega)) (pre_ge (by omega) (fun j hj => ?_) k (by omega))
  rw [h j hj]
  decide

set_option maxHeartbeats 4000000 in
set_option maxRecDepth 100000 in
theorem sizes_calls (o0 : Int) (sv : Value) (w : World) (hN : NoneAt w) (r0 : -9223372036854775808 ≤ o0 ∧ o0 < 9223372036854775808) :
    Calls Tryz.prog 3 #[.int .i64 o0, sv] w (RetB w (.bool true)) := by
  have HN := Lib.hid hN
  clear hN
  obtain ⟨u, hu⟩ : ∃ u, IntKind.u64.wrap o0 = u := ⟨_, rfl⟩
  have hur : 0 ≤ u ∧ u < 18446744073709551616 := by have := IntKind.wrap_u64 o0; omega
  obtain ⟨n, hn⟩ : ∃ n : Nat, 4097 + u % 3 = (n : Int) := ⟨(4097 + u % 3).toNat, by omega⟩
  have hn1 : 4096 < n := by omega
  have hn2 : n ≤ 5000 := by omega
  obtain ⟨M, hM⟩ : ∃ M : Nat, M = 65537 := ⟨_, rfl⟩
  have hM1 : 65536 < M := by omega
  have hM2 : M ≤ 65537 := by omega
  have HM : Hid ((M : Int) = 65537) := by show (M : Int) = 65537; omega
  clear hM
  go_enter Tryz.func3, Tryz.ntmps3
  go_upto_region 2 with (at_make; refine wpList_mk (W0 := w) rfl _ _ 23 rfl w.heap.size 42 8 .u64 Tryz.underlying23 info64 _ _ n _ _ rfl rfl (by omega) (by omega) (by omega) (by omega) (Below.refl _ _) (Nat.le_refl _) ?_; intro g w1 h1 hg h2 h3 h4 h5; have B1 := Lib.hid h3; clear h1 hg h2 h3 h4 h5)
  go_upto_region 3 with (at_make; refine wpList_mk (W0 := w) rfl _ _ 25 rfl w.heap.size 5 1 .u8 Tryz.underlying25 infoB _ _ M _ _ rfl rfl (by have := HM.out; omega) (by have := HM.out; omega) (by omega) (by omega) B1.out B1.out.size ?_; intro g2 w2 h1 hg h2 h3 h4 h5; have O2 := Lib.hid h1; have B2 := Lib.hid h3; have HG := Lib.hid hg; clear h1 hg h2 h3 h4 h5)
  have hgw : w.heap.size ≤ g2 := HG.out
  go_wp2
  go_loopw [7] (fun iv wr => ∃ k : Nat, k ≤ M ∧ iv = .int .i64 (k : Int) ∧ Own w.heap.size 5 wr .u8 (.slice (some ⟨g2, 0, none⟩) M M) (List.replicate k 49 ++ List.replicate (M - k) 0) ∧ Below w.heap.size w wr) (fun iv wr => M - (intOf iv).toNat)
  case atStart => exact ⟨0, Nat.zero_le _, rfl, by rw [Nat.sub_zero]; exact O2.out, B2.out⟩
  case round =>
    obtain ⟨k, hk, rfl, ho, hB⟩ := hrel
    have HO := Lib.hid ho
    have HB := Lib.hid hB
    by_cases hlt : k < M
    · obtain ⟨ho1, ho2⟩ := ho.cellAt k (by simp; omega)
      clear ho hB
      go_wp2
      go_roundw
      case rel =>
        refine ⟨k + 1, by omega, by go_num, ?_, HB.out.setCell (p := ⟨g2, k, none⟩) hgw _⟩
        have h := Own.set HO.out k 49
        have e1 : (List.replicate k (49 : Int) ++ List.replicate (M - k) 0).set k 49 = List.replicate (k + 1) 49 ++ List.replicate (M - (k + 1)) 0 := by
          rw [show M - k = (M - (k + 1)) + 1 by omega, List.replicate_succ, List.set_append_right _ _ (by simp), List.length_replicate, Nat.sub_self, List.set_cons_zero, List.replicate_succ', List.append_assoc]
          rfl
        rw [e1] at h
        exact h
      case measure => simp [intOf]; omega
    · have hkM : k = M := by omega
      subst hkM
      rw [Nat.sub_self, List.replicate_zero, List.append_nil] at ho
      have hconv := conv_bytes (P := Tryz.prog) 25 9 5 Tryz.underlying25 Tryz.underlying5 Tryz.underlying9 ho.si
      have ht1 := Ones.made k
      have ht2 : (strOf (List.replicate k (49 : Int))).size = k := by rw [strOf_size, List.length_replicate]
      generalize strOf (List.replicate k (49 : Int)) = t at *
      have hts : 65536 < t.size := by rw [ht2]; exact hM1
      have HT := Lib.hid ht1
      have HTS : Hid (60000 ≤ t.size ∧ 65535 ≤ t.size) := by constructor <;> omega
      clear ho hB ht1 ht2 HO
      go_upto_region 19 with (first
        | (go_at_call 13; refine (tailR_large _ _ _ _ _ hn1).mono ?_; rintro e w12 ⟨rfl, q1⟩; have HB12 := Lib.hid (bnx3 HB11.out q1); clear q1)
        | (go_at_call 12; refine (sumR_large _ _ _ _ _ hn1).mono ?_; rintro e w11 ⟨rfl, q1⟩; have HB11 := Lib.hid (bnx3 HB10.out q1); clear q1)
        | (go_at_call 11; refine (groupR_large _ _ _ hts).mono ?_; rintro e w10 ⟨rfl, q1⟩; have HB10 := Lib.hid (bnx3 HB9.out q1); clear q1)
        | (go_at_call 10; refine (padR_large _ _ _ _ _ _ hn1).mono ?_; rintro e w9 ⟨rfl, q1⟩; have HB9 := Lib.hid (bnx3 HB8.out q1); clear q1)
        | (go_at_call 9; refine (countR_large _ _ _ _ _ hn1).mono ?_; rintro e w8 ⟨rfl, q1⟩; have HB8 := Lib.hid (bnx3 HB7.out q1); clear q1)
        | (go_at_call 8; refine (digitsD_large _ _ _ _ _ hn1).mono ?_; rintro e w7 ⟨rfl, q1⟩; have HB7 := Lib.hid (bnx3 HB6.out q1); clear q1)
        | (go_at_call 7; refine (fastParseR_large _ _ _ _ hts).mono ?_; rintro e w6 ⟨rfl, q1⟩; have HB6 := Lib.hid (bnx3 HB5.out q1); clear q1)
        | (go_at_call 6; refine (fastR_large _ _ _ _ _ _ hn1).mono ?_; rintro e w5 ⟨rfl, q1⟩; have HB5 := Lib.hid (bnx3 HB4.out q1); clear q1)
        | (go_at_call 5; refine (parseR_large _ _ _ hts).mono ?_; rintro e w4 ⟨rfl, q1⟩; have HB4 := Lib.hid (bnx3 HB3.out q1); clear q1)
        | (go_at_call 4; refine (formatR_large _ _ _ _ _ hn1).mono ?_; rintro e w3 ⟨rfl, q1⟩; have HB3 := Lib.hid (bnx3 HB.out q1); clear q1))
      clear hconv
      go_upto_region 21 with (fail)
      by_cases h16 : u % 16 = 0
      · obtain ⟨L, hL⟩ : ∃ L : Nat, L = 1024 := ⟨_, rfl⟩
        have HL := Lib.hid hL
        obtain ⟨N0, hN0⟩ : ∃ N0, N0 = 18446744073709551616 ^ L := ⟨_, rfl⟩
        have f1 : 65536 < (fmt 2 (val 18446744073709551616 (wordsOf N0))).length := by rw [wordsOf_val, hN0, word_pow2, fmt_pow2]; omega
        have f2 : (wordsOf N0).length ≤ L + 1 := wordsOf_len _ _ (by rw [hN0]; exact Nat.pow_lt_pow_right (by omega) (by omega))
        have f3 : L < (wordsOf N0).length := words_ge L N0 (by rw [hN0]; exact Nat.le_refl _)
        obtain ⟨Q, hQ⟩ : ∃ Q, Q = val 18446744073709551616 (wordsOf N0) / 2 := ⟨_, rfl⟩
        have hQ2 : Q = 2 ^ (64 * L - 1) := by rw [hQ, wordsOf_val, hN0]; exact half_pow2 L (by omega)
        have f4 : (fmt 2 (val 18446744073709551616 (wordsOf Q))).length = 65536 := by rw [wordsOf_val, hQ2, fmt_pow2]; omega
        have f5 : (wordsOf Q).length ≤ L := wordsOf_len _ _ (by rw [hQ2, word_pow2]; exact Nat.pow_lt_pow_right (by omega) (by omega))
        obtain ⟨p, hp⟩ : ∃ p, p = strOf (fmt 2 (val 18446744073709551616 (wordsOf Q))) := ⟨_, rfl⟩
        have hps : p.size = 65536 := by rw [hp, strOf_size, f4]
        have HF := Lib.hid (And.intro f1 (And.intro f2 (And.intro f3 (And.intro f4 f5))))
        have HN0 := Lib.hid hN0
        have HQ := Lib.hid hQ
        have HP := Lib.hid hp
        clear hL hN0 f1 f2 f3 hQ hQ2 f4 f5 hp
        obtain ⟨h60, h65⟩ := HTS.out
        obtain ⟨t1, ht1⟩ : ∃ t1, t.extract 0 60000 = t1 := ⟨_, rfl⟩
        obtain ⟨t2, ht2⟩ : ∃ t2, t.extract 0 65535 = t2 := ⟨_, rfl⟩
        have o1 := HT.out.cut 60000 h60
        have o2 := HT.out.cut 65535 h65
        rw [ht1] at o1
        rw [ht2] at o2
        have HO1 := Lib.hid o1
        have HO2 := Lib.hid o2
        clear o1 o2
        go_upto_region 25 with (first
          | (go_at_call 4; refine (formatR_over _ _ 2 _ S13.out (wordsOf_u64 _) (by have := HF.out.2.1; have := HL.out; omega) (by omega) (by omega) HF.out.1).mono ?_; rintro e w14 ⟨rfl, q1⟩; have S14 := Lib.hid (S13.out.below q1); have HB14 := Lib.hid (bnx3 HB13.out q1); clear q1)
          | (go_at_call 15; refine (left02_calls _ L _ (SI.one w12 .u64 1 42) HL.out).mono ?_; rintro e w13 ⟨v13, rfl, q0, q1⟩; rw [← HN0.out] at q0; have S13 := Lib.hid q0; have HB13 := Lib.hid (bnx3 (bnx3 HB12.out (below_new _ _)) q1); clear q0 q1))
        go_upto_region 26 with (first
          | (go_at_call 4; refine (formatR_fit _ _ 2 _ S15.out (wordsOf_u64 _) (by have := HF.out.2.2.2.2; have := HL.out; omega) (by omega) (by omega) (by rw [HF.out.2.2.2.1]; omega)).mono ?_; rintro e w16 ⟨rfl, q1⟩; rw [← HP.out]; have HB16 := Lib.hid (bnx3 HB15.out q1); clear q1)
          | (go_at_call 16; refine (right02_calls _ (wordsOf N0) _ S14.out (wordsOf_u64 _) (by have := HF.out.2.1; have := HL.out; omega) (by have := HF.out.2.2.1; omega)).mono ?_; rintro e w15 ⟨v15, rfl, q0, q1⟩; rw [← HQ.out] at q0; have S15 := Lib.hid q0; have HB15 := Lib.hid (bnx3 HB14.out q1); clear q0 q1))
        go_upto_region 27 with (go_at_call 5; refine (parseR_over t1 36 _ (by omega) (by omega) (by rw [HO1.out.2]; omega) (HO1.out.1.words 4096 (by rw [HO1.out.2]; omega) (by rw [HO1.out.2]; omega)) (HO1.out.1.are (by rw [HO1.out.2]; omega))).mono ?_; rintro e w17 ⟨rfl, q1⟩; have HB17 := Lib.hid (bnx3 HB16.out q1); clear q1)
        go_upto_region 28 with (go_at_call 11; refine (groupR_over t2 1 _ (by omega) (by omega) (by rw [HO2.out.2]; omega) (by have h1 := grp_one (bytes t2) (by rw [bytes_length, HO2.out.2]; omega); rw [bytes_length, HO2.out.2] at h1; omega)).mono ?_; rintro e w18 ⟨rfl, q1⟩; have HB18 := Lib.hid (bnx3 HB17.out q1); clear q1)
        go_wp2_with (go_at_call 14; refine (awake_calls _ (HN.out.below HB18.out HN.out.pos)).mono ?_; rintro e w19 ⟨rfl, q1⟩; have HQ2 := Lib.hid (bnx3 HB18.out q1); clear q1)
        go_ret
        exact ⟨rfl, HQ2.out⟩
      · go_wp2_with (go_at_call 14; refine (awake_calls _ (HN.out.below HB12.out HN.out.pos)).mono ?_; rintro e w13 ⟨rfl, q1⟩; have HQ := Lib.hid (bnx3 HB12.out q1); clear q1)
        go_ret
        exact ⟨rfl, HQ.out⟩
end Go.Proofs.YtlmbklpidmkdcaaGreatDoor
