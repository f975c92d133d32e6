/- nat.Pow, of a small base. -/
import Derived.Test.YtmbceiaeffnigaaGreatDoorK8
import Derived.WalkMore
namespace Go.Proofs.YtmbceiaeffnigaaGreatDoor
open Go.RowKit

theorem pow_small {p k : Nat} (hp : p < 64) (L : Nat) (hk : 6 * k < 64 * L) : p ^ k < 18446744073709551616 ^ L := by
  have h1 : p ^ k ≤ (2 ^ 6) ^ k := Nat.pow_le_pow_left (by omega) k
  have h2 : (2 : Nat) ^ (6 * k) < 2 ^ (64 * L) := Nat.pow_lt_pow_right (by omega) hk
  rw [Nat.pow_mul, Nat.pow_mul] at h2
  have h3 : (2 : Nat) ^ 64 = 18446744073709551616 := by decide
  rw [h3] at h2
  omega
theorem pow_words {p k : Nat} (hp : p < 64) (hk : k ≤ 300) : (wordsOf (p ^ k)).length ≤ 29 := wordsOf_len _ _ (pow_small hp 29 (by omega))
/-- The number before the bits from i on. -/
theorem pow_step {p k i : Nat} : p ^ (k / 2 ^ i) = if (k / 2 ^ i) % 2 = 1 then p ^ (k / 2 ^ (i + 1)) * p ^ (k / 2 ^ (i + 1)) * p else p ^ (k / 2 ^ (i + 1)) * p ^ (k / 2 ^ (i + 1)) := by
  have h1 : k / 2 ^ (i + 1) = k / 2 ^ i / 2 := by rw [Nat.pow_succ, Nat.div_div_eq_div_mul]
  rw [h1]
  generalize k / 2 ^ i = m
  have h2 := Nat.div_add_mod m 2
  rw [← Nat.pow_add]
  split
  · rename_i h
    rw [← Nat.pow_succ]
    congr 1
    omega
  · rename_i h
    congr 1
    omega

theorem bits_one (n : Nat) (h : n < 4294967296) : bits .and .i64 (n : Int) 1 = ((n % 2 : Nat) : Int) := by
  have h1 : (BitVec.ofInt 64 (n : Int)).toNat = n := by
    rw [BitVec.ofInt_natCast, BitVec.toNat_ofNat]; exact Nat.mod_eq_of_lt (by omega)
  have h2 : (BitVec.ofInt 64 (1 : Int)).toNat = 1 := rfl
  show IntKind.i64.wrap ((BitVec.ofInt 64 (n : Int) &&& BitVec.ofInt 64 (1 : Int)).toNat : Int) = _
  rw [BitVec.toNat_and, h1, h2, Nat.and_one_is_mod]
  exact IntWalk.i64_in _ (by omega)
theorem bits_k (k m : Nat) (h : k < 4294967296) : bits .and .i64 ((k : Int) / 2 ^ m) 1 = ((k / 2 ^ m % 2 : Nat) : Int) := by
  have h1 : ((k : Int) / 2 ^ m) = ((k / 2 ^ m : Nat) : Int) := by push_cast; rfl
  rw [h1]
  exact bits_one _ (Nat.lt_of_le_of_lt (Nat.div_le_self _ _) h)
theorem len_prod (L k : Nat) (h1 : 2 ≤ L) (h2 : L ≤ 6) (hk : k ≤ 300) : ∃ P : Int, ((L : Int) - 1) * (k : Int) = P ∧ wrap64 P = P ∧ decide (262144 ≤ P) = false := by
  obtain ⟨m, rfl⟩ : ∃ m, L = m + 1 := ⟨L - 1, by omega⟩
  have h3 : m * k ≤ 5 * 300 := Nat.mul_le_mul (by omega) hk
  have h4 : (((m + 1 : Nat) : Int) - 1) * (k : Int) = ((m * k : Nat) : Int) := by
    rw [Int.natCast_mul]
    congr 1
    omega
  refine ⟨_, h4, (IntWalk.i64_left _).symm.trans (IntWalk.i64_in _ (by omega)), decide_eq_false (by omega)⟩

set_option maxHeartbeats 1000000 in
set_option maxRecDepth 100000 in
/-- How many bits one small word has. -/
theorem natLength1_calls (p : Nat) (A : Option Addr) (c : Nat) (w : World) (hr : SI w .u64 (.slice A 1 c) [(p : Int)]) (h0 : 2 ≤ p) (hp : p < 64) : Calls Tryz.prog 115 #[.slice A 1 c] w fun e w' => ∃ L : Nat, e = .returned (.int .i64 (L : Int)) ∧ 2 ≤ L ∧ L ≤ 6 ∧ w' = w := by
  obtain ⟨A', c', hv, hc, hcell⟩ := hr.form
  injection hv with e1 e2 e3
  subst e1 e3
  obtain ⟨ad, e, hcl⟩ := hcell 0 (by simp)
  subst e
  have hcl2 : w.cell? ad = some (.int .u64 (p : Int)) := by
    rw [add_zero] at hcl
    exact hcl
  obtain ⟨L, hL⟩ : ∃ L, L = Lib.bitLen p := ⟨_, rfl⟩
  have hL1 : L ≤ 6 := by rw [hL]; exact bitLen_le (by omega) (by omega)
  have hL2 : 2 ≤ L := by
    rw [hL]
    have h1 := (bitLen_spec 6 p (by omega) (by omega) (by omega)).2
    rcases Nat.lt_or_ge (Lib.bitLen p) 2 with h2 | h2
    · have h3 : 2 ^ Lib.bitLen p ≤ 2 ^ 1 := Nat.pow_le_pow_right (by omega) (by omega)
      omega
    · exact h2
  have HL := Lib.hid hL
  clear hr hcell hc hcl hL e2
  go_enter Tryz.func115, Tryz.ntmps115
  go_wp2_with (go_at_call 134; refine (Tryz.bits_LeadingZeros64 (p : Int) _ (by omega) (by omega)).mono ?_; rintro e w' ⟨rfl, rfl⟩; rw [Int.toNat_natCast, ← HL.out])
  go_ret
  exact ⟨L, ret_of (by show Value.int .i64 (64 - (64 - (L : Int))) = _; congr 1; omega), hL2, hL1, rfl⟩

set_option maxHeartbeats 1000000 in
set_option maxRecDepth 100000 in
theorem natPow_calls (p k : Nat) (v : Value) (w : World) (hr : SI w .u64 v [(p : Int)]) (h0 : 2 ≤ p) (hp : p < 64) (hk0 : 1 ≤ k) (hk : k ≤ 300) :
    Calls Tryz.prog 94 #[v, .int .i64 (k : Int)] w (RetSIT w (wordsOf (p ^ k))) := by
  obtain ⟨A, c, rfl, _, _⟩ := hr.form
  have hu : U64 [(p : Int)] := U64.one (by omega) (by omega)
  have hcut : cut [(p : Int)] = [(p : Int)] := by
    rw [cut_words _ hu, val_cons, val_nil, Int.toNat_natCast, Nat.mul_zero, Nat.add_zero, wordsOf_small p (by omega) (by omega)]
  obtain ⟨w1, hw1⟩ : ∃ w1, w1 = w.alloc (.cells #[.slice A 1 c] 23) := ⟨_, rfl⟩
  have hfew : Few w1 (some ⟨w.heap.size, 0, none⟩) 1 := by rw [hw1]; exact few_one _ _ _ _ _ (by omega)
  have hcall := largeN_calls (some ⟨w.heap.size, 0, none⟩) 1 1 w1 hfew (by omega)
  have S1 : SI w1 .u64 (.slice A 1 c) [(p : Int)] := by rw [hw1]; exact hr.alloc _
  have B1 : Below w.heap.size w w1 := by rw [hw1]; exact below_new _ _
  have ht : tlen [(p : Int)] 1 = 1 := by
    have := cut_length [(p : Int)]
    rw [hcut] at this
    exact this.symm
  have HT := Lib.hid (trim_calls A 1 c [(p : Int)] w1 S1 (by simp))
  rw [show tlen [(p : Int)] [(p : Int)].length = 1 from ht] at HT
  have HL := Lib.hid (natLength1_calls p A c w1 S1 h0 hp)
  have HS := Lib.hid S1
  have HB := Lib.hid B1
  have HW := Lib.hid hw1
  have HU := Lib.hid hu
  rw [hw1] at hcall
  have HC := Lib.hid hcall
  clear S1 hw1 hfew hcall hr hu B1 ht hcut
  have hk1 : decide ((1000000 : Int) < (k : Int)) = false := decide_eq_false (by omega)
  go_enter Tryz.func94, Tryz.ntmps94
  go_wp2
  go_step3
  go_upto_region 6 with (first
    | (go_at_call 97; refine HT.out.mono ?_; rintro e w' ⟨rfl, rfl⟩)
    | (go_at_call 98; refine HC.out.mono ?_; clear HC; rintro e w' ⟨rfl, rfl⟩; rw [← HW.out]))
  have hkp : decide ((0 : Int) < (k : Int)) = true := decide_eq_true (by omega)
  go_upto_region 9 with (first
    | (go_at_call 115; have e1 := d1.symm; clear e1; refine HL.out.mono ?_; rintro e w' ⟨L2, rfl, a1, a2, rfl⟩; obtain ⟨P, p1, p2, p3⟩ := len_prod L2 k a1 a2 hk)
    | (go_at_call 115; refine HL.out.mono ?_; rintro e w' ⟨L1, rfl, b1, b2, rfl⟩; have d1 : decide ((1 : Int) < (L1 : Int)) = true := decide_eq_true (by omega)))
  go_step3
  obtain ⟨w2, hw2⟩ : ∃ w2, w2 = w'.alloc (.cells #[.int .u64 1] 46) := ⟨_, rfl⟩
  have S2 : SI w2 .u64 (.slice (some ⟨w'.heap.size, 0, none⟩) 1 1) (wordsOf (p ^ 0)) := by
    rw [hw2, Nat.pow_zero, wordsOf_small 1 (by omega) (by omega)]
    exact SI.one w' .u64 1 46
  have B2 : Below w.heap.size w w2 := bnx2 HB.out (by rw [hw2]; exact below_new _ _)
  have SX : SI w2 .u64 (.slice A 1 c) [(p : Int)] := by rw [hw2]; exact HS.out.alloc _
  rw [← hw2]
  obtain ⟨go, hgo⟩ : ∃ go, go = w'.heap.size := ⟨_, rfl⟩
  rw [← hgo] at S2 ⊢
  have H2 := Lib.hid S2
  have HB2 := Lib.hid B2
  have HX2 := Lib.hid SX
  clear hw2 hgo S2 B2 SX HS HB HW p1 p2 p3 HT HL d1
  obtain ⟨L, hL⟩ : ∃ L, L = Lib.bitLen k := ⟨_, rfl⟩
  have hL1 : L ≤ 9 := by rw [hL]; exact bitLen_le (by omega) (by omega)
  have hkL : k < 2 ^ L := by rw [hL]; exact (bitLen_spec 9 k (by omega) (by omega) (by omega)).2
  have HK := Lib.hid hkL
  have HL := Lib.hid hL
  clear hL hkL
  go_wp2_with (go_at_call 60; refine (Tryz.bits_Len (k : Int) _ (by omega) (by omega)).mono ?_; rintro e w2 ⟨rfl, rfl⟩; rw [Int.toNat_natCast, ← HL.out])
  go_loopw [6, 7] (fun ov iv wx => ∃ I : Nat, I ≤ L ∧ iv = .int .i64 ((I : Int) - 1) ∧ SI wx .u64 ov (wordsOf (p ^ (k / 2 ^ I))) ∧ Below w2.heap.size w2 wx) (fun ov iv wx => (intOf iv + 1).toNat)
  case atStart => exact ⟨L, Nat.le_refl _, rfl, by rw [Nat.div_eq_of_lt HK.out]; exact H2.out, Below.refl _ _⟩
  case round =>
    obtain ⟨I, hI, rfl, ho, hB⟩ := hrel
    by_cases hI0 : I = 0
    · subst hI0
      rw [Nat.pow_zero, Nat.div_one] at ho
      have hol := pow_words hp hk
      obtain ⟨O, hO⟩ : ∃ O, O = p ^ k := ⟨_, rfl⟩
      rw [← hO] at ho hol
      obtain ⟨A3, c3, rfl, _, _⟩ := ho.form
      have HF := Lib.hid (fitN_calls A3 (wordsOf O).length c3 (wordsOf O) wr ho (by omega))
      have HS := Lib.hid (si_cut ho)
      have HO := Lib.hid hO
      have HB := Lib.hid hB
      clear ho hO hB
      rw [show ((0 : Nat) : Int) - 1 = -1 from rfl]
      go_wp2_with (go_at_call 117; refine HF.out.mono ?_; rintro e w' ⟨rfl, rfl⟩)
      try rw [Exit.noGoto_ret]
      go_ret2
      refine ⟨_, rfl, ?_, bnx2 HB2.out HB.out⟩
      have h := HS.out
      rw [cut_words _ (wordsOf_u64 _), wordsOf_val] at h
      rw [← HO.out]
      exact h
    · obtain ⟨m, rfl⟩ : ∃ m, I = m + 1 := ⟨I - 1, by omega⟩
      have hm1 : ((m + 1 : Nat) : Int) - 1 = (m : Int) := by omega
      rw [hm1]
      have hq1 : k / 2 ^ (m + 1) ≤ 300 := Nat.le_trans (Nat.div_le_self _ _) hk
      obtain ⟨O, hO⟩ : ∃ O, O = p ^ (k / 2 ^ (m + 1)) := ⟨_, rfl⟩
      rw [← hO] at ho
      have hol := pow_words hp hq1
      rw [← hO] at hol
      have HM := Lib.hid (natmul_calls _ _ (wordsOf O) (wordsOf O) wr ho ho (wordsOf_u64 _) (wordsOf_u64 _) (by omega) (by omega))
      rw [wordsOf_val] at HM
      have hstep := pow_step (p := p) (k := k) (i := m)
      rw [← hO] at hstep
      have hq2 : k / 2 ^ m ≤ 300 := Nat.le_trans (Nat.div_le_self _ _) hk
      have hol2 := pow_words hp hq2
      have hbk := bits_k k m (by omega)
      have hoo : (wordsOf (O * O)).length ≤ 58 := by
        have := val_words_len (wordsOf_u64 O) (wordsOf_u64 O)
        rw [wordsOf_val] at this
        omega
      obtain ⟨v0, hv0⟩ : ∃ v0, v0 = p ^ (k / 2 ^ m) := ⟨_, rfl⟩
      rw [← hv0] at hstep hol2
      have HV0 := Lib.hid hv0
      have HB := Lib.hid hB
      have hd1 : decide (4096 < ((wordsOf (O * O)).length : Int)) = false := decide_eq_false (by omega)
      have hd2 : decide (((wordsOf (O * O)).length : Int) ≤ 4096) = true := decide_eq_true (by omega)
      clear ho hB hO hq1 hm1 hI0 hv0
      rcases Nat.mod_two_eq_zero_or_one (k / 2 ^ m) with hbit | hbit
      · rw [hbit, if_neg (by omega)] at hstep
        rw [hbit] at hbk
        have hbk2 : bits .and .i64 ((k : Int) / 2 ^ m) 1 = 0 := hbk
        have HST := Lib.hid hstep
        clear hbk hstep hbit
        go_upto_region 13 with (go_at_call 116; refine HM.out.mono ?_; rintro e w3 ⟨v3, rfl, q1, q2⟩; obtain ⟨A3, c3, rfl, _, _⟩ := q1.form; have G3 := Lib.hid q1; have B3 := Lib.hid q2; clear q1 q2)
        go_wp2
        go_roundw
        case rel => exact ⟨m, by omega, by go_num, by rw [← HV0.out, HST.out]; exact G3.out, bnx2 HB.out B3.out⟩
        case measure => simp [intOf]
      · rw [hbit, if_pos rfl] at hstep
        rw [hbit] at hbk
        have hbk2 : bits .and .i64 ((k : Int) / 2 ^ m) 1 = 1 := hbk
        have HST := Lib.hid hstep
        clear hbk hstep hbit
        go_upto_region 13 with (go_at_call 116; refine HM.out.mono ?_; rintro e w3 ⟨v3, rfl, q1, q2⟩; obtain ⟨A3, c3, rfl, _, _⟩ := q1.form; have G3 := Lib.hid q1; have B3 := Lib.hid q2; clear q1 q2)
        have HM2 := Lib.hid (natmul_calls _ _ (wordsOf (O * O)) [(p : Int)] w3 G3.out (HX2.out.below (bnx2 HB.out B3.out)) (wordsOf_u64 _) HU.out (by omega) (by simp))
        rw [wordsOf_val, val_cons, val_nil, Int.toNat_natCast, Nat.mul_zero, Nat.add_zero, ← HST.out] at HM2
        have hd3 : decide (4096 < ((wordsOf v0).length : Int)) = false := decide_eq_false (by omega)
        go_upto_region 15 with (go_at_call 116; refine HM2.out.mono ?_; rintro e w4 ⟨v4, rfl, q1, q2⟩; obtain ⟨A4, c4, rfl, _, _⟩ := q1.form; have G4 := Lib.hid q1; have B4 := Lib.hid q2; clear q1 q2)
        go_wp2
        go_roundw
        case rel => exact ⟨m, by omega, by go_num, by rw [← HV0.out]; exact G4.out, bnx2 (bnx2 HB.out B3.out) B4.out⟩
        case measure => simp [intOf]
end Go.Proofs.YtmbceiaeffnigaaGreatDoor
