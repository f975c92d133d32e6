/- The specification's Mod, Pow, IsZero: for any divisor that is not 0. -/
import Derived.Test.YtmbceiaeffnigaaGreatDoorJ2
namespace Go.Proofs.YtmbceiaeffnigaaGreatDoor
open Go.RowKit

theorem divide_calls (u v : Value) (xs ys : List Int) (w : World) (hr : SI w .u64 u xs) (hs : SI w .u64 v ys) (hu : U32 xs) (hv : U32 ys) (h0 : cut ys ≠ []) (hn : xs.length ≤ 100000) (hm : ys.length ≤ 100000) :
    Calls Tryz.prog 74 #[u, v] w (RetLong w 46 (xs.length + 2) (val 4294967296 xs) (val 4294967296 ys)) := by
  by_cases h1 : (cut ys).length = 1
  · obtain ⟨b, hb⟩ := List.length_eq_one_iff.1 h1
    have hcu : U32 (cut ys) := hv.take _
    have htop := cut_top h0
    have hcv := cut_val 4294967296 ys
    rw [hb] at hcu htop hcv
    have h2 := hcu.at 0
    have h3 : b ≠ 0 := by simpa using htop
    have h4 : 0 ≤ b ∧ b < 4294967296 := by simpa using h2
    have h5 : val 4294967296 ys = b.toNat := by rw [← hcv]; simp [val]
    rw [h5]
    refine (divide1_calls u v xs ys b w hr hs hu (by omega) h4.2 hb (by omega) (by omega)).mono ?_
    rintro e w' ⟨zs, r, q1, q2, q3, q4, q5, q6, q7⟩
    exact ⟨zs, [r], q1, q2, by omega, U32.one q4 (by omega), by simp, by rw [← q7]; simp [val]⟩
  · exact divide2_calls u v xs ys w hr hs hu hv h1 h0 hn hm

/-- What DivMod returns: the remainder as it must be. -/
def RetMod (w : World) (e X Y : Nat) (en : Ending) (w' : World) : Prop := ∃ Q, RetTwo w e .u64 (wordsOf Q) (wordsOf (X % Y)) en w'
set_option maxHeartbeats 1000000 in
theorem divmod_calls (u v : Value) (xs ys : List Int) (w : World) (hr : SI w .u64 u xs) (hs : SI w .u64 v ys) (hu : U64 xs) (hv : U64 ys) (h0 : val 18446744073709551616 ys ≠ 0) (hn : xs.length ≤ 40000) (hm : ys.length ≤ 40000) :
    Calls Tryz.prog 44 #[u, v] w (RetMod w 46 (val 18446744073709551616 xs) (val 18446744073709551616 ys)) := by
  have hc0 : cut (halves ys) ≠ [] := fun h => by
    have h1 := cut_val 4294967296 (halves ys)
    rw [h, halves_val ys hv] at h1
    exact h0 h1.symm
  have HR := Lib.hid hr
  have HS := Lib.hid hs
  have HU := Lib.hid hu
  have HW := Lib.hid hv
  have HC := Lib.hid hc0
  have HL := Lib.hid (And.intro (halves_length xs) (halves_length ys))
  have HH := Lib.hid (And.intro (halves_u32 xs hu) (halves_u32 ys hv))
  have HV := Lib.hid (And.intro (halves_val xs hu) (halves_val ys hv))
  clear hr hs hu hv hc0 h0
  go_enter Tryz.func44, Tryz.ntmps44
  go_wp2_with fail
  refine (digits01_calls _ xs _ HR.out HU.out (by omega)).mono ?_
  rintro e w1 ⟨v1, rfl, h1, h2⟩
  have H1 := Lib.hid h1
  have H2 := Lib.hid h2
  clear h1 h2
  go_wp2_with fail
  refine (digits01_calls _ ys _ (HS.out.below H2.out) HW.out (by omega)).mono ?_
  rintro e w2 ⟨v2, rfl, h1, h2⟩
  have H3 := Lib.hid h1
  have H4 := Lib.hid h2
  clear h1 h2
  go_wp2_with fail
  refine (divide_calls _ _ (halves xs) (halves ys) _ (H1.out.below H4.out).si H3.out.si HH.out.1 HH.out.2 HC.out (by rw [HL.out.1]; omega) (by rw [HL.out.2]; omega)).mono ?_
  rintro e w3 ⟨qs, rs, ⟨v3, v4, rfl, h1, h2, h3⟩, h4, h5, h6, h7, h8⟩
  have H5 := Lib.hid h1
  have H6 := Lib.hid h2
  have H7 := Lib.hid h3
  have H8 := Lib.hid h4
  have H9 := Lib.hid h6
  have h5' : qs.length ≤ 200000 := by have := HL.out.1; omega
  have h7' : rs.length ≤ 200000 := by have := HL.out.1; omega
  have H10 := Lib.hid h8
  clear h1 h2 h3 h4 h5 h6 h7 h8
  go_wp2_with fail
  refine (nat_calls _ qs _ H5.out.si H8.out (by omega)).mono ?_
  rintro e w4 ⟨v5, rfl, h1, h2⟩
  have H11 := Lib.hid h1
  have H12 := Lib.hid h2
  clear h1 h2
  go_wp2_with fail
  refine (nat_calls _ rs _ (H6.out.below H12.out).si H9.out (by omega)).mono ?_
  rintro e w5 ⟨v6, rfl, h1, h2⟩
  go_wp2_with fail
  go_ret2
  have hb2 : Below w.heap.size w w2 := H2.out.trans (H4.out.mono H2.out.size)
  have hb3 : Below w.heap.size w w3 := hb2.trans (H7.out.mono hb2.size)
  have hb4 : Below w.heap.size w w4 := hb3.trans (H12.out.mono hb3.size)
  have hb5 : Below w.heap.size w w5 := hb4.trans (h2.mono hb4.size)
  rw [H10.out, HV.out.1, HV.out.2] at h1
  exact ⟨_, _, _, rfl, (H11.out.below h2).base hb3.size, h1.base hb4.size, hb5⟩

theorem mod_calls (u v : Value) (xs ys : List Int) (w : World) (hr : SI w .u64 u xs) (hs : SI w .u64 v ys) (hu : U64 xs) (hv : U64 ys) (h0 : val 18446744073709551616 ys ≠ 0) (hn : xs.length ≤ 40000) (hm : ys.length ≤ 40000) :
    Calls Tryz.prog 24 #[u, v] w (RetSI w (wordsOf (val 18446744073709551616 xs % val 18446744073709551616 ys))) := by
  have HC := Lib.hid (divmod_calls u v xs ys w hr hs hu hv h0 hn hm)
  clear hr hs hu hv h0
  go_enter Tryz.func24, Tryz.ntmps24
  go_wp2_with (go_at_call 44; refine HC.out.mono ?_; rintro e w1 ⟨Q, v1, v2, rfl, h1, h2, h3⟩; have H2 := Lib.hid h2.si; have H3 := Lib.hid h3; clear h1 h2 h3)
  go_ret
  exact ⟨_, rfl, H2.out, H3.out⟩

/-! ### powers -/
theorem pow_bits {P O k X K : Nat} (h : P ^ k * O = X ^ K) : (P * P) ^ (k / 2) * (O * P ^ (k % 2)) = X ^ K := by
  rw [← h, ← Nat.pow_two, ← Nat.pow_mul, Nat.mul_left_comm, ← Nat.pow_add, Nat.mul_comm O]
  congr 2
  omega
theorem pow_in {P O k X K L : Nat} (h : P ^ k * O = X ^ K) (hP : 1 ≤ P) (hO : 1 ≤ O) (hL : X ^ K < L) : O < L ∧ (1 ≤ k → P < L) := by
  constructor
  · have : 1 * O ≤ P ^ k * O := Nat.mul_le_mul_right _ (Nat.pow_pos hP)
    omega
  · intro hk
    have h1 : P ^ 1 ≤ P ^ k := Nat.pow_le_pow_right hP hk
    have h2 : P ^ k * 1 ≤ P ^ k * O := Nat.mul_le_mul_left _ hO
    rw [Nat.pow_one] at h1
    omega

set_option maxHeartbeats 1000000 in
set_option maxRecDepth 100000 in
theorem pow02_calls (u : Value) (xs : List Int) (K L : Nat) (w : World) (hr : SI w .u64 u xs) (hu : U64 xs) (hn : xs.length ≤ 1000) (h1 : 1 ≤ val 18446744073709551616 xs) (hK : K ≤ 100000) (hL : L ≤ 40000)
    (hp : val 18446744073709551616 xs ^ K < 18446744073709551616 ^ L) :
    Calls Tryz.prog 26 #[u, .int .i64 (K : Int)] w (RetSI w (wordsOf (val 18446744073709551616 xs ^ K))) := by
  obtain ⟨X, hX⟩ : ∃ X, X = val 18446744073709551616 xs := ⟨_, rfl⟩
  rw [← hX] at h1 hp ⊢
  have HP := Lib.hid hp
  have HX := Lib.hid hX
  have HR := Lib.hid hr
  have HU := Lib.hid hu
  clear hp hX hr hu
  go_enter Tryz.func26, Tryz.ntmps26
  go_upto_region 3 with (first
    | (go_at_call 22; refine (fromword_calls 1 _ (by omega) (by omega)).mono ?_; rintro e w1 ⟨v1, rfl, q1, q2⟩; have O1 := Lib.hid q1.si; have B1 := Lib.hid q2; clear q1 q2)
    | (go_at_call 43; refine (trim02_calls _ xs _ (HR.out.below B1.out) HU.out (by omega)).mono ?_; rintro e w2 ⟨v2, rfl, q1, q2⟩; rw [← HX.out] at q1; have X2 := Lib.hid q1.si; have O2 := Lib.hid (O1.out.below q2); have B2 := Lib.hid (bnx B1.out q2); clear q1 q2))
  go_loopw [0, 1, 5] (fun xv kv ov wx => ∃ k P O : Nat, kv = .int .i64 (k : Int) ∧ k ≤ 100000 ∧ 1 ≤ P ∧ 1 ≤ O ∧ P ^ k * O = X ^ K ∧ (1 ≤ k → SI wx .u64 xv (wordsOf P)) ∧ SI wx .u64 ov (wordsOf O) ∧ Below w.heap.size w wx) (fun xv kv ov wx => (intOf kv).toNat)
  case atStart => exact ⟨K, X, 1, rfl, hK, h1, Nat.le_refl _, Nat.mul_one _, fun _ => X2.out, O2.out, B2.out⟩
  case round =>
    obtain ⟨k, P, O, rfl, hk, hP, hO, hpo, hx, ho, hB⟩ := hrel
    obtain ⟨l1, l2⟩ := pow_in hpo hP hO HP.out
    have HO := Lib.hid ho
    have HB := Lib.hid hB
    have HPO := Lib.hid hpo
    have o1 := wordsOf_len L O l1
    have HO1 := Lib.hid o1
    clear ho hB hpo l1 o1
    by_cases hk0 : 0 < k
    · have p1 := wordsOf_len L P (l2 (by omega))
      have HP1 := Lib.hid p1
      have HXx := Lib.hid (hx (by omega))
      clear hx l2 p1
      have e2 : (k : Int).tdiv 2 = ((k / 2 : Nat) : Int) := rfl
      have e3 : IntKind.i64.wrap ((k / 2 : Nat) : Int) = ((k / 2 : Nat) : Int) := IntWalk.i64_in _ (by omega)
      have hstep := pow_bits HPO.out
      by_cases hodd : k % 2 = 1
      · have e1 : (k : Int).tmod 2 = 1 := by rw [Int.tmod_eq_emod_of_nonneg (by omega)]; omega
        rw [hodd, Nat.pow_one] at hstep
        have HST := Lib.hid hstep
        clear hstep
        by_cases hk1 : 1 < k
        · go_wp2_with (fail)
          refine (mul02_calls _ _ (wordsOf O) (wordsOf P) _ HO.out HXx.out (wordsOf_u64 _) (wordsOf_u64 _) (by have := HO1.out; omega) (by have := HP1.out; omega)).mono ?_
          rintro e w3 ⟨v3, rfl, q1, q2⟩
          rw [wordsOf_val, wordsOf_val] at q1
          have O3 := Lib.hid q1.si
          have X3 := Lib.hid (HXx.out.below q2)
          have B3 := Lib.hid (bnx HB.out q2)
          clear q1 q2
          go_wp2_with (fail)
          refine (mul02_calls _ _ (wordsOf P) (wordsOf P) _ X3.out X3.out (wordsOf_u64 _) (wordsOf_u64 _) (by have := HP1.out; omega) (by have := HP1.out; omega)).mono ?_
          rintro e w4 ⟨v4, rfl, q1, q2⟩
          rw [wordsOf_val] at q1
          have X4 := Lib.hid q1.si
          have O4 := Lib.hid (O3.out.below q2)
          have B4 := Lib.hid (bnx B3.out q2)
          clear q1 q2
          go_wp2
          go_roundw
          case rel => exact ⟨k / 2, P * P, O * P, by go_num, by omega, Nat.mul_pos hP hP, Nat.mul_pos hO hP, HST.out, fun _ => X4.out, O4.out, B4.out⟩
          case measure => simp [intOf]; omega
        · obtain rfl : k = 1 := by omega
          go_wp2_with (fail)
          refine (mul02_calls _ _ (wordsOf O) (wordsOf P) _ HO.out HXx.out (wordsOf_u64 _) (wordsOf_u64 _) (by have := HO1.out; omega) (by have := HP1.out; omega)).mono ?_
          rintro e w3 ⟨v3, rfl, q1, q2⟩
          rw [wordsOf_val, wordsOf_val] at q1
          have O3 := Lib.hid q1.si
          have B3 := Lib.hid (bnx HB.out q2)
          clear q1 q2
          go_wp2
          go_roundw
          case rel => exact ⟨0, P * P, O * P, rfl, by omega, Nat.mul_pos hP hP, Nat.mul_pos hO hP, HST.out, fun h => absurd h (by omega), O3.out, B3.out⟩
          case measure => simp [intOf]
      · have e1 : (k : Int).tmod 2 = 0 := by rw [Int.tmod_eq_emod_of_nonneg (by omega)]; omega
        have hk1 : 1 < k := by omega
        rw [show k % 2 = 0 by omega, Nat.pow_zero, Nat.mul_one] at hstep
        have HST := Lib.hid hstep
        clear hstep
        go_wp2_with (fail)
        refine (mul02_calls _ _ (wordsOf P) (wordsOf P) _ HXx.out HXx.out (wordsOf_u64 _) (wordsOf_u64 _) (by have := HP1.out; omega) (by have := HP1.out; omega)).mono ?_
        rintro e w4 ⟨v4, rfl, q1, q2⟩
        rw [wordsOf_val] at q1
        have X4 := Lib.hid q1.si
        have O4 := Lib.hid (HO.out.below q2)
        have B4 := Lib.hid (bnx HB.out q2)
        clear q1 q2
        go_wp2
        go_roundw
        case rel => exact ⟨k / 2, P * P, O, by go_num, by omega, Nat.mul_pos hP hP, hO, HST.out, fun _ => X4.out, O4.out, B4.out⟩
        case measure => simp [intOf]; omega
    · obtain rfl : k = 0 := by omega
      have hfin : O = X ^ K := by have := HPO.out; rwa [Nat.pow_zero, Nat.one_mul] at this
      have HF := Lib.hid hfin
      clear hx l2 hfin
      go_wp2
      go_ret
      exact ⟨_, rfl, by rw [← HF.out]; exact HO.out, HB.out⟩
end Go.Proofs.YtmbceiaeffnigaaGreatDoor
