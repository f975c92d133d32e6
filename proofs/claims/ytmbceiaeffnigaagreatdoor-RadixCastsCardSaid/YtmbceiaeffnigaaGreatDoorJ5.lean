/- RadixCasts: what the sum of the digits leaves, what divides, how many digits. The plain laws, and the walk. -/
import Derived.Test.YtmbceiaeffnigaaGreatDoorJ4
import Derived.Test.YtmbceiaeffnigaaGreatDoorE8
namespace Go.Proofs.YtmbceiaeffnigaaGreatDoor
open Go.RowKit

/-! ### plain -/
theorem cmpN_self (a : Nat) : cmpN a a = 0 := by unfold cmpN; rw [if_neg (by omega), if_neg (by omega)]
theorem cmpN_gt {a b : Nat} (h : b < a) : cmpN a b = 1 := by unfold cmpN; rw [if_neg (by omega), if_pos h]
theorem cmpN_le {a b : Nat} (h : a ≤ b) : cmpN a b ≤ 0 := by unfold cmpN; rw [if_neg (show ¬ b < a by omega)]; split <;> omega
theorem val_sum (c : Nat) : ∀ L : List Int, val (c + 1) L % c = dsum L % c
  | [] => rfl
  | x :: xs => by
    show (x.toNat + (c + 1) * val (c + 1) xs) % c = (x.toNat + dsum xs) % c
    rw [Nat.add_mul, Nat.one_mul, Nat.add_left_comm, Nat.mul_add_mod, Nat.add_mod, val_sum c xs, ← Nat.add_mod]
/-- What a number leaves by the base less 1 is what the sum of its digits leaves. -/
theorem cast_sum {b N : Nat} (hb : 2 ≤ b) : N % (b - 1) = dsum (digs b N) % (b - 1) := by
  have h := val_sum (b - 1) (digs b N)
  rw [show b - 1 + 1 = b by omega, digs_val b hb] at h
  exact h
theorem zs_cons0 (xs : List Int) : zs (0 :: xs) = zs xs + 1 := by simp [zs, List.takeWhile_cons]
theorem zs_cons1 {x : Int} (xs : List Int) (h : x ≠ 0) : zs (x :: xs) = 0 := by simp [zs, List.takeWhile_cons, h]
theorem val_tail {b : Nat} (hb : 2 ≤ b) : ∀ L : List Int, (∀ x ∈ L, 0 ≤ x ∧ x < (b : Int)) → val b L % b ^ zs L = 0 ∧ (val b L ≠ 0 → val b L % (b ^ zs L * b) ≠ 0)
  | [], _ => by simp [zs, val]
  | x :: xs, h => by
    obtain ⟨i1, i2⟩ := val_tail hb xs (fun y hy => h y (List.mem_cons_of_mem _ hy))
    have hx := h x List.mem_cons_self
    by_cases h0 : x = 0
    · subst h0
      rw [zs_cons0, val_cons, Int.toNat_zero, Nat.zero_add, Nat.pow_succ, Nat.mul_comm (b ^ zs xs) b, Nat.mul_mod_mul_left, i1, Nat.mul_assoc, Nat.mul_mod_mul_left]
      refine ⟨rfl, fun hv h2 => ?_⟩
      have h3 : val b xs ≠ 0 := fun h4 => hv (by rw [h4]; rfl)
      rcases Nat.mul_eq_zero.1 h2 with h5 | h5
      · omega
      · exact i2 h3 h5
    · rw [zs_cons1 xs h0, Nat.pow_zero, Nat.mod_one, Nat.one_mul, val_cons, Nat.add_mul_mod_self_left, Nat.mod_eq_of_lt (by omega)]
      exact ⟨rfl, fun _ => by omega⟩
/-- The base to the power of Tail divides it, and no greater power does. -/
theorem cast_tail {b N : Nat} (hb : 2 ≤ b) (hN : N ≠ 0) : N % b ^ zs (digs b N) = 0 ∧ N % (b ^ zs (digs b N) * b) ≠ 0 := by
  have h := val_tail hb (digs b N) (fun x hx => by
    obtain ⟨j, hj, rfl⟩ := List.mem_iff_getElem.1 hx
    have := digs_dig b hb N j hj
    rw [List.getElem?_eq_getElem hj] at this
    exact this)
  rw [digs_val b hb] at h
  exact ⟨h.1, h.2 hN⟩
theorem zs_le (L : List Int) : zs L ≤ L.length := by
  unfold zs
  exact List.Sublist.length_le (List.takeWhile_sublist _)
theorem dsum_one {b n : Nat} (hb : 2 ≤ b) (hb2 : b ≤ 36) (h : (digs b n).length ≤ 2000) : (wordsOf (dsum (digs b n))).length ≤ 1 := by
  have h1 := dsum_le (digs_dig b hb n) _ (Nat.le_refl _)
  rw [List.take_length] at h1
  have h2 : b * (digs b n).length ≤ 36 * 2000 := Nat.mul_le_mul hb2 h
  exact wordsOf_len 1 _ (by rw [Nat.pow_one]; omega)
/-- The bounds of the powers. -/
theorem cast_pows {b N L : Nat} (hb : 2 ≤ b) (hb2 : b ≤ 36) (hN : N ≠ 0) (hL : N < 18446744073709551616 ^ L) :
    b ^ zs (digs b N) < 18446744073709551616 ^ (L + 1) ∧ b ^ zs (digs b N) * b < 18446744073709551616 ^ (L + 1) ∧ b ^ flen b N < 18446744073709551616 ^ (L + 1) ∧ b ^ (flen b N - 1) < 18446744073709551616 ^ (L + 1) := by
  have h1 : b ^ zs (digs b N) ≤ N := Nat.le_of_dvd (by omega) (Nat.dvd_of_mod_eq_zero (cast_tail hb hN).1)
  have h2 := flen_lo hb hN
  have h3 := flen_pos (n := N) hb
  have h4 : b ^ flen b N = b ^ (flen b N - 1) * b := by rw [← Nat.pow_succ]; congr 1; omega
  have h5 : N * b ≤ N * 36 := Nat.mul_le_mul_left _ hb2
  have h6 : b ^ zs (digs b N) * b ≤ N * b := Nat.mul_le_mul_right _ h1
  have h7 : b ^ (flen b N - 1) * b ≤ N * b := Nat.mul_le_mul_right _ h2
  rw [Nat.pow_succ, h4]
  generalize b ^ zs (digs b N) = p at *
  generalize b ^ (flen b N - 1) = q at *
  generalize p * b = pb at *
  generalize q * b = qb at *
  generalize N * b = nb at *
  generalize 18446744073709551616 ^ L = T at *
  refine ⟨?_, ?_, ?_, ?_⟩ <;> omega

set_option maxHeartbeats 4000000 in
set_option maxRecDepth 100000 in
theorem casts_calls (v : Value) (xs : List Int) (b0 : Int) (w : World) (hr : SI w .u64 v xs) (hu : U64 xs) (hn : xs.length ≤ 9223372036854775807) (hN : NoneAt w) :
    Calls Tryz.prog 4 #[v, .int .i64 b0] w (RetB w (.bool true)) := by
  have HR := Lib.hid hr
  have HU := Lib.hid (hu.take 20)
  have HN := Lib.hid hN
  have l1 : (xs.take 20).length ≤ 20 := by simp; omega
  clear hr hu hN
  go_enter Tryz.func4, Tryz.ntmps4
  go_upto_region 3 with (first
    | (go_at_call 6; refine (few10_calls v xs 20 _ HR.out hn (by omega)).mono ?_; rintro e w1 ⟨p, rfl, q1, q2⟩; have S1 := Lib.hid q1.si; have B1 := Lib.hid q2; clear q1 q2)
    | (go_at_call 20; refine (lawbase_calls b0 _).mono ?_; rintro e w' ⟨rfl, rfl⟩))
  have hbr := lawB_range b0
  obtain ⟨b, hb⟩ : ∃ b : Nat, lawB b0 = (b : Int) := ⟨(lawB b0).toNat, by omega⟩
  rw [hb] at hbr ⊢
  have hb2 : 2 ≤ b := by omega
  have hb36 : b ≤ 36 := by omega
  generalize hzs : xs.take 20 = ns at *
  clear hzs hbr hb HR
  obtain ⟨N, hN⟩ : ∃ N, N = val 18446744073709551616 ns := ⟨_, rfl⟩
  have hdl := digs_words hb2 ns HU.out
  have hNl := val_lt64 ns HU.out
  rw [← hN] at hdl hNl
  have hdl2 : (digs b N).length ≤ 1280 := by omega
  have hM1 := dsum_one hb2 hb36 (n := N) (by omega)
  obtain ⟨f, hf⟩ : ∃ f, f = flen b N := ⟨_, rfl⟩
  obtain ⟨M, hM⟩ : ∃ M, M = dsum (digs b N) := ⟨_, rfl⟩
  obtain ⟨Z, hZ⟩ : ∃ Z, Z = Go.Proofs.YtmbceiaeffnigaaGreatDoor.zs (digs b N) := ⟨_, rfl⟩
  have hZ1 : Z ≤ 1280 := by rw [hZ]; exact Nat.le_trans (zs_le _) hdl2
  have hf1 : 1 ≤ f := by rw [hf]; exact flen_pos hb2
  have hf2 : f ≤ 1280 := by
    rw [hf, flen_eq]
    split <;> omega
  have hcs := cast_sum (N := N) hb2
  rw [← hM] at hcs hM1
  have HNV := Lib.hid (And.intro hN hNl)
  have HF := Lib.hid (And.intro hf (And.intro hM hZ))
  obtain ⟨n5, hn5⟩ : ∃ n5, n5 = (digs b N).length := ⟨_, rfl⟩
  have HN5 := Lib.hid hn5
  have hn52 : n5 ≤ 1280 := by omega
  have HCS := Lib.hid hcs
  have HDL := Lib.hid hdl2
  have HM1 := Lib.hid hM1
  obtain ⟨l, hl⟩ : ∃ l, l = b - 1 := ⟨_, rfl⟩
  have hl1 : (b : Int) - 1 = (l : Int) := by omega
  have hl2 : 1 ≤ l := by omega
  have hl3 : l < 36 := by omega
  have hlw : IntKind.u64.wrap (l : Int) = (l : Int) := wrap_u64 _ (by omega) (by omega)
  have hbw : IntKind.u64.wrap (b : Int) = (b : Int) := wrap_u64 _ (by omega) (by omega)
  rw [← hl] at HCS
  clear hn5 hl hN hdl hNl hdl2 hM1 hf hM hZ hcs
  go_upto_region 9 with (first
    | (go_at_call 9; refine (sumR_yes p ns b _ S1.out HU.out (by omega) hb2 hb36).mono ?_; rintro e w2 ⟨v2, rfl, a1, a2⟩; rw [← HNV.out.1, ← HF.out.2.1] at a1; have M2 := Lib.hid a1; have S2 := Lib.hid (S1.out.below a2); have B2 := Lib.hid (bnx B1.out a2); clear a1 a2)
    | (go_at_call 10; refine (tailR_yes p ns b _ S2.out HU.out (by omega) hb2 hb36).mono ?_; rintro e w3 ⟨rfl, a2⟩; rw [← HNV.out.1, ← HF.out.2.2]; have M3 := Lib.hid (M2.out.below a2); have S3 := Lib.hid (S2.out.below a2); have B3 := Lib.hid (bnx B2.out a2); clear a2)
    | (go_at_call 8; refine (countR_yes p ns b _ S3.out HU.out (by omega) hb2 hb36).mono ?_; rintro e w4 ⟨rfl, a2⟩; rw [← HNV.out.1, ← HF.out.1]; have M4 := Lib.hid (M3.out.below a2); have S4 := Lib.hid (S3.out.below a2); have B4 := Lib.hid (bnx B3.out a2); clear a2)
    | (go_at_call 7; refine (digitsD_yes p ns b _ S4.out HU.out (by omega) hb2 hb36).mono ?_; rintro e w5 ⟨v5, rfl, a1, a2⟩; rw [← HNV.out.1] at a1; obtain ⟨A5, c5, rfl, _⟩ := a1.si.form; rw [← HN5.out]; have D5 := Lib.hid a1.si; rw [← HN5.out] at D5; have M5 := Lib.hid (M4.out.below a2); have S5 := Lib.hid (S4.out.below a2); have B5 := Lib.hid (bnx B4.out a2); clear a1 a2))
  have hlwl : (wordsOf l).length ≤ 1 := wordsOf_len 1 _ (by rw [Nat.pow_one]; omega)
  have hml : ∀ x, (wordsOf (x % l)).length ≤ 1 := fun x => wordsOf_len 1 _ (by rw [Nat.pow_one]; have := Nat.mod_lt x (show 0 < l by omega); omega)
  have HLW := Lib.hid (And.intro hlwl hml)
  clear hlwl hml
  go_upto_region 12 with (first
    | (go_at_call 22; refine (fromword_calls (l : Int) _ (by omega) (by omega)).mono ?_; rintro e w6 ⟨v6, rfl, a1, a2⟩; rw [Int.toNat_natCast] at a1; have L6 := Lib.hid a1.si; have D6 := Lib.hid (D5.out.below a2); have M6 := Lib.hid (M5.out.below a2); have S6 := Lib.hid (S5.out.below a2); have B6 := Lib.hid (bnx B5.out a2); clear a1 a2)
    | (go_at_call 24; refine (mod_calls v2 v6 (wordsOf M) (wordsOf l) _ M7.out L7.out (wordsOf_u64 _) (wordsOf_u64 _) (by rw [wordsOf_val]; omega) (by have := HM1.out; omega) (by have := HLW.out.1; omega)).mono ?_; rintro e w8 ⟨v8, rfl, a1, a2⟩; rw [wordsOf_val, wordsOf_val] at a1; have T8 := Lib.hid a1; have R8 := Lib.hid (R7.out.below a2); have D8 := Lib.hid (D7.out.below a2); have S8 := Lib.hid (S7.out.below a2); have B8 := Lib.hid (bnx B7.out a2); clear a1 a2)
    | (go_at_call 24; refine (mod_calls p v6 ns (wordsOf l) _ S6.out L6.out HU.out (wordsOf_u64 _) (by rw [wordsOf_val]; omega) (by omega) (by have := HLW.out.1; omega)).mono ?_; rintro e w7 ⟨v7, rfl, a1, a2⟩; rw [wordsOf_val, ← HNV.out.1] at a1; have R7 := Lib.hid a1; have L7 := Lib.hid (L6.out.below a2); have D7 := Lib.hid (D6.out.below a2); have M7 := Lib.hid (M6.out.below a2); have S7 := Lib.hid (S6.out.below a2); have B7 := Lib.hid (bnx B6.out a2); clear a1 a2)
    | (go_at_call 23; refine (cmp02_calls v7 v8 (wordsOf (N % l)) (wordsOf (M % l)) _ R8.out T8.out (wordsOf_u64 _) (wordsOf_u64 _) (by have := HLW.out.2 N; omega) (by have := HLW.out.2 M; omega)).mono ?_; rintro e w9 ⟨rfl, a2⟩; rw [wordsOf_val, wordsOf_val, HCS.out, cmpN_self]; have D9 := Lib.hid (D8.out.below a2); have S9 := Lib.hid (S8.out.below a2); have B9 := Lib.hid (bnx B8.out a2); clear a2))
  by_cases hN0 : N = 0
  · have hd : decide (val 18446744073709551616 ns = 0) = true := by rw [← HNV.out.1]; exact decide_eq_true hN0
    have HD := Lib.hid hd
    have h1 := HN5.out
    have h2 := HF.out.1
    have h3 := HF.out.2.2
    rw [hN0, digs_zero] at h1 h3
    rw [hN0, flen_eq, if_pos rfl] at h2
    obtain rfl : n5 = 0 := h1
    obtain rfl : f = 1 := h2
    obtain rfl : Z = 0 := h3
    clear hd
    go_wp2_with (first
      | (go_at_call 25; refine (iszero_calls p ns _ S9.out HU.out (by omega)).mono ?_; rintro e w' ⟨rfl, rfl⟩; rw [HD.out])
      | (go_at_call 21; refine (awake_calls _ (HN.out.below B9.out HN.out.pos)).mono ?_; rintro e w10 ⟨rfl, q1⟩; have HQ := Lib.hid (bnx B9.out q1); clear q1))
    go_ret
    exact ⟨rfl, HQ.out⟩
  · have hd : decide (val 18446744073709551616 ns = 0) = false := by rw [← HNV.out.1]; exact decide_eq_false hN0
    have HD := Lib.hid hd
    have hfn : f = n5 := by rw [HF.out.1, HN5.out, flen_eq, if_neg hN0]
    obtain ⟨f1, hf1'⟩ : ∃ f1, f1 = f - 1 := ⟨_, rfl⟩
    have hfm : (f : Int) - 1 = (f1 : Int) := by omega
    have hf1b : f1 ≤ 1280 := by omega
    have hpw := cast_pows hb2 hb36 hN0 HNV.out.2
    have htl := cast_tail hb2 hN0
    have hhi := flen_hi (n := N) hb2
    have hlo := flen_lo hb2 hN0
    rw [← HF.out.1, ← hf1'] at hlo
    rw [← HF.out.1] at hhi
    rw [← HF.out.1, ← HF.out.2.2, ← hf1'] at hpw
    rw [← HF.out.2.2] at htl
    obtain ⟨L, hL⟩ : ∃ L, L = ns.length + 1 := ⟨_, rfl⟩
    rw [← hL] at hpw
    have hL2 : L ≤ 21 := by omega
    have hbl : (wordsOf b).length ≤ 1 := wordsOf_len 1 _ (by rw [Nat.pow_one]; omega)
    have HP := Lib.hid hpw
    have HT := Lib.hid htl
    have HH := Lib.hid (And.intro hhi hlo)
    have HDG := Lib.hid (digs_dig b hb2 N)
    have HDV := Lib.hid (digs_val b hb2 N)
    have HBL := Lib.hid hbl
    obtain rfl : n5 = f := hfn.symm
    clear hd hf1' hpw htl hhi hlo hL hbl hfn
    go_upto_region 17 with (first
      | (go_at_call 25; refine (iszero_calls p ns _ S9.out HU.out (by omega)).mono ?_; rintro e w' ⟨rfl, rfl⟩; rw [HD.out])
      | (go_at_call 22; refine (fromword_calls (b : Int) _ (by omega) (by omega)).mono ?_; rintro e w10 ⟨vb, rfl, a1, a2⟩; rw [Int.toNat_natCast] at a1; have E10 := Lib.hid a1.si; have D10 := Lib.hid (D9.out.below a2); have S10 := Lib.hid (S9.out.below a2); have B10 := Lib.hid (bnx B9.out a2); clear a1 a2)
      | (go_at_call 26; refine (pow02_calls vb (wordsOf b) Z L _ E10.out (wordsOf_u64 _) (by have := HBL.out; omega) (by rw [wordsOf_val]; omega) (by omega) (by omega) (by rw [wordsOf_val]; exact HP.out.1)).mono ?_; rintro e w11 ⟨vp, rfl, a1, a2⟩; rw [wordsOf_val] at a1; have P11 := Lib.hid a1; have E11 := Lib.hid (E10.out.below a2); have D11 := Lib.hid (D10.out.below a2); have S11 := Lib.hid (S10.out.below a2); have B11 := Lib.hid (bnx B10.out a2); clear a1 a2)
      | (go_at_call 11; refine (fromDigitsR_yes _ (digs b N) b _ D11.out hb2 hb36 (by have := HDL.out; omega) HDG.out (by have h1 := val_words hb36 _ HDG.out; have := HDL.out; omega)).mono ?_; rintro e w12 ⟨v12, rfl, a1, a2⟩; rw [HDV.out] at a1; have K12 := Lib.hid a1; have P12 := Lib.hid (P11.out.below a2); have E12 := Lib.hid (E11.out.below a2); have S12 := Lib.hid (S11.out.below a2); have B12 := Lib.hid (bnx B11.out a2); clear a1 a2))
    obtain ⟨cc, hcc, hcc0⟩ : ∃ cc, cc = cmpN (b ^ f1) N ∧ cc ≤ 0 := ⟨_, rfl, cmpN_le HH.out.2⟩
    have HCC := Lib.hid hcc
    have hx1 : (wordsOf (b ^ Z)).length ≤ 21 := Nat.le_trans (wordsOf_len L _ HP.out.1) hL2
    have hx2 : (wordsOf (b ^ Z * b)).length ≤ 21 := Nat.le_trans (wordsOf_len L _ HP.out.2.1) hL2
    have hx3 : (wordsOf (b ^ n5)).length ≤ 21 := Nat.le_trans (wordsOf_len L _ HP.out.2.2.1) hL2
    have hx4 : (wordsOf (b ^ f1)).length ≤ 21 := Nat.le_trans (wordsOf_len L _ HP.out.2.2.2) hL2
    have hx5 : (wordsOf N).length ≤ 20 := Nat.le_trans (wordsOf_len ns.length _ HNV.out.2) l1
    have hx6 : ∀ m, (wordsOf (N % m)).length ≤ 20 := fun m => Nat.le_trans (wordsOf_len ns.length _ (Nat.lt_of_le_of_lt (Nat.mod_le _ _) HNV.out.2)) l1
    have hbp : ∀ m, b ^ m ≠ 0 := fun m => Nat.pos_iff_ne_zero.1 (Nat.pow_pos (by omega))
    have HX := Lib.hid (And.intro hx1 (And.intro hx2 (And.intro hx3 (And.intro hx4 (And.intro hx5 (And.intro hx6 hbp))))))
    clear hcc hx1 hx2 hx3 hx4 hx5 hx6 hbp
    go_wp2_with (first
      | (go_at_call 21; refine (awake_calls _ (HN.out.below B20.out HN.out.pos)).mono ?_; rintro e w21 ⟨rfl, q1⟩; have HQ := Lib.hid (bnx B20.out q1); clear q1)
      | (go_at_call 23; refine (cmp02_calls v19 p (wordsOf (b ^ f1)) ns _ T19.out (S12.out.below C19.out) (wordsOf_u64 _) HU.out (by have := HX.out.2.2.2.1; omega) (by omega)).mono ?_; rintro e w20 ⟨rfl, a2⟩; rw [wordsOf_val, ← HNV.out.1, ← HCC.out]; have B20 := Lib.hid (bnx (bnx B12.out C19.out) a2); clear a2)
      | (go_at_call 26; refine (pow02_calls vb (wordsOf b) f1 L _ (E12.out.below C18.out) (wordsOf_u64 _) (by have := HBL.out; omega) (by rw [wordsOf_val]; omega) (by omega) (by omega) (by rw [wordsOf_val]; exact HP.out.2.2.2)).mono ?_; rintro e w19 ⟨v19, rfl, a1, a2⟩; rw [wordsOf_val] at a1; have T19 := Lib.hid a1; have C19 := Lib.hid (bnx C18.out a2); clear a1 a2)
      | (go_at_call 23; refine (cmp02_calls v17 p (wordsOf (b ^ n5)) ns _ T17.out (S12.out.below C17.out) (wordsOf_u64 _) HU.out (by have := HX.out.2.2.1; omega) (by omega)).mono ?_; rintro e w18 ⟨rfl, a2⟩; rw [wordsOf_val, ← HNV.out.1, cmpN_gt HH.out.1]; have C18 := Lib.hid (bnx C17.out a2); clear a2)
      | (go_at_call 26; refine (pow02_calls vb (wordsOf b) n5 L _ (E12.out.below C16.out) (wordsOf_u64 _) (by have := HBL.out; omega) (by rw [wordsOf_val]; omega) (by omega) (by omega) (by rw [wordsOf_val]; exact HP.out.2.2.1)).mono ?_; rintro e w17 ⟨v17, rfl, a1, a2⟩; rw [wordsOf_val] at a1; have T17 := Lib.hid a1; have C17 := Lib.hid (bnx C16.out a2); clear a1 a2)
      | (go_at_call 25; refine (iszero_calls v16 (wordsOf (N % (b ^ Z * b))) _ T16.out (wordsOf_u64 _) (by have := HX.out.2.2.2.2.2.1 (b ^ Z * b); omega)).mono ?_; rintro e w' ⟨rfl, rfl⟩; rw [decide_eq_false (by rw [wordsOf_val]; exact HT.out.2)])
      | (go_at_call 24; refine (mod_calls p v15 ns (wordsOf (b ^ Z * b)) _ (S12.out.below C15.out) T15.out HU.out (wordsOf_u64 _) (by rw [wordsOf_val]; exact Nat.mul_ne_zero (HX.out.2.2.2.2.2.2 Z) (by omega)) (by omega) (by have := HX.out.2.1; omega)).mono ?_; rintro e w16 ⟨v16, rfl, a1, a2⟩; rw [wordsOf_val, ← HNV.out.1] at a1; have T16 := Lib.hid a1; have C16 := Lib.hid (bnx C15.out a2); clear a1 a2)
      | (go_at_call 27; refine (mul02_calls vp vb (wordsOf (b ^ Z)) (wordsOf b) _ (P12.out.below C14.out) (E12.out.below C14.out) (wordsOf_u64 _) (wordsOf_u64 _) (by have := HX.out.1; omega) (by have := HBL.out; omega)).mono ?_; rintro e w15 ⟨v15, rfl, a1, a2⟩; rw [wordsOf_val, wordsOf_val] at a1; have T15 := Lib.hid a1.si; have C15 := Lib.hid (bnx C14.out a2); clear a1 a2)
      | (go_at_call 25; refine (iszero_calls v14 (wordsOf (N % b ^ Z)) _ T14.out (wordsOf_u64 _) (by have := HX.out.2.2.2.2.2.1 (b ^ Z); omega)).mono ?_; rintro e w' ⟨rfl, rfl⟩; rw [decide_eq_true (by rw [wordsOf_val]; exact HT.out.1)])
      | (go_at_call 24; refine (mod_calls p vp ns (wordsOf (b ^ Z)) _ (S12.out.below C13.out) (P12.out.below C13.out) HU.out (wordsOf_u64 _) (by rw [wordsOf_val]; exact HX.out.2.2.2.2.2.2 Z) (by omega) (by have := HX.out.1; omega)).mono ?_; rintro e w14 ⟨v14, rfl, a1, a2⟩; rw [wordsOf_val, ← HNV.out.1] at a1; have T14 := Lib.hid a1; have C14 := Lib.hid (bnx C13.out a2); clear a1 a2)
      | (go_at_call 23; refine (cmp02_calls v12 p (wordsOf N) ns _ K12.out S12.out (wordsOf_u64 _) HU.out (by have := HX.out.2.2.2.2.1; omega) (by omega)).mono ?_; rintro e w13 ⟨rfl, a2⟩; rw [wordsOf_val, ← HNV.out.1, cmpN_self]; have C13 := Lib.hid a2; clear a2))
    go_ret
    exact ⟨rfl, HQ.out⟩
end Go.Proofs.YtmbceiaeffnigaaGreatDoor
