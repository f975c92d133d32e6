/- RadixOrders: the walk. -/
import Derived.Test.YtmbceiaeffnigaaDoorG2
import Derived.Test.YtmbceiaeffnigaaDoorE8
import Derived.Deep.DeepCutAuto
import Derived.Deep.CutBlock
import Derived.Deep.CutRange
namespace Go.Proofs.YtmbceiaeffnigaaDoor
open Go.RowKit

theorem cmpN_self (n : Nat) : cmpN n n = 0 := by simp [cmpN]
theorem orders_lit (e n : Nat) (W : World) (hN : NoneAt W) (hlen : (fmt 10 n).length ≤ 5000) (hw : (wordsOf n).length ≤ 4096) :
    Calls Tryd.prog 17 #[.string (strOf (grp e (fmt 10 n)))] W (RetLit W n 10) := by
  have hb : ∀ a ∈ grp e (fmt 10 n), 0 ≤ a ∧ a < 256 := by
    have hT : ∀ l : List Int, (∀ a ∈ l, 0 ≤ a ∧ a < 256) → ∀ a ∈ grpT e l, 0 ≤ a ∧ a < 256 := by
      intro l
      induction l with
      | nil => intro _ a ha; exact absurd ha (by simp [grpT])
      | cons c cs ih =>
        intro h a ha
        have hc := h c (List.mem_cons_self)
        unfold grpT at ha
        rw [List.mem_append] at ha
        rcases ha with ha | ha
        · split at ha <;> simp at ha <;> omega
        · exact ih (fun x hx => h x (List.mem_cons_of_mem _ hx)) a ha
    have hf := fmt_byte (b := 10) (n := n) (by omega) (by omega)
    cases h : fmt 10 n with
    | nil => intro a ha; exact absurd ha (by simp [grp])
    | cons c cs =>
      rw [h] at hf
      intro a ha
      unfold grp at ha
      rw [List.mem_cons] at ha
      rcases ha with rfl | ha
      · exact hf a (List.mem_cons_self)
      · exact hT cs (fun x hx => hf x (List.mem_cons_of_mem _ hx)) a ha
  have hl := grp_len e (fmt 10 n)
  have hd := dval_fmt (b := 10) (n := n) (by omega) (by omega)
  have := literalR_yes (strOf (grp e (fmt 10 n))) W (by rw [strOf_size]; omega) hN 10 (fmt 10 n) (by rw [bytes_strOf hb, grp_fmt]) (by omega) (by rw [hd]; exact hw)
  rw [hd] at this
  exact this
theorem small_words (d : Nat) (h : d < 16) : (wordsOf d).length ≤ 4096 := by
  have := wordsOf_len 1 d (by rw [Nat.pow_one]; omega)
  omega
theorem words_val_len {n k : Nat} (h : n < 18446744073709551616 ^ k) : (wordsOf n).length ≤ k := wordsOf_len k n h

set_option maxHeartbeats 4000000 in
set_option maxRecDepth 100000 in
theorem orders_calls (v1 v2 : Value) (xs ys : List Int) (b : Int) (w : World) (hr1 : SI w .u64 v1 xs) (hu1 : U64 xs) (hn1 : xs.length ≤ 9223372036854775807) (hr2 : SI w .u64 v2 ys) (hu2 : U64 ys) (hn2 : ys.length ≤ 9223372036854775807) (hN : NoneAt w) :
    Calls Tryd.prog 4 #[v1, v2, .int .i64 b] w (RetB w (.bool true)) := by
  have HR1 := Lib.hid hr1
  have HR2 := Lib.hid hr2
  have HU1 := Lib.hid (hu1.take 20)
  have HU2 := Lib.hid (hu2.take 20)
  have HN := Lib.hid hN
  have hb := lawB_range b
  obtain ⟨bn, hbn⟩ : ∃ bn : Nat, lawB b = (bn : Int) := ⟨(lawB b).toNat, by omega⟩
  rw [hbn] at hb
  have HBN := Lib.hid hbn
  have l1 : (xs.take 20).length ≤ 20 := by simp; omega
  have l2 : (ys.take 20).length ≤ 20 := by simp; omega
  clear hr1 hr2 hu1 hu2 hN hbn
  go_enter Tryd.func4, Tryd.ntmps4
  go_wp2_with fail
  refine (few10_calls v1 xs 20 _ HR1.out hn1 (by omega)).mono ?_
  rintro e w1 ⟨p, rfl, q1, q2⟩
  have S1 := Lib.hid q1.si
  have B1 := Lib.hid q2
  have HR2' := Lib.hid (HR2.out.below q2)
  clear q1 q2
  go_wp2_with fail
  refine (few10_calls v2 ys 20 _ HR2'.out hn2 (by omega)).mono ?_
  rintro e w2 ⟨q, rfl, q1, q2⟩
  have S1' := Lib.hid (S1.out.below q2)
  have S2 := Lib.hid q1.si
  have B2 := Lib.hid (B1.out.trans (q2.mono B1.out.size))
  clear q1 q2
  generalize hxs : xs.take 20 = zs at *
  generalize hys : ys.take 20 = us at *
  clear hxs hys
  obtain ⟨n, hn⟩ : ∃ n, n = val 18446744073709551616 zs := ⟨_, rfl⟩
  obtain ⟨m, hm⟩ : ∃ m, m = val 18446744073709551616 us := ⟨_, rfl⟩
  have hnl : n < 18446744073709551616 ^ 20 := by rw [hn]; exact Nat.lt_of_lt_of_le (val_lt64 zs HU1.out) (Nat.pow_le_pow_right (by omega) l1)
  have HNL := Lib.hid (words_val_len hnl)
  have HNM := Lib.hid (And.intro hn hm)
  have hfz : ∀ b, 2 ≤ b → (fmt b n).length ≤ 1281 := fun b hb => by
    have h1 := digs_words hb zs HU1.out
    rw [← hn] at h1
    unfold fmt
    split
    · simp
    · simp; omega
  have HFZ := Lib.hid hfz
  clear hn hm hnl hfz
  go_upto_region 4 with (first
    | (go_at_call 13; refine (lawbase_calls b _).mono ?_; rintro e w' ⟨rfl, rfl⟩; rw [HBN.out])
    | (go_at_call 15; refine (formatR_yes p zs bn _ S1'.out HU1.out (by omega) (by omega) (by omega)).mono ?_; rintro e w3 ⟨rfl, q1⟩; rw [← HNM.out.1]; have S1a := Lib.hid (S1'.out.below q1); have S2a := Lib.hid (S2.out.below q1); have B3 := Lib.hid (B2.out.trans (q1.mono B2.out.size)); clear q1))
  go_upto_region 7 with (go_at_call 15; refine (formatR_yes q us bn _ S2a.out HU2.out (by omega) (by omega) (by omega)).mono ?_; rintro e w4 ⟨rfl, q1⟩; rw [← HNM.out.2]; have S1b := Lib.hid (S1a.out.below q1); have S2b := Lib.hid (S2a.out.below q1); have B4 := Lib.hid (B3.out.trans (q1.mono B3.out.size)); clear q1)
  obtain ⟨S, hS⟩ : ∃ S, S = strOf (fmt bn n) := ⟨_, rfl⟩
  obtain ⟨T, hT⟩ : ∃ T, T = strOf (fmt bn m) := ⟨_, rfl⟩
  rw [← hS, ← hT]
  have hSs : S.size = flen bn n := by rw [hS, strOf_size]; rfl
  have hTs : T.size = flen bn m := by rw [hT, strOf_size]; rfl
  have hlt1 : S.size < T.size → n < m := fun h => flen_lt (b := bn) (by omega) (by omega)
  have hlt2 : T.size < S.size → m < n := fun h => flen_lt (b := bn) (by omega) (by omega)
  have heq : S.size = T.size → Op.bytesLess S.toList T.toList = decide (n < m) := fun h => by rw [hS, hT]; exact fmt_less (by omega) (by omega) (by omega)
  have hne : n ≠ m → (S.toList == T.toList) = false := fun h => by
    rw [bytes_beq]
    refine decide_eq_false (fun h2 => h ?_)
    rw [hS, hT] at h2
    exact fmt_inj (b := bn) (by omega) (by omega) (strOf_inj (fmt_byte (by omega) (by omega)) (fmt_byte (by omega) (by omega)) h2)
  have hsame : n = m → S = T := fun h => by rw [hS, hT, h]
  have HF := Lib.hid (And.intro hlt1 (And.intro hlt2 (And.intro heq (And.intro hne hsame))))
  have HSS := Lib.hid hS
  clear hlt1 hlt2 heq hne hsame hSs hTs hS hT
  go_upto_block 0 with (fail)
  go_cut [13] from 54 to 75 (fun s13 wx => s13 = .int .i64 (cmpN n m) ∧ wx = w4)
  case first =>
    rcases (show S.size < T.size ∨ T.size < S.size ∨ (S.size = T.size ∧ n < m) ∨ (S.size = T.size ∧ n = m) ∨ (S.size = T.size ∧ m < n) by omega) with h | h | ⟨h, h'⟩ | ⟨h, h'⟩ | ⟨h, h'⟩
    · have hc : cmpN n m = -1 := by unfold cmpN; rw [if_pos (HF.out.1 h)]
      have HC := Lib.hid hc
      clear hc
      go_wp2
      go_meet
      exact ⟨by rw [HC.out], rfl⟩
    · have h1 := HF.out.2.1 h
      have hc : cmpN n m = 1 := by unfold cmpN; rw [if_neg (by omega), if_pos h1]
      have hd := HF.out.2.2.2.1 (by omega)
      have HC := Lib.hid hc
      have h2 : ¬ S.size < T.size := by omega
      have h3 : ¬ S.size = T.size := by omega
      have h4 : ((S.size : Int) == (T.size : Int)) = false := beq_eq_false_iff_ne.2 (by omega)
      have h5 : decide ((S.size : Int) < (T.size : Int)) = false := decide_eq_false (by omega)
      clear hc h1
      go_wp2
      go_meet
      exact ⟨by rw [HC.out], rfl⟩
    · have hc : cmpN n m = -1 := by unfold cmpN; rw [if_pos h']
      have hl := HF.out.2.2.1 h
      rw [decide_eq_true h'] at hl
      have HC := Lib.hid hc
      clear hc
      go_wp2
      go_meet
      exact ⟨by rw [HC.out], rfl⟩
    · have hc : cmpN n m = 0 := by rw [h']; exact cmpN_self m
      have hl := HF.out.2.2.1 h
      rw [decide_eq_false (by omega)] at hl
      have hst := HF.out.2.2.2.2 h'
      have HC := Lib.hid hc
      clear hc h' h
      subst hst
      go_wp2
      go_meet
      exact ⟨by rw [HC.out], rfl⟩
    · have hc : cmpN n m = 1 := by unfold cmpN; rw [if_neg (by omega), if_pos h']
      have hl := HF.out.2.2.1 h
      rw [decide_eq_false (by omega)] at hl
      have hd := HF.out.2.2.2.1 (by omega)
      have HC := Lib.hid hc
      clear hc
      go_wp2
      go_meet
      exact ⟨by rw [HC.out], rfl⟩
  case rest =>
    obtain ⟨rfl, rfl⟩ := hcut
    go_upto_region 14 with (go_at_call 16; refine (cmp02_calls p q zs us _ S1b.out S2b.out HU1.out HU2.out (by omega) (by omega)).mono ?_; rintro e w5 ⟨rfl, q1⟩; rw [← HNM.out.1, ← HNM.out.2]; have S1c := Lib.hid (S1b.out.below q1); have B5 := Lib.hid (B4.out.trans (q1.mono B4.out.size)); clear q1)
    go_upto_region 15 with (go_at_call 15; refine (formatR_yes p zs 10 _ S1c.out HU1.out (by omega) (by omega) (by omega)).mono ?_; rintro e w6 ⟨rfl, q1⟩; rw [← HNM.out.1]; have S1d := Lib.hid (S1c.out.below q1); have B6 := Lib.hid (B5.out.trans (q1.mono B5.out.size)); clear q1)
    obtain ⟨e, he⟩ : ∃ e, e = 1 + bn % 7 := ⟨_, rfl⟩
    have hee : (1 : Int) + (bn : Int) % 7 = (e : Int) := by omega
    have he2 : 1 ≤ e ∧ e ≤ 100 := by omega
    obtain ⟨D, hD⟩ : ∃ D, D = strOf (fmt 10 n) := ⟨_, rfl⟩
    have hgrp : ∀ W, Calls Tryd.prog 9 #[.string D, .int .i64 (e : Int)] W (RetB W (.tuple #[.string (strOf (grp e (fmt 10 n))), .int .i64 0])) := fun W => by
      have h1 := HFZ.out 10 (by omega)
      have h2 := groupR_calls D e W he2.1 he2.2 (by rw [hD, strOf_size]; omega)
      rw [hD, bytes_strOf (fmt_byte (by omega) (by omega))] at h2
      rw [hD]
      exact h2
    have hlit : ∀ W, NoneAt W → Calls Tryd.prog 17 #[.string (strOf (grp e (fmt 10 n)))] W (RetLit W n 10) := fun W hW => orders_lit e n W hW (by have := HFZ.out 10 (by omega); omega) (by have := HNL.out; omega)
    obtain ⟨G, hG⟩ : ∃ G, G = strOf (grp e (fmt 10 n)) := ⟨_, rfl⟩
    rw [← hG] at hgrp hlit
    have HGRP := Lib.hid hgrp
    have HLIT := Lib.hid hlit
    have HEE := Lib.hid hee
    rw [← hD]
    clear he hD hG hgrp hlit hee
    go_upto_region 16 with (go_at_call 9; rw [HEE.out]; refine (HGRP.out _).mono ?_; rintro e' w7 ⟨rfl, q1⟩; have S1e := Lib.hid (S1d.out.below q1); have B7 := Lib.hid (B6.out.trans (q1.mono B6.out.size)); clear q1)
    go_upto_region 19 with (first
      | (go_at_call 17; refine (HLIT.out _ (HN.out.below B7.out HN.out.pos)).mono ?_; rintro e' w8 ⟨v8, rfl, q0, q1⟩; have S8 := Lib.hid q0; have S1f := Lib.hid (S1e.out.below q1); have B8 := Lib.hid (B7.out.trans (q1.mono B7.out.size)); clear q0 q1)
      | (go_at_call 16; refine (cmp02_calls v8 p (wordsOf n) zs _ S8.out S1f.out (wordsOf_u64 _) HU1.out (by have := HNL.out; omega) (by omega)).mono ?_; rintro e' w9 ⟨rfl, q1⟩; rw [wordsOf_val, ← HNM.out.1, cmpN_self]; have S1g := Lib.hid (S1f.out.below q1); have B9 := Lib.hid (B8.out.trans (q1.mono B8.out.size)); clear q1))
    go_upto_region 20 with (go_at_call 15; refine (formatR_yes p zs 16 _ S1g.out HU1.out (by omega) (by omega) (by omega)).mono ?_; rintro e' w10 ⟨rfl, q1⟩; rw [← HNM.out.1]; have S1h := Lib.hid (S1g.out.below q1); have B10 := Lib.hid (B9.out.trans (q1.mono B9.out.size)); clear q1)
    obtain ⟨L, hL⟩ : ∃ L, L = flen 16 n := ⟨_, rfl⟩
    have hLs : (strOf (fmt 16 n)).size = L := by rw [hL, strOf_size]; rfl
    have hLz : L ≤ 1281 := by have := HFZ.out 16 (by omega); rw [hL]; exact this
    obtain ⟨X, hX⟩ : ∃ X, X = strOf (fmt 16 n) := ⟨_, rfl⟩
    rw [← hX] at hLs ⊢
    obtain ⟨Y, hY⟩ : ∃ Y, Y = strOf (padL (4 * L) (fmt 2 n)) := ⟨_, rfl⟩
    have hpad : ∀ W, SI W .u64 p zs → Calls Tryd.prog 8 #[p, .int .i64 2, .int .i64 ((4 * L : Nat) : Int)] W (RetB W (.tuple #[.string Y, .int .i64 0])) := fun W hW => by
      have := padR_yes p zs 2 (4 * L) W hW HU1.out (by omega) (by omega) (by omega) (by omega)
      rw [← HNM.out.1, ← hY] at this
      exact this
    have hYs : Y.size = 4 * L := by rw [hY, strOf_size, padL_len, hL, Nat.max_eq_left (flen_hex n)]
    have hpars : ∀ k, k < L → ∃ d : Nat, d < 16 ∧ (∀ W, Calls Tryd.prog 18 #[.string (Y.extract (4 * k) (4 * k + 4)), .int .i64 2] W (RetNat W d)) ∧ (∀ W, Calls Tryd.prog 18 #[.string (X.extract k (k + 1)), .int .i64 16] W (RetNat W d)) := fun k hk => by
      obtain ⟨a1, a2, a3, a4, a5, a6⟩ := hex_four n k (by rw [← hL]; exact hk)
      obtain ⟨dd, hdd⟩ : ∃ dd, dd = n / 16 ^ (flen 16 n - 1 - k) % 16 := ⟨_, rfl⟩
      have hd16 : dd < 16 := by rw [hdd]; exact Nat.mod_lt _ (by omega)
      rw [← hdd] at a5 a6
      rw [← hL, ← hY] at a1 a3 a5
      rw [← hX] at a2 a4 a6
      refine ⟨dd, hd16, fun W => ?_, fun W => ?_⟩
      · have := parseR_yes (Y.extract (4 * k) (4 * k + 4)) 2 W (by omega) (by omega) (by rw [a3]; omega) (by rw [a3, a5]; exact small_words _ hd16) a1
        rw [a3, a5] at this
        exact this
      · have := parseR_yes (X.extract k (k + 1)) 16 W (by omega) (by omega) (by rw [a4]; omega) (by rw [a4, a6]; exact small_words _ hd16) a2
        rw [a4, a6] at this
        exact this
    have HPAD := Lib.hid hpad
    have HPARS := Lib.hid hpars
    have h4 : (4 : Int) * (L : Int) = ((4 * L : Nat) : Int) := by omega
    have H4 := Lib.hid h4
    clear hL hX hY hpad hpars h4
    go_upto_region 24 with (go_at_call 8; rw [H4.out]; refine (HPAD.out _ S1h.out).mono ?_; rintro e' w11 ⟨rfl, q1⟩; have B11 := Lib.hid (B10.out.trans (q1.mono B10.out.size)); clear q1)
    go_loopg [25] L (fun m i wr => ∃ k : Nat, m + k = L ∧ i = .int .i64 (k : Int) ∧ Below w.heap.size w wr)
    case atStart => exact ⟨0, rfl, rfl, B11.out⟩
    case round =>
      obtain ⟨k, hk, rfl, hB⟩ := hrel
      have HB := Lib.hid hB
      clear hB
      by_cases hlt : k < L
      · obtain ⟨d, hd16, hp2, hp16⟩ := HPARS.out k hlt
        have HP2 := Lib.hid hp2
        have HP16 := Lib.hid hp16
        have hdw := wordsOf_len 1 d (by rw [Nat.pow_one]; omega)
        have HDW := Lib.hid hdw
        have g1 : 4 * k + 4 ≤ Y.size := by omega
        have g2 : k + 1 ≤ X.size := by omega
        clear hp2 hp16 hdw
        go_wp2_with fail
        refine (HP2.out _).mono ?_
        rintro e1 w12 ⟨v12, rfl, q1, q2⟩
        have T1 := Lib.hid q1
        have C1 := Lib.hid (HB.out.trans (q2.mono HB.out.size))
        clear q1 q2
        go_wp2_with fail
        refine (HP16.out _).mono ?_
        rintro e2 w13 ⟨v13, rfl, q1, q2⟩
        have T1' := Lib.hid (T1.out.below q2)
        have T2 := Lib.hid q1
        have C2 := Lib.hid (C1.out.trans (q2.mono C1.out.size))
        clear q1 q2
        go_wp2_with (go_at_call 16; refine (cmp02_calls v12 v13 (wordsOf d) (wordsOf d) _ T1'.out T2.out (wordsOf_u64 _) (wordsOf_u64 _) (by have := HDW.out; omega) (by have := HDW.out; omega)).mono ?_; rintro e3 w14 ⟨rfl, q1⟩; rw [wordsOf_val, cmpN_self]; have C3 := Lib.hid (C2.out.trans (q1.mono C2.out.size)); clear q1)
        go_roundg (gk - 1)
        case rel => exact ⟨k + 1, by omega, by go_num, C3.out⟩
        case measure => omega
      · go_wp2_with (go_at_call 14; refine (awake_calls _ (HN.out.below HB.out HN.out.pos)).mono ?_; rintro e' w19 ⟨rfl, q1⟩; have HQ := Lib.hid q1; clear q1)
        go_ret
        exact ⟨rfl, HB.out.trans (HQ.out.mono HB.out.size)⟩
end Go.Proofs.YtmbceiaeffnigaaDoor
