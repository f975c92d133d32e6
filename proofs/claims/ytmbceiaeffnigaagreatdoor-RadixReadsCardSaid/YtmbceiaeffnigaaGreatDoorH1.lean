/- radix.Count, radix.Sum, nat.FromWord; the reference's Sum, Tail; the law's ints. -/
import Derived.Test.YtmbceiaeffnigaaGreatDoorC
import Derived.Test.YtmbceiaeffnigaaGreatDoorG1
namespace Go.Proofs.YtmbceiaeffnigaaGreatDoor
open Go.RowKit

/-- The sum of digits. -/
def dsum : List Int → Nat
  | [] => 0
  | x :: xs => x.toNat + dsum xs
theorem dsum_app (xs ys : List Int) : dsum (xs ++ ys) = dsum xs + dsum ys := by
  induction xs with
  | nil => simp [dsum]
  | cons x xs ih => simp only [List.cons_append, dsum, ih]; omega
theorem dsum_take {D : List Int} {k : Nat} (h : k < D.length) : dsum (D.take (k + 1)) = dsum (D.take k) + (D[k]?.getD 0).toNat := by
  rw [take_succ h, dsum_app]
  simp [dsum]
theorem dsum_le {b : Nat} {D : List Int} (h : Dig b D) : ∀ k, k ≤ D.length → dsum (D.take k) ≤ b * k
  | 0, _ => by simp [dsum]
  | k + 1, hk => by
    rw [dsum_take (by omega)]
    have h1 := dsum_le h k (by omega)
    have h2 := h k (by omega)
    rw [Nat.mul_add]
    omega

set_option maxHeartbeats 1000000 in
theorem countR_yes (v : Value) (xs : List Int) (b : Nat) (w : World) (hr : SI w .u64 v xs) (hu : U64 xs) (hn : xs.length ≤ 1000) (hb : 2 ≤ b) (hb2 : b ≤ 36) :
    Calls Tryz.prog 8 #[v, .int .i64 (b : Int)] w (RetB w (.tuple #[.int .i64 (flen b (val 18446744073709551616 xs) : Int), .int .i64 0])) := by
  have hdl := digs_words hb xs hu
  have HD := Lib.hid (digitsD_yes v xs b w hr hu hn hb hb2)
  obtain ⟨N, hN⟩ : ∃ N, N = val 18446744073709551616 xs := ⟨_, rfl⟩
  rw [← hN] at hdl HD ⊢
  obtain ⟨f, hf⟩ : ∃ f, f = flen b N := ⟨_, rfl⟩
  have hfl : max (1 : Int) ((digs b N).length : Int) = (f : Int) := by
    rw [hf, flen_eq]
    split
    · rename_i h; rw [h, digs_zero]; rfl
    · rename_i h; have := List.length_pos_iff.2 (digs_ne h hb); omega
  rw [← hf]
  obtain ⟨D, hD⟩ : ∃ D, D = digs b N := ⟨_, rfl⟩
  rw [← hD] at hdl HD hfl
  obtain ⟨A, c, rfl, hc, _⟩ := hr.form
  have HFL := Lib.hid hfl
  clear hr hu hD hN hf hfl
  go_enter Tryz.func8, Tryz.ntmps8
  go_upto_region 4 with (go_at_call 7; refine HD.out.mono ?_; rintro e w1 ⟨v', rfl, h1, h2⟩; obtain ⟨oA, oc, rfl, ohc⟩ := h1.slice; have H2 := Lib.hid h2; clear h1 h2 HD)
  have hfl := HFL.out
  go_wp2
  go_ret2
  exact ⟨rfl, H2.out⟩
theorem countR_no (v : Value) (xs : List Int) (b : Int) (w : World) (hr : SI w .u64 v xs) (hn : xs.length ≤ 1000) (hb : isB b = false) :
    Calls Tryz.prog 8 #[v, .int .i64 b] w (RetB w (.tuple #[.int .i64 0, .int .i64 1])) := by
  have HD := Lib.hid (digitsD_no v xs b w hr hn hb)
  clear hr hb
  go_enter Tryz.func8, Tryz.ntmps8
  go_wp2_with (go_at_call 7; refine HD.out.mono ?_; rintro e w' ⟨rfl, rfl⟩)
  go_ret2
  exact ⟨rfl, Below.refl _ _⟩
theorem natFromWord_calls (n : Nat) (w : World) (hn : n < 4294967296) : Calls Tryz.prog 37 #[.int .u64 (n : Int)] w fun e w' => ∃ v', e = .returned v' ∧ SI w' .u64 v' (wordsOf n) ∧ Below w.heap.size w w' := by
  by_cases h0 : n = 0
  · subst h0
    go_enter Tryz.func37, Tryz.ntmps37
    go_wp2
    go_ret
    exact ⟨_, rfl, by rw [wordsOf_zero]; exact SI.nil _ _, Below.refl _ _⟩
  · have h1 : ((n : Int) == 0) = false := beq_eq_false_iff_ne.2 (by omega)
    go_enter Tryz.func37, Tryz.ntmps37
    go_wp2
    go_ret
    exact ⟨_, rfl, by rw [wordsOf_small n h0 hn]; exact SI.one _ _ _ _, below_new _ _⟩

set_option maxHeartbeats 1000000 in
theorem sumR_yes (v : Value) (xs : List Int) (b : Nat) (w : World) (hr : SI w .u64 v xs) (hu : U64 xs) (hn : xs.length ≤ 1000) (hb : 2 ≤ b) (hb2 : b ≤ 36) :
    Calls Tryz.prog 9 #[v, .int .i64 (b : Int)] w fun e w' => ∃ v', e = .returned (.tuple #[v', .int .i64 0]) ∧ SI w' .u64 v' (wordsOf (dsum (digs b (val 18446744073709551616 xs)))) ∧ Below w.heap.size w w' := by
  have hdl := digs_words hb xs hu
  have HD := Lib.hid (digitsD_yes v xs b w hr hu hn hb hb2)
  have hdg := digs_dig b hb (val 18446744073709551616 xs)
  obtain ⟨D, hD⟩ : ∃ D, D = digs b (val 18446744073709551616 xs) := ⟨_, rfl⟩
  rw [← hD] at hdl HD hdg ⊢
  have hdl2 : D.length ≤ 64000 := by omega
  have HDG := Lib.hid hdg
  have hle := fun k (hk : k ≤ D.length) => dsum_le hdg k hk
  have HLE := Lib.hid hle
  obtain ⟨A, c, rfl, hc, _⟩ := hr.form
  clear hr hu hD hdl hdg hle
  go_enter Tryz.func9, Tryz.ntmps9
  go_upto_region 6 with (go_at_call 7; refine HD.out.mono ?_; rintro e w1 ⟨v', rfl, h1, h2⟩; obtain ⟨oA, oc, rfl, ohc⟩ := h1.slice; have H1 := Lib.hid h1; have H2 := Lib.hid h2; clear h1 h2 HD)
  have hsi := H1.out.si
  obtain ⟨A9, c9, hv9, _, hcell⟩ := hsi.form
  injection hv9 with e1 e2 e3
  subst e1
  have HCELL := Lib.hid hcell
  clear hsi hcell e3
  go_loop [8, 22] (fun t i => ∃ k : Nat, k ≤ D.length ∧ i = .int .i64 (k : Int) ∧ t = .int .u64 ((dsum (D.take k) : Nat) : Int)) (fun _ i => D.length - (intOf i).toNat)
  case atStart => exact ⟨0, Nat.zero_le _, rfl, by simp [dsum]⟩
  case round =>
    obtain ⟨k, hk, rfl, rfl⟩ := hrel
    have hb1 := HLE.out k hk
    have hb3 : dsum (D.take k) ≤ 36 * 64000 := Nat.le_trans hb1 (Nat.mul_le_mul hb2 (by omega))
    by_cases hlt : k < D.length
    · obtain ⟨ad, e, hcl⟩ := HCELL.out k hlt
      subst e
      have hd := HDG.out k hlt
      have hst := dsum_take hlt
      obtain ⟨x, hx⟩ : ∃ x : Nat, D[k]?.getD 0 = (x : Int) := ⟨(D[k]?.getD 0).toNat, by omega⟩
      rw [hx] at hcl hd hst
      rw [Int.toNat_natCast] at hst
      have HST := Lib.hid hst
      generalize dsum (D.take k) = S at *
      have hcv : IntKind.u64.wrap (x : Int) = (x : Int) := wrap_u64 _ (by omega) (by omega)
      have hsum : IntKind.u64.wrap ((S : Int) + (x : Int)) = ((S + x : Nat) : Int) := by
        rw [← Int.natCast_add]
        exact wrap_u64 _ (by omega) (by omega)
      clear hst hb1 hx hd
      go_wp2
      go_round
      case rel => exact ⟨k + 1, by omega, by go_num, by rw [HST.out]; go_num⟩
      case measure => simp [intOf]; omega
    · have hkk : k = D.length := by omega
      have hfin : dsum (D.take k) = dsum D := by rw [hkk, List.take_length]
      have HFIN := Lib.hid hfin
      have hlt2 : decide ((k : Int) < (D.length : Int)) = false := decide_eq_false (by omega)
      generalize dsum (D.take k) = S at *
      clear hkk hfin hb1
      go_wp2_with (go_at_call 37; refine (natFromWord_calls S _ (by omega)).mono ?_; rintro e w2 ⟨v2, rfl, q1, q2⟩; have G1 := Lib.hid q1; have G2 := Lib.hid q2; clear q1 q2)
      go_ret2
      exact ⟨_, rfl, by rw [← HFIN.out]; exact G1.out, H2.out.trans (G2.out.mono H2.out.size)⟩
theorem sumR_no (v : Value) (xs : List Int) (b : Int) (w : World) (hr : SI w .u64 v xs) (hn : xs.length ≤ 1000) (hb : isB b = false) :
    Calls Tryz.prog 9 #[v, .int .i64 b] w (RetB w (.tuple #[.slice none 0 0, .int .i64 1])) := by
  have HD := Lib.hid (digitsD_no v xs b w hr hn hb)
  clear hr hb
  go_enter Tryz.func9, Tryz.ntmps9
  go_wp2_with (go_at_call 7; refine HD.out.mono ?_; rintro e w' ⟨rfl, rfl⟩)
  go_ret2
  exact ⟨rfl, Below.refl _ _⟩

set_option maxHeartbeats 1000000 in
theorem sum10_calls (u : Value) (xs : List Int) (b : Nat) (w : World) (hr : SI w .u64 u xs) (hu : U64 xs) (hb : 2 ≤ b) (hb2 : b ≤ 36) (hn : xs.length ≤ 1000) :
    Calls Tryz.prog 17 #[u, .int .i64 (b : Int)] w fun e w' => ∃ v', e = .returned v' ∧ SI w' .u64 v' (wordsOf (dsum (digs b (val 18446744073709551616 xs)))) ∧ Below w.heap.size w w' := by
  have hdl := digs_words hb xs hu
  have HD := Lib.hid (digits10_calls u xs b w hr hu hb hb2 (by omega))
  have hdg := digs_dig b hb (val 18446744073709551616 xs)
  obtain ⟨D, hD⟩ : ∃ D, D = digs b (val 18446744073709551616 xs) := ⟨_, rfl⟩
  rw [← hD] at hdl HD hdg ⊢
  have hdl2 : D.length ≤ 64000 := by omega
  have HDG := Lib.hid hdg
  have hle := fun k (hk : k ≤ D.length) => dsum_le hdg k hk
  have HLE := Lib.hid hle
  clear hr hu hD hdl hdg hle
  go_enter Tryz.func17, Tryz.ntmps17
  go_upto_region 4 with (go_at_call 14; refine HD.out.mono ?_; rintro e w1 ⟨v', rfl, h1, h2⟩; obtain ⟨oA, oc, rfl, ohc⟩ := h1.slice; have H1 := Lib.hid h1; have H2 := Lib.hid h2; clear h1 h2 HD)
  have hsi := H1.out.si
  obtain ⟨A9, c9, hv9, _, hcell⟩ := hsi.form
  injection hv9 with e1 e2 e3
  subst e1
  have HCELL := Lib.hid hcell
  clear hsi hcell e3
  go_loop [6, 7] (fun t i => ∃ k : Nat, k ≤ D.length ∧ i = .int .i64 (k : Int) ∧ t = .int .u64 ((dsum (D.take k) : Nat) : Int)) (fun _ i => D.length - (intOf i).toNat)
  case atStart => exact ⟨0, Nat.zero_le _, rfl, by simp [dsum]⟩
  case round =>
    obtain ⟨k, hk, rfl, rfl⟩ := hrel
    have hb1 := HLE.out k hk
    have hb3 : dsum (D.take k) ≤ 36 * 64000 := Nat.le_trans hb1 (Nat.mul_le_mul hb2 (by omega))
    by_cases hlt : k < D.length
    · obtain ⟨ad, e, hcl⟩ := HCELL.out k hlt
      subst e
      have hd := HDG.out k hlt
      have hst := dsum_take hlt
      obtain ⟨x, hx⟩ : ∃ x : Nat, D[k]?.getD 0 = (x : Int) := ⟨(D[k]?.getD 0).toNat, by omega⟩
      rw [hx] at hcl hd hst
      rw [Int.toNat_natCast] at hst
      have HST := Lib.hid hst
      generalize dsum (D.take k) = S at *
      have hcv : IntKind.u64.wrap (x : Int) = (x : Int) := wrap_u64 _ (by omega) (by omega)
      have hsum : IntKind.u64.wrap ((S : Int) + (x : Int)) = ((S + x : Nat) : Int) := by
        rw [← Int.natCast_add]
        exact wrap_u64 _ (by omega) (by omega)
      clear hst hb1 hx hd
      go_wp2
      go_round
      case rel => exact ⟨k + 1, by omega, by go_num, by rw [HST.out]; go_num⟩
      case measure => simp [intOf]; omega
    · have hkk : k = D.length := by omega
      have hfin : dsum (D.take k) = dsum D := by rw [hkk, List.take_length]
      have HFIN := Lib.hid hfin
      have hlt2 : decide ((k : Int) < (D.length : Int)) = false := decide_eq_false (by omega)
      generalize dsum (D.take k) = S at *
      clear hkk hfin hb1
      go_wp2_with (go_at_call 22; refine (fromword_calls (S : Int) _ (by omega) (by omega)).mono ?_; rintro e w2 ⟨v2, rfl, q1, q2⟩; rw [Int.toNat_natCast] at q1; have G1 := Lib.hid q1.si; have G2 := Lib.hid q2; clear q1 q2)
      go_ret
      exact ⟨_, rfl, by rw [← HFIN.out]; exact G1.out, H2.out.trans (G2.out.mono H2.out.size)⟩

set_option maxHeartbeats 1000000 in
theorem tail10_calls (u : Value) (xs : List Int) (b : Nat) (w : World) (hr : SI w .u64 u xs) (hu : U64 xs) (hb : 2 ≤ b) (hb2 : b ≤ 36) (hn : xs.length ≤ 1000) :
    Calls Tryz.prog 18 #[u, .int .i64 (b : Int)] w (RetB w (.int .i64 (zs (digs b (val 18446744073709551616 xs)) : Int))) := by
  have hdl := digs_words hb xs hu
  have HD := Lib.hid (digits10_calls u xs b w hr hu hb hb2 (by omega))
  obtain ⟨D, hD⟩ : ∃ D, D = digs b (val 18446744073709551616 xs) := ⟨_, rfl⟩
  rw [← hD] at hdl HD ⊢
  have hdl2 : D.length ≤ 64000 := by omega
  clear hr hu hD hdl
  go_enter Tryz.func18, Tryz.ntmps18
  go_upto_region 3 with (go_at_call 14; refine HD.out.mono ?_; rintro e w1 ⟨v', rfl, h1, h2⟩; obtain ⟨oA, oc, rfl, ohc⟩ := h1.slice; have H1 := Lib.hid h1; have H2 := Lib.hid h2; clear h1 h2 HD)
  have hsi := H1.out.si
  obtain ⟨A9, c9, hv9, _, hcell⟩ := hsi.form
  injection hv9 with e1 e2 e3
  subst e1
  have HCELL := Lib.hid hcell
  clear hsi hcell e3
  go_loop [6] (fun i => ∃ k : Nat, k ≤ D.length ∧ i = .int .i64 (k : Int) ∧ (∀ j, j < k → D[j]?.getD 0 = 0)) (fun i => D.length - (intOf i).toNat)
  case atStart => exact ⟨0, Nat.zero_le _, rfl, fun j hj => absurd hj (by omega)⟩
  case round =>
    obtain ⟨k, hk, rfl, hz⟩ := hrel
    have HZ := Lib.hid hz
    clear hz
    have hfin : k = D.length ∨ D[k]?.getD 0 ≠ 0 → (zs D) = k := fun h => zs_at D k HZ.out hk h
    have HFIN := Lib.hid hfin
    clear hfin
    by_cases hlt : k < D.length
    · obtain ⟨ad, e, hcl⟩ := HCELL.out k hlt
      subst e
      generalize hx : D[k]?.getD 0 = x at hcl
      have HX := Lib.hid hx
      clear hx
      by_cases hx0 : x = 0
      · subst hx0
        go_wp2
        go_round
        case rel => exact ⟨k + 1, by omega, by go_num, fun j hj => by
                      rcases Nat.lt_succ_iff_lt_or_eq.1 hj with h | h
                      · exact HZ.out j h
                      · subst h; exact HX.out⟩
        case measure => simp [intOf]; omega
      · have hx1 : (x == 0) = false := beq_eq_false_iff_ne.2 hx0
        go_wp2
        go_ret
        exact ⟨ret_of (by rw [HFIN.out (.inr (by rw [HX.out]; exact hx0))]; rfl), H2.out⟩
    · have hkk : k = D.length := by omega
      have hlt2 : decide ((k : Int) < (D.length : Int)) = false := decide_eq_false (by omega)
      have HKK := Lib.hid hkk
      clear hkk
      go_wp2
      go_ret
      exact ⟨ret_of (by rw [HFIN.out (.inl HKK.out)]; rfl), H2.out⟩

set_option maxHeartbeats 1000000 in
theorem ints_calls (u v : Value) (D : List Int) (w : World) (hr : SI w .i64 u D) (hs : SI w .i64 v D) (hn : D.length ≤ 1099511627776) :
    Calls Tryz.prog 13 #[u, v] w (RetB w (.bool true)) := by
  obtain ⟨A, c, rfl, hc, hcell⟩ := hr.form
  obtain ⟨A2, c2, rfl, hc2, hcell2⟩ := hs.form
  have HC := Lib.hid hcell
  have HC2 := Lib.hid hcell2
  clear hr hs hcell hcell2
  go_enter Tryz.func13, Tryz.ntmps13
  go_wp2
  go_loopw [5] (fun i wr => ∃ k : Nat, k ≤ D.length ∧ i = .int .i64 (k : Int) ∧ Below w.heap.size w wr) (fun i _ => D.length - (intOf i).toNat)
  case atStart => exact ⟨0, Nat.zero_le _, rfl, Below.refl _ _⟩
  case round =>
    obtain ⟨k, hk, rfl, hB⟩ := hrel
    have HB := Lib.hid hB
    by_cases hlt : k < D.length
    · obtain ⟨ad, e, hcl⟩ := HC.out k hlt
      obtain ⟨ad2, e2, hcl2⟩ := HC2.out k hlt
      subst e; subst e2
      have g1 : wr.cell? (ad.add k) = some (.int .i64 (D[k]?.getD 0)) := (hB.cell (World.block_lt_of_cell? w _ hcl)).trans hcl
      have g2 : wr.cell? (ad2.add k) = some (.int .i64 (D[k]?.getD 0)) := (hB.cell (World.block_lt_of_cell? w _ hcl2)).trans hcl2
      generalize D[k]?.getD 0 = x at *
      have hki : (0 : Int) ≤ (k : Int) ∧ (k : Int) < (D.length : Int) := by omega
      clear hcl hcl2 hB
      go_wp2
      go_quiet (fail)
      go_wp2
      go_roundw
      case rel => exact ⟨k + 1, by omega, by go_num, HB.out.trans (below_drewN (Below.refl _ _) _)⟩
      case measure => simp [intOf]; omega
    · have hlt2 : decide ((k : Int) < (D.length : Int)) = false := decide_eq_false (by omega)
      clear hB
      go_wp2
      go_ret
      exact ⟨rfl, HB.out⟩
end Go.Proofs.YtmbceiaeffnigaaGreatDoor
