/- RadixDigits: the walk. -/
import Derived.Test.YtmbceiaeffnigaaGreatDoorH3
import Derived.Test.YtmbceiaeffnigaaGreatDoorE8
namespace Go.Proofs.YtmbceiaeffnigaaGreatDoor
open Go.RowKit

/-- Each is from 0 to below b: the first k. -/
def Rt (b : Nat) (ds : List Int) (k : Nat) : Prop := ∀ j, j < k → 0 ≤ ds[j]?.getD 0 ∧ ds[j]?.getD 0 < (b : Int)
instance (b : Nat) (ds : List Int) (k : Nat) : Decidable (Rt b ds k) := inferInstanceAs (Decidable (∀ j, j < k → _))
def rtB (b : Nat) (ds : List Int) (k : Nat) : Bool := decide (Rt b ds k)
theorem rtB_zero (b : Nat) (ds : List Int) : rtB b ds 0 = true := by unfold rtB; exact decide_eq_true (fun j hj => absurd hj (by omega))
theorem rtB_succ_yes {b : Nat} {ds : List Int} {k : Nat} (h : 0 ≤ ds[k]?.getD 0 ∧ ds[k]?.getD 0 < (b : Int)) : rtB b ds (k + 1) = rtB b ds k := by
  unfold rtB
  refine decide_eq_decide.2 ⟨fun h2 j hj => h2 j (by omega), fun h2 j hj => ?_⟩
  by_cases e : j = k
  · subst e; exact h
  · exact h2 j (by omega)
theorem rtB_succ_no {b : Nat} {ds : List Int} {k : Nat} (h : ¬ (0 ≤ ds[k]?.getD 0 ∧ ds[k]?.getD 0 < (b : Int))) : rtB b ds (k + 1) = false := by
  unfold rtB
  exact decide_eq_false (fun h2 => h (h2 k (by omega)))
theorem rtB_false {b : Nat} {ds : List Int} {k : Nat} (h : rtB b ds k = false) : rtB b ds (k + 1) = false := by
  unfold rtB at h ⊢
  exact decide_eq_false (fun h2 => (of_decide_eq_false h) (fun j hj => h2 j (by omega)))
theorem rtB_dig {b : Nat} {ds : List Int} : rtB b ds ds.length = true ↔ Dig b ds := by
  unfold rtB
  rw [decide_eq_true_eq]
  exact Iff.rfl

theorem SI.foot {w w1 : World} {k : IntKind} {v : Value} {xs : List Int} (h : SI w k v xs) (hs : ∀ g, v.ownBlock = some g → w1.heap[g]? = w.heap[g]?) : SI w1 k v xs := by
  obtain ⟨A, c, rfl, hc, hr⟩ := h
  refine ⟨A, c, rfl, hc, fun j hj => ?_⟩
  obtain ⟨ad, e, hcell⟩ := hr j hj
  subst e
  exact ⟨ad, rfl, (World.cell?_of_block (a := ad.add j) (by rw [add_block]; exact hs ad.block rfl)).trans hcell⟩
theorem bnext {a c d : World} (h : Below a.heap.size a c) (k : Below c.heap.size c d) : Below a.heap.size a d := h.trans (k.mono h.size)
theorem dsum_words {b n : Nat} (hb : 2 ≤ b) (hb2 : b ≤ 36) (h : (digs b n).length ≤ 64000) : (wordsOf (dsum (digs b n))).length ≤ 100000 := by
  have h1 := dsum_le (digs_dig b hb n) _ (Nat.le_refl _)
  rw [List.take_length] at h1
  have h2 : b * (digs b n).length ≤ 36 * 64000 := Nat.mul_le_mul hb2 h
  have := wordsOf_len 1 (dsum (digs b n)) (by rw [Nat.pow_one]; omega)
  omega
/-- A store into a row keeps what lies apart from it. -/
theorem SI.store {w : World} {k : IntKind} {x : Value} {xs : List Int} {g n c : Nat} (h : SI w k x xs) (ha : Apart (.slice (some ⟨g, 0, none⟩) n c) x xs) (j : Nat) (q : Value) : SI (w.setCell ⟨g, j, none⟩ q) k x xs := by
  rcases ha with rfl | ha
  · obtain ⟨A, c', rfl, hc, _⟩ := h
    exact ⟨A, c', rfl, hc, fun i hi => absurd hi (by simp)⟩
  · refine h.foot (fun g' e => Below.heap_setCell _ _ _ _ (fun e2 => ha ?_))
    rw [e, e2]
    rfl

set_option maxHeartbeats 4000000 in
set_option maxRecDepth 100000 in
theorem digits_calls (v1 v2 : Value) (xs ls : List Int) (b : Int) (w : World) (hr1 : SI w .u64 v1 xs) (hu1 : U64 xs) (hn1 : xs.length ≤ 9223372036854775807) (hr2 : SI w .i64 v2 ls) (hn2 : ls.length ≤ 9223372036854775807) (hN : NoneAt w)
    (rb : -9223372036854775808 ≤ b ∧ b < 9223372036854775808) :
    Calls Tryz.prog 3 #[v1, v2, .int .i64 b] w (RetB w (.bool true)) := by
  have HR1 := Lib.hid hr1
  have HR2 := Lib.hid hr2
  have HU := Lib.hid (hu1.take 20)
  have HN := Lib.hid hN
  have l1 : (xs.take 20).length ≤ 20 := by simp; omega
  obtain ⟨A, c, rfl, hc, _⟩ := hr2.form
  obtain ⟨n, hn⟩ : ∃ n, n = min ls.length 100 := ⟨_, rfl⟩
  have hnl : n ≤ ls.length := by omega
  have hn100 : n ≤ 100 := by omega
  have hmn : min (ls.length : Int) 100 = (n : Int) := by omega
  have hl : (ls.take n).length = n := by simp; omega
  have HT := Lib.hid (hr2.take n hnl)
  have HL := Lib.hid hl
  have HMN := Lib.hid hmn
  clear hr1 hr2 hu1 hN hn hl
  go_enter Tryz.func3, Tryz.ntmps3
  go_upto_region 5 with (first
    | (go_at_call 6; refine (few10_calls v1 xs 20 _ HR1.out hn1 (by omega)).mono ?_; rintro e w1 ⟨p, rfl, q1, q2⟩; have S1 := Lib.hid q1.si; have B1 := Lib.hid q2; have HT1 := Lib.hid (HT.out.below q2); clear q1 q2)
    | (at_builtin; refine wpList_app (W0 := w) rfl (.tmp 30) (.tmp 35) 24 rfl w.heap.size 3 8 .i64 Tryz.underlying24 infoI (.slice none 0 0) _ [] (ls.take n) rfl rfl (Own.nil _ _ _ _) HT1.out (by rw [HL.out]; simp; omega) (by omega) B1.out B1.out.size ?_; intro v8 w2 q1 q2 q3 q4; rw [List.nil_append] at q1; have O2 := Lib.hid q1; have B2 := Lib.hid q2; have S2 := Lib.hid ((q3 .u64 p _ S1.out (Apart.nil p _ S1.out)).1); have HAP := Lib.hid ((q3 .u64 p _ S1.out (Apart.nil p _ S1.out)).2); clear q1 q2 q3 q4))
  obtain ⟨A8, c8, rfl, hc8⟩ := O2.out.slice
  rw [HL.out] at O2 HAP ⊢
  generalize hzs : xs.take 20 = zs at *
  clear hzs hc8 hmn
  have hst : ∃ ds : List Int, ds.length = n ∧ Own w.heap.size 3 w2 .i64 (.slice A8 n c8) ds := ⟨_, HL.out, O2.out⟩
  have HST := Lib.hid hst
  clear hst
  obtain ⟨N, hN⟩ : ∃ N, N = val 18446744073709551616 zs := ⟨_, rfl⟩
  have HNV := Lib.hid hN
  clear hN
  go_loopg [2, 9] 2 (fun m bv i wr => ∃ (k : Nat) (b0 : Int) (ds : List Int), m + k = 2 ∧ i = .int .i64 (k : Int) ∧ bv = .int .i64 b0 ∧ (-9223372036854775808 ≤ b0 ∧ b0 < 9223372036854775808) ∧ ds.length = n ∧ SI wr .u64 p zs ∧ Own w.heap.size 3 wr .i64 (.slice A8 n c8) ds ∧ Below w.heap.size w wr)
  case atStart =>
    obtain ⟨ds, h1, h2⟩ := HST.out
    exact ⟨0, b, ds, rfl, rfl, rfl, rb, h1, S2.out, h2, B2.out⟩
  case round =>
    obtain ⟨k, b0, ds, hk, rfl, rfl, rb0, hdl, hsi, ho, hB⟩ := hrel
    have HS := Lib.hid hsi
    have HO := Lib.hid ho
    have HB := Lib.hid hB
    have HDL := Lib.hid hdl
    clear hsi ho hB hdl
    obtain ⟨bb, hbb⟩ : ∃ bb, bb = lawB b0 := ⟨_, rfl⟩
    have hbr := lawB_range b0
    rw [← hbb] at hbr
    have HBB := Lib.hid hbb
    clear hbb
    obtain ⟨go, hgo⟩ : ∃ go, go = gk := ⟨_, rfl⟩
    have HGO := Lib.hid (And.intro hgo hk)
    clear hgo hk
    by_cases hlt : k < 2
    · cases hib : isB b0 with
      | false =>
        have HIB := Lib.hid hib
        clear hib
        go_upto_region 25 with (first
          | (go_at_call 7; refine (digitsD_no p zs b0 _ HS.out (by omega) HIB.out).mono ?_; rintro e w' ⟨rfl, rfl⟩)
          | (go_at_call 8; refine (countR_no p zs b0 _ HS.out (by omega) HIB.out).mono ?_; rintro e w4 ⟨rfl, a2⟩; have Q4 := Lib.hid a2; clear a2)
          | (go_at_call 9; refine (sumR_no p zs b0 _ (HS.out.below Q4.out) (by omega) HIB.out).mono ?_; rintro e w5 ⟨rfl, a2⟩; have Q5 := Lib.hid (bnext Q4.out a2); clear a2)
          | (go_at_call 10; refine (tailR_no p zs b0 _ (HS.out.below Q5.out) (by omega) HIB.out).mono ?_; rintro e w' ⟨rfl, rfl⟩)
          | (go_at_call 11; refine (fromDigitsR_arg _ ds b0 _ (HO.out.below Q5.out).si HIB.out).mono ?_; rintro e w7 ⟨rfl, a2⟩; have Q7 := Lib.hid (bnext Q5.out a2); clear a2)
          | (go_at_call 12; refine (base_calls b0 _).mono ?_; rintro e w' ⟨rfl, rfl⟩; rw [HIB.out]))
        have HSx := Lib.hid (HS.out.below Q7.out)
        have HOx := Lib.hid (HO.out.below Q7.out)
        have HBx := Lib.hid (HB.out.trans (Q7.out.mono HB.out.size))
        go_upto_region 27 with (go_at_call 20; refine (lawbase_calls _ _).mono ?_; rintro e w' ⟨rfl, rfl⟩; rw [← HBB.out])
        go_loopg [23] n (fun m i wx => ∃ (j : Nat) (es : List Int), m + j = n ∧ i = .int .i64 (j : Int) ∧ es.length = n ∧ SI wx .u64 p zs ∧ Own w.heap.size 3 wx .i64 (.slice A8 n c8) es ∧ Below w.heap.size w wx)
        case atStart => exact ⟨0, ds, rfl, rfl, HDL.out, HSx.out, HOx.out, HBx.out⟩
        case round =>
          obtain ⟨j, es, hj, rfl, hel, hsi, ho, hB⟩ := hrel
          have HEL := Lib.hid hel
          have HSy := Lib.hid hsi
          have HOy := Lib.hid ho
          have HBy := Lib.hid hB
          clear hsi hB
          by_cases hjn : j < n
          · obtain ⟨g, cap, hv, hg, hgl, hcap⟩ := ho.form (by omega)
            injection hv with hv1 hv2 hv3
            subst hv1
            obtain ⟨x1, x2⟩ := ho.cellAt j (by omega)
            generalize es[j]?.getD 0 = x at x1
            obtain ⟨u, hu⟩ : ∃ u, IntKind.u64.wrap x = u := ⟨_, rfl⟩
            have ur : 0 ≤ u ∧ u < 18446744073709551616 := by have := IntKind.wrap_u64 x; omega
            have hbw : IntKind.u64.wrap bb = bb := wrap_u64 _ (by omega) (by omega)
            obtain ⟨r, hr⟩ : ∃ r, u % bb = r := ⟨_, rfl⟩
            have hrr : 0 ≤ r ∧ r < 36 := by
              have h1 := Int.emod_nonneg u (show bb ≠ 0 by omega)
              have h2 := Int.emod_lt_of_pos u (show 0 < bb by omega)
              omega
            have ht : u.tmod bb = r := by rw [Int.tmod_eq_emod_of_nonneg ur.1]; exact hr
            have hb0 : (bb == 0) = false := beq_eq_false_iff_ne.2 (by omega)
            clear ho hel hv2 hv3 hcap
            go_wp2
            go_roundg (gk - 1)
            case rel => exact ⟨j + 1, _, by omega, by go_num, by rw [List.length_set]; exact HEL.out, HSy.out.store HAP.out j _, HOy.out.set j r, HBy.out.setCell (p := ⟨g, j, none⟩) (show w.heap.size ≤ g from hg) _⟩
            case measure => omega
          · clear ho hel
            go_wp2
            go_roundg (go - 1)
            case rel => exact ⟨k + 1, bb, es, by have := HGO.out.1; have := HGO.out.2; omega, by go_num, rfl, by omega, HEL.out, HSy.out, HOy.out, HBy.out⟩
            case measure => have := HGO.out.1; have := HGO.out.2; omega
      | true =>
        have hb := isB_of hib
        obtain ⟨bn, rfl⟩ : ∃ bn : Nat, b0 = (bn : Int) := ⟨b0.toNat, by omega⟩
        have HIB := Lib.hid hib
        have hb2 : 2 ≤ bn := by omega
        have hb36 : bn ≤ 36 := by omega
        obtain ⟨f, hf⟩ : ∃ f, f = flen bn N := ⟨_, rfl⟩
        obtain ⟨fs, hfs⟩ : ∃ fs, fs = strOf (fmt bn N) := ⟨_, rfl⟩
        have hfz : fs.size = f := by rw [hfs, strOf_size, hf]; rfl
        obtain ⟨M, hM⟩ : ∃ M, M = dsum (digs bn N) := ⟨_, rfl⟩
        obtain ⟨Z, hZ⟩ : ∃ Z, Z = Go.Proofs.YtmbceiaeffnigaaGreatDoor.zs (digs bn N) := ⟨_, rfl⟩
        have HF := Lib.hid (And.intro hf (And.intro hfs (And.intro hM hZ)))
        clear hib hb hf hfs hM hZ
        by_cases hdg : Dig bn ds
        · have hvl := val_words hb36 ds hdg
          have hvl2 : (wordsOf (val bn ds)).length ≤ 4096 := by have := HDL.out; omega
          have HDG := Lib.hid hdg
          have HVL := Lib.hid hvl2
          have hrt : rtB bn ds n = true := by rw [← HDL.out]; exact rtB_dig.2 hdg
          have HRT := Lib.hid hrt
          obtain ⟨X, hX⟩ : ∃ X, X = val bn ds := ⟨_, rfl⟩
          have HX := Lib.hid hX
          clear hvl hvl2 hdg hrt hX
          go_upto_region 16 with (first
            | (go_at_call 12; refine (base_calls _ _).mono ?_; rintro e w' ⟨rfl, rfl⟩; rw [HIB.out])
            | (go_at_call 7; refine (digitsD_yes p zs bn _ HS.out HU.out (by omega) hb2 hb36).mono ?_; rintro e w3 ⟨v3, rfl, a1, a2⟩; rw [← HNV.out] at a1; have D3 := Lib.hid a1; have Q3 := Lib.hid a2; clear a1 a2)
            | (go_at_call 8; refine (countR_yes p zs bn _ (HS.out.below Q3.out) HU.out (by omega) hb2 hb36).mono ?_; rintro e w4 ⟨rfl, a2⟩; rw [← HNV.out, ← HF.out.1]; have D4 := Lib.hid (D3.out.below a2); have Q4 := Lib.hid (bnext Q3.out a2); clear a2)
            | (go_at_call 9; refine (sumR_yes p zs bn _ (HS.out.below Q4.out) HU.out (by omega) hb2 hb36).mono ?_; rintro e w5 ⟨v5, rfl, a1, a2⟩; rw [← HNV.out, ← HF.out.2.2.1] at a1; have S5 := Lib.hid a1; have D5 := Lib.hid (D4.out.below a2); have Q5 := Lib.hid (bnext Q4.out a2); clear a1 a2)
            | (go_at_call 10; refine (tailR_yes p zs bn _ (HS.out.below Q5.out) HU.out (by omega) hb2 hb36).mono ?_; rintro e w6 ⟨rfl, a2⟩; rw [← HNV.out, ← HF.out.2.2.2]; have S6 := Lib.hid (S5.out.below a2); have D6 := Lib.hid (D5.out.below a2); have Q6 := Lib.hid (bnext Q5.out a2); clear a2)
            | (go_at_call 11; refine (fromDigitsR_yes _ ds bn _ (HO.out.below Q6.out).si hb2 hb36 (by have := HDL.out; omega) HDG.out HVL.out).mono ?_; rintro e w7 ⟨v7, rfl, a1, a2⟩; rw [← HX.out] at a1; have F7 := Lib.hid a1; have Q7 := Lib.hid (bnext Q6.out a2); have D7 := Lib.hid (D6.out.below a2); have S7 := Lib.hid (S6.out.below a2); clear a1 a2))
          go_upto_region 18 with (first
            | (go_at_call 14; refine (digits10_calls p zs bn _ (HS.out.below Q7.out) HU.out hb2 hb36 (by omega)).mono ?_; rintro e w8 ⟨v8, rfl, a1, a2⟩; rw [← HNV.out] at a1; have E8 := Lib.hid a1.si; have D8 := Lib.hid (D7.out.below a2); have S8 := Lib.hid (S7.out.below a2); have F8 := Lib.hid (F7.out.below a2); have Q8 := Lib.hid (bnext Q7.out a2); clear a1 a2)
            | (go_at_call 13; refine (ints_calls v3 v8 (digs bn N) _ D8.out.si E8.out (by rw [HNV.out]; have := digs_words hb2 zs HU.out; omega)).mono ?_; rintro e w9 ⟨rfl, a2⟩; have S9 := Lib.hid (S8.out.below a2); have F9 := Lib.hid (F8.out.below a2); have Q9 := Lib.hid (bnext Q8.out a2); clear a2)
            | (go_at_call 15; refine (format10_calls p zs bn _ (HS.out.below Q9.out) HU.out hb2 hb36 (by omega)).mono ?_; rintro e w10 ⟨rfl, a2⟩; rw [← HNV.out, ← HF.out.2.1]; have S10 := Lib.hid (S9.out.below a2); have F10 := Lib.hid (F9.out.below a2); have Q10 := Lib.hid (bnext Q9.out a2); clear a2)
            | (go_at_call 17; refine (sum10_calls p zs bn _ (HS.out.below Q10.out) HU.out hb2 hb36 (by omega)).mono ?_; rintro e w11 ⟨v11, rfl, a1, a2⟩; rw [← HNV.out, ← HF.out.2.2.1] at a1; have T11 := Lib.hid a1; have S11 := Lib.hid (S10.out.below a2); have F11 := Lib.hid (F10.out.below a2); have Q11 := Lib.hid (bnext Q10.out a2); clear a1 a2)
            | (go_at_call 16; refine (is_calls v5 v11 M (wordsOf M) _ S11.out T11.out (wordsOf_u64 _) (by rw [HF.out.2.2.1]; exact dsum_words hb2 hb36 (by rw [HNV.out]; have := digs_words hb2 zs HU.out; omega)) (by rw [HF.out.2.2.1]; exact dsum_words hb2 hb36 (by rw [HNV.out]; have := digs_words hb2 zs HU.out; omega))).mono ?_; rintro e w12 ⟨rfl, a2⟩; rw [wordsOf_val, decide_eq_true rfl]; have F12 := Lib.hid (F11.out.below a2); have Q12 := Lib.hid (bnext Q11.out a2); clear a2)
            | (go_at_call 18; refine (tail10_calls p zs bn _ (HS.out.below Q12.out) HU.out hb2 hb36 (by omega)).mono ?_; rintro e w13 ⟨rfl, a2⟩; rw [← HNV.out, ← HF.out.2.2.2]; have F13 := Lib.hid (F12.out.below a2); have Q13 := Lib.hid (bnext Q12.out a2); clear a2))
          go_upto_region 20 with (fail)
          go_loopg [21, 22] n (fun m r i wx => ∃ j : Nat, m + j = n ∧ i = .int .i64 (j : Int) ∧ r = .bool (rtB bn ds j) ∧ w13 = wx)
          case atStart => exact ⟨0, rfl, rfl, by rw [rtB_zero], rfl⟩
          case round =>
            obtain ⟨j, hj, rfl, rfl, rfl⟩ := hrel
            by_cases hjn : j < n
            · obtain ⟨A9, c9, hv, _, hcell⟩ := (HO.out.below Q13.out).si.form
              injection hv with hv1 hv2 hv3
              obtain ⟨ad, e, hcl⟩ := hcell j (by have := HDL.out; omega)
              rw [← hv1] at e
              subst e
              obtain ⟨x, hx⟩ : ∃ x, x = ds[j]?.getD 0 := ⟨_, rfl⟩
              rw [← hx] at hcl
              have HXX := Lib.hid hx
              clear hv1 hv2 hv3 hcell hx
              cases hr : rtB bn ds j with
              | false =>
                have HRR := Lib.hid (rtB_false hr)
                clear hr
                go_wp2
                go_roundg (gk - 1)
                case rel => exact ⟨j + 1, by omega, by go_num, by rw [HRR.out], rfl⟩
                case measure => omega
              | true =>
                have HR := Lib.hid hr
                clear hr
                rcases (show x < 0 ∨ (0 ≤ x ∧ x < (bn : Int)) ∨ (0 ≤ x ∧ (bn : Int) ≤ x) by omega) with h | ⟨h, h'⟩ | ⟨h, h'⟩
                · have HRR := Lib.hid (rtB_succ_no (b := bn) (ds := ds) (k := j) (by rw [← HXX.out]; omega))
                  go_wp2
                  go_roundg (gk - 1)
                  case rel => exact ⟨j + 1, by omega, by go_num, by rw [HRR.out], rfl⟩
                  case measure => omega
                · have HRR := Lib.hid ((rtB_succ_yes (b := bn) (ds := ds) (k := j) (by rw [← HXX.out]; omega)).trans HR.out)
                  go_wp2
                  go_roundg (gk - 1)
                  case rel => exact ⟨j + 1, by omega, by go_num, by rw [HRR.out], rfl⟩
                  case measure => omega
                · have HRR := Lib.hid (rtB_succ_no (b := bn) (ds := ds) (k := j) (by rw [← HXX.out]; omega))
                  go_wp2
                  go_roundg (gk - 1)
                  case rel => exact ⟨j + 1, by omega, by go_num, by rw [HRR.out, decide_eq_false (by omega)], rfl⟩
                  case measure => omega
            · have hjn2 : j = n := by omega
              rw [hjn2, HRT.out]
              have hjn3 : decide ((j : Int) < (n : Int)) = false := decide_eq_false (by omega)
              rw [hjn2] at hjn3
              clear hjn hjn2
              go_upto_region 25 with (first
                | (go_at_call 19; refine (fromdigits10_calls _ ds bn _ (HO.out.below Q13.out).si HDG.out hb2 hb36 (by have := HDL.out; omega)).mono ?_; rintro e w14 ⟨v14, rfl, a1, a2⟩; rw [← HX.out] at a1; have T14 := Lib.hid a1; have Q14 := Lib.hid (bnext Q13.out a2); have F14 := Lib.hid (F13.out.below a2); clear a1 a2)
                | (go_at_call 16; refine (is_calls v7 v14 X (wordsOf X) _ F14.out T14.out (wordsOf_u64 _) (by rw [HX.out]; have := HVL.out; omega) (by rw [HX.out]; have := HVL.out; omega)).mono ?_; rintro e w15 ⟨rfl, a2⟩; rw [wordsOf_val, decide_eq_true rfl]; have Q15 := Lib.hid (bnext Q14.out a2); clear a2))
              have HSx := Lib.hid (HS.out.below Q15.out)
              have HOx := Lib.hid (HO.out.below Q15.out)
              have HBx := Lib.hid (HB.out.trans (Q15.out.mono HB.out.size))
              go_upto_region 27 with (go_at_call 20; refine (lawbase_calls _ _).mono ?_; rintro e w' ⟨rfl, rfl⟩; rw [← HBB.out])
              go_loopg [23] n (fun m i wx => ∃ (j : Nat) (es : List Int), m + j = n ∧ i = .int .i64 (j : Int) ∧ es.length = n ∧ SI wx .u64 p zs ∧ Own w.heap.size 3 wx .i64 (.slice A8 n c8) es ∧ Below w.heap.size w wx)
              case atStart => exact ⟨0, ds, rfl, rfl, HDL.out, HSx.out, HOx.out, HBx.out⟩
              case round =>
                obtain ⟨j, es, hj, rfl, hel, hsi, ho, hB⟩ := hrel
                have HEL := Lib.hid hel
                have HSy := Lib.hid hsi
                have HOy := Lib.hid ho
                have HBy := Lib.hid hB
                clear hsi hB
                by_cases hjn : j < n
                · obtain ⟨g, cap, hv, hg, hgl, hcap⟩ := ho.form (by omega)
                  injection hv with hv1 hv2 hv3
                  subst hv1
                  obtain ⟨x1, x2⟩ := ho.cellAt j (by omega)
                  generalize es[j]?.getD 0 = x at x1
                  obtain ⟨u, hu⟩ : ∃ u, IntKind.u64.wrap x = u := ⟨_, rfl⟩
                  have ur : 0 ≤ u ∧ u < 18446744073709551616 := by have := IntKind.wrap_u64 x; omega
                  have hbw : IntKind.u64.wrap bb = bb := wrap_u64 _ (by omega) (by omega)
                  obtain ⟨r, hr⟩ : ∃ r, u % bb = r := ⟨_, rfl⟩
                  have hrr : 0 ≤ r ∧ r < 36 := by
                    have h1 := Int.emod_nonneg u (show bb ≠ 0 by omega)
                    have h2 := Int.emod_lt_of_pos u (show 0 < bb by omega)
                    omega
                  have ht : u.tmod bb = r := by rw [Int.tmod_eq_emod_of_nonneg ur.1]; exact hr
                  have hb0 : (bb == 0) = false := beq_eq_false_iff_ne.2 (by omega)
                  clear ho hel hv2 hv3 hcap
                  go_wp2
                  go_roundg (gk - 1)
                  case rel => exact ⟨j + 1, _, by omega, by go_num, by rw [List.length_set]; exact HEL.out, HSy.out.store HAP.out j _, HOy.out.set j r, HBy.out.setCell (p := ⟨g, j, none⟩) (show w.heap.size ≤ g from hg) _⟩
                  case measure => omega
                · clear ho hel
                  go_wp2
                  go_roundg (go - 1)
                  case rel => exact ⟨k + 1, bb, es, by have := HGO.out.1; have := HGO.out.2; omega, by go_num, rfl, by omega, HEL.out, HSy.out, HOy.out, HBy.out⟩
                  case measure => have := HGO.out.1; have := HGO.out.2; omega
        · have hrt : rtB bn ds n = false := by
            cases h : rtB bn ds n with
            | false => rfl
            | true => rw [← HDL.out] at h; exact absurd (rtB_dig.1 h) hdg
          have HDG := Lib.hid hdg
          have HRT := Lib.hid hrt
          clear hdg hrt
          go_upto_region 16 with (first
            | (go_at_call 12; refine (base_calls _ _).mono ?_; rintro e w' ⟨rfl, rfl⟩; rw [HIB.out])
            | (go_at_call 7; refine (digitsD_yes p zs bn _ HS.out HU.out (by omega) hb2 hb36).mono ?_; rintro e w3 ⟨v3, rfl, a1, a2⟩; rw [← HNV.out] at a1; have D3 := Lib.hid a1; have Q3 := Lib.hid a2; clear a1 a2)
            | (go_at_call 8; refine (countR_yes p zs bn _ (HS.out.below Q3.out) HU.out (by omega) hb2 hb36).mono ?_; rintro e w4 ⟨rfl, a2⟩; rw [← HNV.out, ← HF.out.1]; have D4 := Lib.hid (D3.out.below a2); have Q4 := Lib.hid (bnext Q3.out a2); clear a2)
            | (go_at_call 9; refine (sumR_yes p zs bn _ (HS.out.below Q4.out) HU.out (by omega) hb2 hb36).mono ?_; rintro e w5 ⟨v5, rfl, a1, a2⟩; rw [← HNV.out, ← HF.out.2.2.1] at a1; have S5 := Lib.hid a1; have D5 := Lib.hid (D4.out.below a2); have Q5 := Lib.hid (bnext Q4.out a2); clear a1 a2)
            | (go_at_call 10; refine (tailR_yes p zs bn _ (HS.out.below Q5.out) HU.out (by omega) hb2 hb36).mono ?_; rintro e w6 ⟨rfl, a2⟩; rw [← HNV.out, ← HF.out.2.2.2]; have S6 := Lib.hid (S5.out.below a2); have D6 := Lib.hid (D5.out.below a2); have Q6 := Lib.hid (bnext Q5.out a2); clear a2)
            | (go_at_call 11; refine (fromDigitsR_bad _ ds bn _ (HO.out.below Q6.out).si hb2 hb36 (by have := HDL.out; omega) HDG.out).mono ?_; rintro e w7 ⟨rfl, a2⟩; have Q7 := Lib.hid (bnext Q6.out a2); have D7 := Lib.hid (D6.out.below a2); have S7 := Lib.hid (S6.out.below a2); clear a2))
          go_upto_region 18 with (first
            | (go_at_call 14; refine (digits10_calls p zs bn _ (HS.out.below Q7.out) HU.out hb2 hb36 (by omega)).mono ?_; rintro e w8 ⟨v8, rfl, a1, a2⟩; rw [← HNV.out] at a1; have E8 := Lib.hid a1.si; have D8 := Lib.hid (D7.out.below a2); have S8 := Lib.hid (S7.out.below a2); have Q8 := Lib.hid (bnext Q7.out a2); clear a1 a2)
            | (go_at_call 13; refine (ints_calls v3 v8 (digs bn N) _ D8.out.si E8.out (by rw [HNV.out]; have := digs_words hb2 zs HU.out; omega)).mono ?_; rintro e w9 ⟨rfl, a2⟩; have S9 := Lib.hid (S8.out.below a2); have Q9 := Lib.hid (bnext Q8.out a2); clear a2)
            | (go_at_call 15; refine (format10_calls p zs bn _ (HS.out.below Q9.out) HU.out hb2 hb36 (by omega)).mono ?_; rintro e w10 ⟨rfl, a2⟩; rw [← HNV.out, ← HF.out.2.1]; have S10 := Lib.hid (S9.out.below a2); have Q10 := Lib.hid (bnext Q9.out a2); clear a2)
            | (go_at_call 17; refine (sum10_calls p zs bn _ (HS.out.below Q10.out) HU.out hb2 hb36 (by omega)).mono ?_; rintro e w11 ⟨v11, rfl, a1, a2⟩; rw [← HNV.out, ← HF.out.2.2.1] at a1; have T11 := Lib.hid a1; have S11 := Lib.hid (S10.out.below a2); have Q11 := Lib.hid (bnext Q10.out a2); clear a1 a2)
            | (go_at_call 16; refine (is_calls v5 v11 M (wordsOf M) _ S11.out T11.out (wordsOf_u64 _) (by rw [HF.out.2.2.1]; exact dsum_words hb2 hb36 (by rw [HNV.out]; have := digs_words hb2 zs HU.out; omega)) (by rw [HF.out.2.2.1]; exact dsum_words hb2 hb36 (by rw [HNV.out]; have := digs_words hb2 zs HU.out; omega))).mono ?_; rintro e w12 ⟨rfl, a2⟩; rw [wordsOf_val, decide_eq_true rfl]; have Q12 := Lib.hid (bnext Q11.out a2); clear a2)
            | (go_at_call 18; refine (tail10_calls p zs bn _ (HS.out.below Q12.out) HU.out hb2 hb36 (by omega)).mono ?_; rintro e w13 ⟨rfl, a2⟩; rw [← HNV.out, ← HF.out.2.2.2]; have Q13 := Lib.hid (bnext Q12.out a2); clear a2))
          go_upto_region 20 with (fail)
          go_loopg [21, 22] n (fun m r i wx => ∃ j : Nat, m + j = n ∧ i = .int .i64 (j : Int) ∧ r = .bool (rtB bn ds j) ∧ w13 = wx)
          case atStart => exact ⟨0, rfl, rfl, by rw [rtB_zero], rfl⟩
          case round =>
            obtain ⟨j, hj, rfl, rfl, rfl⟩ := hrel
            by_cases hjn : j < n
            · obtain ⟨A9, c9, hv, _, hcell⟩ := (HO.out.below Q13.out).si.form
              injection hv with hv1 hv2 hv3
              obtain ⟨ad, e, hcl⟩ := hcell j (by have := HDL.out; omega)
              rw [← hv1] at e
              subst e
              obtain ⟨x, hx⟩ : ∃ x, x = ds[j]?.getD 0 := ⟨_, rfl⟩
              rw [← hx] at hcl
              have HXX := Lib.hid hx
              clear hv1 hv2 hv3 hcell hx
              cases hr : rtB bn ds j with
              | false =>
                have HRR := Lib.hid (rtB_false hr)
                clear hr
                go_wp2
                go_roundg (gk - 1)
                case rel => exact ⟨j + 1, by omega, by go_num, by rw [HRR.out], rfl⟩
                case measure => omega
              | true =>
                have HR := Lib.hid hr
                clear hr
                rcases (show x < 0 ∨ (0 ≤ x ∧ x < (bn : Int)) ∨ (0 ≤ x ∧ (bn : Int) ≤ x) by omega) with h | ⟨h, h'⟩ | ⟨h, h'⟩
                · have HRR := Lib.hid (rtB_succ_no (b := bn) (ds := ds) (k := j) (by rw [← HXX.out]; omega))
                  go_wp2
                  go_roundg (gk - 1)
                  case rel => exact ⟨j + 1, by omega, by go_num, by rw [HRR.out], rfl⟩
                  case measure => omega
                · have HRR := Lib.hid ((rtB_succ_yes (b := bn) (ds := ds) (k := j) (by rw [← HXX.out]; omega)).trans HR.out)
                  go_wp2
                  go_roundg (gk - 1)
                  case rel => exact ⟨j + 1, by omega, by go_num, by rw [HRR.out], rfl⟩
                  case measure => omega
                · have HRR := Lib.hid (rtB_succ_no (b := bn) (ds := ds) (k := j) (by rw [← HXX.out]; omega))
                  go_wp2
                  go_roundg (gk - 1)
                  case rel => exact ⟨j + 1, by omega, by go_num, by rw [HRR.out, decide_eq_false (by omega)], rfl⟩
                  case measure => omega
            · have hjn2 : j = n := by omega
              rw [hjn2, HRT.out]
              have hjn3 : decide ((j : Int) < (n : Int)) = false := decide_eq_false (by omega)
              rw [hjn2] at hjn3
              clear hjn hjn2
              go_upto_region 25 with (fail)
              have HSx := Lib.hid (HS.out.below Q13.out)
              have HOx := Lib.hid (HO.out.below Q13.out)
              have HBx := Lib.hid (HB.out.trans (Q13.out.mono HB.out.size))
              go_upto_region 27 with (go_at_call 20; refine (lawbase_calls _ _).mono ?_; rintro e w' ⟨rfl, rfl⟩; rw [← HBB.out])
              go_loopg [23] n (fun m i wx => ∃ (j : Nat) (es : List Int), m + j = n ∧ i = .int .i64 (j : Int) ∧ es.length = n ∧ SI wx .u64 p zs ∧ Own w.heap.size 3 wx .i64 (.slice A8 n c8) es ∧ Below w.heap.size w wx)
              case atStart => exact ⟨0, ds, rfl, rfl, HDL.out, HSx.out, HOx.out, HBx.out⟩
              case round =>
                obtain ⟨j, es, hj, rfl, hel, hsi, ho, hB⟩ := hrel
                have HEL := Lib.hid hel
                have HSy := Lib.hid hsi
                have HOy := Lib.hid ho
                have HBy := Lib.hid hB
                clear hsi hB
                by_cases hjn : j < n
                · obtain ⟨g, cap, hv, hg, hgl, hcap⟩ := ho.form (by omega)
                  injection hv with hv1 hv2 hv3
                  subst hv1
                  obtain ⟨x1, x2⟩ := ho.cellAt j (by omega)
                  generalize es[j]?.getD 0 = x at x1
                  obtain ⟨u, hu⟩ : ∃ u, IntKind.u64.wrap x = u := ⟨_, rfl⟩
                  have ur : 0 ≤ u ∧ u < 18446744073709551616 := by have := IntKind.wrap_u64 x; omega
                  have hbw : IntKind.u64.wrap bb = bb := wrap_u64 _ (by omega) (by omega)
                  obtain ⟨r, hr⟩ : ∃ r, u % bb = r := ⟨_, rfl⟩
                  have hrr : 0 ≤ r ∧ r < 36 := by
                    have h1 := Int.emod_nonneg u (show bb ≠ 0 by omega)
                    have h2 := Int.emod_lt_of_pos u (show 0 < bb by omega)
                    omega
                  have ht : u.tmod bb = r := by rw [Int.tmod_eq_emod_of_nonneg ur.1]; exact hr
                  have hb0 : (bb == 0) = false := beq_eq_false_iff_ne.2 (by omega)
                  clear ho hel hv2 hv3 hcap
                  go_wp2
                  go_roundg (gk - 1)
                  case rel => exact ⟨j + 1, _, by omega, by go_num, by rw [List.length_set]; exact HEL.out, HSy.out.store HAP.out j _, HOy.out.set j r, HBy.out.setCell (p := ⟨g, j, none⟩) (show w.heap.size ≤ g from hg) _⟩
                  case measure => omega
                · clear ho hel
                  go_wp2
                  go_roundg (go - 1)
                  case rel => exact ⟨k + 1, bb, es, by have := HGO.out.1; have := HGO.out.2; omega, by go_num, rfl, by omega, HEL.out, HSy.out, HOy.out, HBy.out⟩
                  case measure => have := HGO.out.1; have := HGO.out.2; omega
    · obtain ⟨M, hM⟩ : ∃ M : Nat, M = 65536 := ⟨_, rfl⟩
      obtain ⟨M1, hM1⟩ : ∃ M1 : Nat, M1 = 65537 := ⟨_, rfl⟩
      have HM := Lib.hid (And.intro hM hM1)
      clear hM hM1
      have hlong : ∀ (W : World) (u : Value), SI W .i64 u (List.replicate M1 0) → Calls Tryz.prog 11 #[u, .int .i64 10] W (RetB W (.tuple #[.slice none 0 0, .int .i64 1])) := fun W u hu =>
        fromDigitsR_long u (List.replicate M1 0) 10 W hu (by omega) (by omega) (by rw [List.length_replicate]; have := HM.out.2; omega)
      have hzero : ∀ (W : World) (u : Value), SI W .i64 u (List.replicate M 0) → Calls Tryz.prog 11 #[u, .int .i64 10] W (RetNat W 0) := fun W u hu => by
        have := fromDigitsR_yes u (List.replicate M 0) 10 W hu (by omega) (by omega) (by rw [List.length_replicate]; have := HM.out.1; omega) (fun j hj => by
          rw [List.length_replicate] at hj
          rw [List.getElem?_replicate, if_pos hj]
          simp) (by rw [val_replicate, wordsOf_zero]; simp)
        rw [val_replicate] at this
        exact this
      have HLONG := Lib.hid hlong
      have HZERO := Lib.hid hzero
      clear hlong hzero
      go_upto_region 31 with (first
        | (at_make; refine wpList_mk (W0 := w) rfl _ _ 24 rfl w.heap.size 3 8 .i64 Tryz.underlying24 infoI .i64 .i64 M1 _ _ rfl rfl (by have := HM.out.2; omega) (by have := HM.out.2; omega) (by have := HM.out.2; omega) (by omega) HB.out HB.out.size ?_; intro g w3 h1 hg h2 h3 h4 h5; have H1 := Lib.hid h1.si; have B3 := Lib.hid h3; clear h1 h2 h3 h4 h5)
        | (go_at_call 11; refine (HLONG.out _ _ H1.out).mono ?_; rintro e w4 ⟨rfl, q1⟩; have B4 := Lib.hid (B3.out.trans (q1.mono B3.out.size)); clear q1))
      go_upto_region 32 with (first
        | (at_make; refine wpList_mk (W0 := w) rfl _ _ 24 rfl w.heap.size 3 8 .i64 Tryz.underlying24 infoI .i64 .i64 M _ _ rfl rfl (by have := HM.out.1; omega) (by have := HM.out.1; omega) (by have := HM.out.1; omega) (by omega) B4.out B4.out.size ?_; intro g2 w5 h1 hg2 h2 h3 h4 h5; have H5 := Lib.hid h1.si; have B5 := Lib.hid h3; clear h1 h2 h3 h4 h5)
        | (go_at_call 11; refine (HZERO.out _ _ H5.out).mono ?_; rintro e w6 ⟨v6, rfl, q0, q1⟩; rw [wordsOf_zero] at q0; obtain ⟨A6, c6, hv6, _⟩ := q0; have hv7 : v6 = .slice A6 0 c6 := hv6; clear hv6; subst hv7; have B6 := Lib.hid (B5.out.trans (q1.mono B5.out.size)); clear q1))
      go_wp2_with (go_at_call 21; refine (awake_calls _ (HN.out.below B6.out HN.out.pos)).mono ?_; rintro e w9 ⟨rfl, q1⟩; have HQ := Lib.hid q1; clear q1)
      go_ret
      exact ⟨rfl, B6.out.trans (HQ.out.mono B6.out.size)⟩
end Go.Proofs.YtmbceiaeffnigaaGreatDoor
