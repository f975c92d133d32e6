/- The reference's Literal: the walk. -/
import Derived.Test.YtmbceiaeffnigaaDoorD5
import Derived.Test.YtmbceiaeffnigaaDoorE6
import Derived.Deep.DeepCutAuto
import Derived.Deep.CutBlock
namespace Go.Proofs.YtmbceiaeffnigaaDoor
open Go.RowKit

set_option maxHeartbeats 4000000 in
set_option maxRecDepth 100000 in
theorem lit10_ten (t : ByteArray) (w : World) (hn : t.size ≤ 3000) (h0 : t.size ≤ 1 ∨ (bytes t)[0]?.getD 0 ≠ 48) (res : Int × List Int) (hres : res = refS 10 (bytes t)) :
    Calls Tryd.prog 19 #[.string t] w (LitPost w res) := by
  obtain ⟨bb, hbb⟩ : ∃ bb : Nat, bb = 10 := ⟨_, rfl⟩
  rw [← hbb] at hres
  have hb2 : 2 ≤ bb ∧ bb ≤ 36 := by omega
  have HRES := Lib.hid hres
  have hbI : (10 : Int) = (bb : Int) := by omega
  have HBI := Lib.hid hbI
  clear hres hbb hbI
  by_cases hz : 2 ≤ t.size
  · have h1 := h0.resolve_left (by omega)
    rw [bytes_at t 0 (by omega)] at h1
    obtain ⟨q, hq⟩ : ∃ q, (t[0]'(by omega)).toNat = q := ⟨_, rfl⟩
    rw [hq] at h1
    have e1 : ((q : Int) == 48) = false := beq_eq_false_iff_ne.2 h1
    have z0 : 0 < t.size := by omega
    clear h1 h0
    go_enter Tryd.func19, Tryd.ntmps19
    go_upto_region 17 with (fail)
    rw [HBI.out]
    clear e1 hq
    obtain ⟨L, hLL⟩ : ∃ L, L = bytes t := ⟨_, rfl⟩
    have hL : L.length = t.size := by rw [hLL]; exact bytes_length t
    have HLL := Lib.hid hLL
    have HL := Lib.hid hL
    have HRES2 : Hid (res = refS bb L) := by rw [hLL]; exact HRES.out
    clear hLL hL
    go_upto_region 19 with (fail)
    go_loopg [6, 7] t.size (fun m pl i wr => ∃ k : Nat, m + k = t.size ∧ i = .int .i64 (k : Int) ∧ UPre L k ∧ Own w.heap.size 5 wr .u8 pl (Lf L k) ∧ Below w.heap.size w wr)
    case atStart => exact ⟨0, rfl, rfl, fun i hi => absurd hi (by omega), by rw [Lf_zero]; exact Own.nil _ _ _ _, Below.refl _ _⟩
    case round =>
      obtain ⟨k, hk, rfl, hup, ho, hB⟩ := hrel
      have HO := Lib.hid ho
      have HB := Lib.hid hB
      have HUP := Lib.hid hup
      clear hup ho hB
      have hlen : (Lf L k).length ≤ 3000 := by have := Lf_len L k; rw [HL.out] at this; omega
      by_cases hlt : k < t.size
      · have hat := bytes_at t k hlt
        rw [← HLL.out] at hat
        obtain ⟨q, hq⟩ : ∃ q, (t[k]'hlt).toNat = q := ⟨_, rfl⟩
        rw [hq] at hat
        have hkL : k < L.length := by rw [HL.out]; exact hlt
        have HAT := Lib.hid hat
        clear hat
        by_cases hc : q = 95
        · have t1 : ((q : Int) != 95) = false := by rw [hc]; rfl
          have hcL : L[k]?.getD 0 = 95 := by rw [HAT.out, hc]; rfl
          have HCL := Lib.hid hcL
          clear hc hcL
          by_cases h0 : k = 0
          · subst h0
            have hr : res = (0, []) := by rw [HRES2.out]; exact refS_bad hkL HCL.out (fun h => absurd h.1 (by omega))
            have HRR := Lib.hid hr
            clear hr
            go_wp2
            go_ret3
            exact .inl ⟨HRR.out, rfl, HB.out⟩
          · have t2 : ((k : Int) == 0) = false := beq_eq_false_iff_ne.2 (by omega)
            by_cases hl : k + 1 = t.size
            · have t3 : ((k : Int) == (t.size : Int) - 1) = true := by rw [beq_iff_eq]; omega
              have hr : res = (0, []) := by rw [HRES2.out]; exact refS_bad hkL HCL.out (fun h => absurd h.2.1 (by rw [HL.out]; omega))
              have HRR := Lib.hid hr
              clear hr
              go_wp2
              go_ret3
              exact .inl ⟨HRR.out, rfl, HB.out⟩
            · have t3 : ((k : Int) == (t.size : Int) - 1) = false := beq_eq_false_iff_ne.2 (by omega)
              obtain ⟨j, rfl⟩ : ∃ j, k = j + 1 := ⟨k - 1, by omega⟩
              have hjt : j < t.size := by omega
              have t5 : ((j : Int) + 1 == 0) = false := beq_eq_false_iff_ne.2 (by omega)
              have t6 : ((j : Int) + 1 == (t.size : Int) - 1) = false := beq_eq_false_iff_ne.2 (by omega)
              clear t2 t3
              have hatj := bytes_at t j hjt
              rw [← HLL.out] at hatj
              obtain ⟨q', hq'⟩ : ∃ q', (t[j]'hjt).toNat = q' := ⟨_, rfl⟩
              rw [hq'] at hatj
              have HATJ := Lib.hid hatj
              clear hatj h0
              by_cases hu : q' = 95
              · have t4 : ((q' : Int) == 95) = true := by rw [hu]; rfl
                have hr : res = (0, []) := by rw [HRES2.out]; exact refS_bad hkL HCL.out (fun h => h.2.2 (by rw [Nat.add_sub_cancel, HATJ.out, hu]; rfl))
                have HRR := Lib.hid hr
                clear hr hu
                go_wp2
                all_goals
                  go_ret3
                  exact .inl ⟨HRR.out, rfl, HB.out⟩
              · have t4 : ((q' : Int) == 95) = false := beq_eq_false_iff_ne.2 (by omega)
                have HQ' := Lib.hid hu
                clear hu
                go_wp2
                all_goals
                  go_roundg (gk - 1)
                  case rel => exact ⟨j + 1 + 1, by omega, by go_num, HUP.out.step (fun _ => ⟨by omega, by rw [HL.out]; omega, by rw [Nat.add_sub_cancel, HATJ.out]; have := HQ'.out; omega⟩), by rw [Lf_skip hkL HCL.out]; exact HO.out, HB.out⟩
                  case measure => omega
        · have t1 : ((q : Int) != 95) = true := by simp; omega
          have hcL : L[k]?.getD 0 ≠ 95 := by rw [HAT.out]; omega
          have hpush := Lf_push hkL hcL
          rw [HAT.out] at hpush
          have HPU := Lib.hid hpush
          have HCL := Lib.hid hcL
          clear hc hcL hpush
          go_wp2_with (at_builtin; refine wpList_app1 (W0 := w) rfl (.tmp 51) (.tmp 55) 48 rfl w.heap.size 5 1 .u8 Tryd.underlying48 infoB _ (Lf L k) _ rfl rfl HO.out (by omega) (by omega) HB.out HB.out.size ?_; intro v5 w5 q1 q2 q3 q4; rw [← HPU.out] at q1; have G1 := Lib.hid q1; have G2 := Lib.hid q2; clear q1 q2 q3 q4)
          go_roundg (gk - 1)
          case rel => exact ⟨k + 1, by omega, by go_num, HUP.out.step (fun h => absurd h HCL.out), G1.out, G2.out⟩
          case measure => omega
      · have hkL : k = L.length := by rw [HL.out]; omega
        have hLf : Lf L k = L.filter (· ≠ 95) := by unfold Lf; rw [hkL, List.take_length]
        obtain ⟨ds, hds⟩ : ∃ ds, ds = L.filter (· ≠ 95) := ⟨_, rfl⟩
        rw [← hds] at hLf
        rw [hLf] at hlen
        have hmem : ∀ x ∈ ds, 0 ≤ x ∧ x < 256 := fun x hx => by
          rw [hds] at hx
          have := (List.mem_filter.1 hx).1
          rw [HLL.out] at this
          exact bytes_mem t x this
        have hor : Own w.heap.size 5 wr .u8 u6 ds := by rw [← hLf]; exact HO.out
        have hconv := conv_bytes (P := Tryd.prog) 48 9 5 Tryd.underlying48 Tryd.underlying5 Tryd.underlying9 hor.si
        obtain ⟨s2, hs2⟩ : ∃ s2, s2 = strOf ds := ⟨_, rfl⟩
        rw [← hs2] at hconv
        have hb2s : bytes s2 = ds := by rw [hs2]; exact bytes_strOf hmem
        have hsz : s2.size = ds.length := by rw [hs2, strOf_size]
        have hup2 : UPre L L.length := by rw [← hkL]; exact HUP.out
        have HDS := Lib.hid (And.intro hds (And.intro hb2s hsz))
        have HUP2 := Lib.hid hup2
        clear hkL hLf hds hmem hor hs2 hb2s hup2
        by_cases hdg : ∀ j, j < s2.size → dig10 ((bytes s2)[j]?.getD 0) < (bb : Int)
        · have hcall := fun W => parse10_yes s2 bb W hb2.1 hb2.2 (by omega) hdg
          have hdx : ∀ x ∈ L.filter (· ≠ 95), dig10 x < (bb : Int) := fun x hx => by
            rw [← HDS.out.1] at hx
            obtain ⟨i, hi, rfl⟩ := mem_at hx
            have := hdg i (by rw [HDS.out.2.2]; exact hi)
            rwa [HDS.out.2.1] at this
          have HDX := Lib.hid hdx
          by_cases hz : 0 < s2.size
          · have hok : ROK bb L := ⟨HUP2.out, HDX.out, by rw [← HDS.out.1]; exact List.length_pos_iff.1 (by omega)⟩
            have hval : val bb (txtD s2 0) = dval bb ds := by
              unfold dval txtD
              rw [HDS.out.2.1, List.drop_zero]
            have hr : res = ((bb : Int), ds) := by rw [HRES2.out, refS_yes hok, ← HDS.out.1]
            simp only [hval, decide_eq_true hz] at hcall
            have HCALL := Lib.hid hcall
            have HRR := Lib.hid hr
            clear hcall hok hval hr hdg hdx hsz
            go_wp2_with (go_at_call 37; refine (HCALL.out _).mono ?_; rintro e w6 ⟨v6, rfl, q1, q2⟩; have G1 := Lib.hid q1; have G2 := Lib.hid q2; clear q1 q2)
            go_ret3
            exact .inr ⟨bb, by omega, by rw [HRR.out], v6, rfl, by rw [HRR.out]; exact G1.out, HB.out.trans (G2.out.mono HB.out.size)⟩
          · have hnok : ¬ ROK bb L := fun h => h.2.2 (by rw [← HDS.out.1]; exact List.eq_nil_of_length_eq_zero (by omega))
            have hr : res = (0, []) := by rw [HRES2.out, refS_no hnok]
            simp only [decide_eq_false hz] at hcall
            have HCALL := Lib.hid hcall
            have HRR := Lib.hid hr
            clear hcall hnok hr hdg hdx hsz
            go_wp2_with (go_at_call 37; refine (HCALL.out _).mono ?_; rintro e w6 ⟨v6, rfl, q1, q2⟩; have G2 := Lib.hid q2; clear q1 q2)
            go_ret3
            exact .inl ⟨HRR.out, rfl, HB.out.trans (G2.out.mono HB.out.size)⟩
        · have hcall := fun W => parse10_no s2 bb W hb2.1 hb2.2 (by omega) hdg
          have hnok : ¬ ROK bb L := fun h => hdg (fun j hj => by
            rw [HDS.out.2.1]
            rw [HDS.out.2.2] at hj
            exact h.2.1 _ (by rw [← HDS.out.1]; exact at_mem hj))
          have hr : res = (0, []) := by rw [HRES2.out, refS_no hnok]
          have HCALL := Lib.hid hcall
          have HRR := Lib.hid hr
          clear hcall hnok hr hdg hsz
          go_wp2_with (go_at_call 37; refine (HCALL.out _).mono ?_; rintro e w6 ⟨rfl, q2⟩; have G2 := Lib.hid q2; clear q2)
          go_ret3
          exact .inl ⟨HRR.out, rfl, HB.out.trans (G2.out.mono HB.out.size)⟩
  · go_enter Tryd.func19, Tryd.ntmps19
    go_upto_region 17 with (fail)
    rw [HBI.out]
    clear h0 hz
    obtain ⟨L, hLL⟩ : ∃ L, L = bytes t := ⟨_, rfl⟩
    have hL : L.length = t.size := by rw [hLL]; exact bytes_length t
    have HLL := Lib.hid hLL
    have HL := Lib.hid hL
    have HRES2 : Hid (res = refS bb L) := by rw [hLL]; exact HRES.out
    clear hLL hL
    go_upto_region 19 with (fail)
    go_loopg [6, 7] t.size (fun m pl i wr => ∃ k : Nat, m + k = t.size ∧ i = .int .i64 (k : Int) ∧ UPre L k ∧ Own w.heap.size 5 wr .u8 pl (Lf L k) ∧ Below w.heap.size w wr)
    case atStart => exact ⟨0, rfl, rfl, fun i hi => absurd hi (by omega), by rw [Lf_zero]; exact Own.nil _ _ _ _, Below.refl _ _⟩
    case round =>
      obtain ⟨k, hk, rfl, hup, ho, hB⟩ := hrel
      have HO := Lib.hid ho
      have HB := Lib.hid hB
      have HUP := Lib.hid hup
      clear hup ho hB
      have hlen : (Lf L k).length ≤ 3000 := by have := Lf_len L k; rw [HL.out] at this; omega
      by_cases hlt : k < t.size
      · have hat := bytes_at t k hlt
        rw [← HLL.out] at hat
        obtain ⟨q, hq⟩ : ∃ q, (t[k]'hlt).toNat = q := ⟨_, rfl⟩
        rw [hq] at hat
        have hkL : k < L.length := by rw [HL.out]; exact hlt
        have HAT := Lib.hid hat
        clear hat
        by_cases hc : q = 95
        · have t1 : ((q : Int) != 95) = false := by rw [hc]; rfl
          have hcL : L[k]?.getD 0 = 95 := by rw [HAT.out, hc]; rfl
          have HCL := Lib.hid hcL
          clear hc hcL
          by_cases h0 : k = 0
          · subst h0
            have hr : res = (0, []) := by rw [HRES2.out]; exact refS_bad hkL HCL.out (fun h => absurd h.1 (by omega))
            have HRR := Lib.hid hr
            clear hr
            go_wp2
            go_ret3
            exact .inl ⟨HRR.out, rfl, HB.out⟩
          · have t2 : ((k : Int) == 0) = false := beq_eq_false_iff_ne.2 (by omega)
            by_cases hl : k + 1 = t.size
            · have t3 : ((k : Int) == (t.size : Int) - 1) = true := by rw [beq_iff_eq]; omega
              have hr : res = (0, []) := by rw [HRES2.out]; exact refS_bad hkL HCL.out (fun h => absurd h.2.1 (by rw [HL.out]; omega))
              have HRR := Lib.hid hr
              clear hr
              go_wp2
              go_ret3
              exact .inl ⟨HRR.out, rfl, HB.out⟩
            · have t3 : ((k : Int) == (t.size : Int) - 1) = false := beq_eq_false_iff_ne.2 (by omega)
              obtain ⟨j, rfl⟩ : ∃ j, k = j + 1 := ⟨k - 1, by omega⟩
              have hjt : j < t.size := by omega
              have t5 : ((j : Int) + 1 == 0) = false := beq_eq_false_iff_ne.2 (by omega)
              have t6 : ((j : Int) + 1 == (t.size : Int) - 1) = false := beq_eq_false_iff_ne.2 (by omega)
              clear t2 t3
              have hatj := bytes_at t j hjt
              rw [← HLL.out] at hatj
              obtain ⟨q', hq'⟩ : ∃ q', (t[j]'hjt).toNat = q' := ⟨_, rfl⟩
              rw [hq'] at hatj
              have HATJ := Lib.hid hatj
              clear hatj h0
              by_cases hu : q' = 95
              · have t4 : ((q' : Int) == 95) = true := by rw [hu]; rfl
                have hr : res = (0, []) := by rw [HRES2.out]; exact refS_bad hkL HCL.out (fun h => h.2.2 (by rw [Nat.add_sub_cancel, HATJ.out, hu]; rfl))
                have HRR := Lib.hid hr
                clear hr hu
                go_wp2
                all_goals
                  go_ret3
                  exact .inl ⟨HRR.out, rfl, HB.out⟩
              · have t4 : ((q' : Int) == 95) = false := beq_eq_false_iff_ne.2 (by omega)
                have HQ' := Lib.hid hu
                clear hu
                go_wp2
                all_goals
                  go_roundg (gk - 1)
                  case rel => exact ⟨j + 1 + 1, by omega, by go_num, HUP.out.step (fun _ => ⟨by omega, by rw [HL.out]; omega, by rw [Nat.add_sub_cancel, HATJ.out]; have := HQ'.out; omega⟩), by rw [Lf_skip hkL HCL.out]; exact HO.out, HB.out⟩
                  case measure => omega
        · have t1 : ((q : Int) != 95) = true := by simp; omega
          have hcL : L[k]?.getD 0 ≠ 95 := by rw [HAT.out]; omega
          have hpush := Lf_push hkL hcL
          rw [HAT.out] at hpush
          have HPU := Lib.hid hpush
          have HCL := Lib.hid hcL
          clear hc hcL hpush
          go_wp2_with (at_builtin; refine wpList_app1 (W0 := w) rfl (.tmp 51) (.tmp 55) 48 rfl w.heap.size 5 1 .u8 Tryd.underlying48 infoB _ (Lf L k) _ rfl rfl HO.out (by omega) (by omega) HB.out HB.out.size ?_; intro v5 w5 q1 q2 q3 q4; rw [← HPU.out] at q1; have G1 := Lib.hid q1; have G2 := Lib.hid q2; clear q1 q2 q3 q4)
          go_roundg (gk - 1)
          case rel => exact ⟨k + 1, by omega, by go_num, HUP.out.step (fun h => absurd h HCL.out), G1.out, G2.out⟩
          case measure => omega
      · have hkL : k = L.length := by rw [HL.out]; omega
        have hLf : Lf L k = L.filter (· ≠ 95) := by unfold Lf; rw [hkL, List.take_length]
        obtain ⟨ds, hds⟩ : ∃ ds, ds = L.filter (· ≠ 95) := ⟨_, rfl⟩
        rw [← hds] at hLf
        rw [hLf] at hlen
        have hmem : ∀ x ∈ ds, 0 ≤ x ∧ x < 256 := fun x hx => by
          rw [hds] at hx
          have := (List.mem_filter.1 hx).1
          rw [HLL.out] at this
          exact bytes_mem t x this
        have hor : Own w.heap.size 5 wr .u8 u6 ds := by rw [← hLf]; exact HO.out
        have hconv := conv_bytes (P := Tryd.prog) 48 9 5 Tryd.underlying48 Tryd.underlying5 Tryd.underlying9 hor.si
        obtain ⟨s2, hs2⟩ : ∃ s2, s2 = strOf ds := ⟨_, rfl⟩
        rw [← hs2] at hconv
        have hb2s : bytes s2 = ds := by rw [hs2]; exact bytes_strOf hmem
        have hsz : s2.size = ds.length := by rw [hs2, strOf_size]
        have hup2 : UPre L L.length := by rw [← hkL]; exact HUP.out
        have HDS := Lib.hid (And.intro hds (And.intro hb2s hsz))
        have HUP2 := Lib.hid hup2
        clear hkL hLf hds hmem hor hs2 hb2s hup2
        by_cases hdg : ∀ j, j < s2.size → dig10 ((bytes s2)[j]?.getD 0) < (bb : Int)
        · have hcall := fun W => parse10_yes s2 bb W hb2.1 hb2.2 (by omega) hdg
          have hdx : ∀ x ∈ L.filter (· ≠ 95), dig10 x < (bb : Int) := fun x hx => by
            rw [← HDS.out.1] at hx
            obtain ⟨i, hi, rfl⟩ := mem_at hx
            have := hdg i (by rw [HDS.out.2.2]; exact hi)
            rwa [HDS.out.2.1] at this
          have HDX := Lib.hid hdx
          by_cases hz : 0 < s2.size
          · have hok : ROK bb L := ⟨HUP2.out, HDX.out, by rw [← HDS.out.1]; exact List.length_pos_iff.1 (by omega)⟩
            have hval : val bb (txtD s2 0) = dval bb ds := by
              unfold dval txtD
              rw [HDS.out.2.1, List.drop_zero]
            have hr : res = ((bb : Int), ds) := by rw [HRES2.out, refS_yes hok, ← HDS.out.1]
            simp only [hval, decide_eq_true hz] at hcall
            have HCALL := Lib.hid hcall
            have HRR := Lib.hid hr
            clear hcall hok hval hr hdg hdx hsz
            go_wp2_with (go_at_call 37; refine (HCALL.out _).mono ?_; rintro e w6 ⟨v6, rfl, q1, q2⟩; have G1 := Lib.hid q1; have G2 := Lib.hid q2; clear q1 q2)
            go_ret3
            exact .inr ⟨bb, by omega, by rw [HRR.out], v6, rfl, by rw [HRR.out]; exact G1.out, HB.out.trans (G2.out.mono HB.out.size)⟩
          · have hnok : ¬ ROK bb L := fun h => h.2.2 (by rw [← HDS.out.1]; exact List.eq_nil_of_length_eq_zero (by omega))
            have hr : res = (0, []) := by rw [HRES2.out, refS_no hnok]
            simp only [decide_eq_false hz] at hcall
            have HCALL := Lib.hid hcall
            have HRR := Lib.hid hr
            clear hcall hnok hr hdg hdx hsz
            go_wp2_with (go_at_call 37; refine (HCALL.out _).mono ?_; rintro e w6 ⟨v6, rfl, q1, q2⟩; have G2 := Lib.hid q2; clear q1 q2)
            go_ret3
            exact .inl ⟨HRR.out, rfl, HB.out.trans (G2.out.mono HB.out.size)⟩
        · have hcall := fun W => parse10_no s2 bb W hb2.1 hb2.2 (by omega) hdg
          have hnok : ¬ ROK bb L := fun h => hdg (fun j hj => by
            rw [HDS.out.2.1]
            rw [HDS.out.2.2] at hj
            exact h.2.1 _ (by rw [← HDS.out.1]; exact at_mem hj))
          have hr : res = (0, []) := by rw [HRES2.out, refS_no hnok]
          have HCALL := Lib.hid hcall
          have HRR := Lib.hid hr
          clear hcall hnok hr hdg hsz
          go_wp2_with (go_at_call 37; refine (HCALL.out _).mono ?_; rintro e w6 ⟨rfl, q2⟩; have G2 := Lib.hid q2; clear q2)
          go_ret3
          exact .inl ⟨HRR.out, rfl, HB.out.trans (G2.out.mono HB.out.size)⟩

theorem bas_six {q : Nat} (hb : bas q ≠ 0) : q = 98 ∨ q = 66 ∨ q = 111 ∨ q = 79 ∨ q = 120 ∨ q = 88 := by
  unfold bas at hb
  repeat' split at hb
  all_goals omega
theorem bas_none {q : Nat} (hb : bas q = 0) : q ≠ 98 ∧ q ≠ 66 ∧ q ≠ 111 ∧ q ≠ 79 ∧ q ≠ 120 ∧ q ≠ 88 := by
  unfold bas at hb
  repeat' split at hb
  all_goals omega
set_option maxHeartbeats 1000000 in
set_option maxRecDepth 100000 in
theorem lit10_nopre (s : ByteArray) (w : World) (h2 : 2 ≤ s.size) (h0 : (bytes s)[0]?.getD 0 = 48) (q : Nat) (hq : (bytes s)[1]?.getD 0 = (q : Int)) (hb : bas q = 0) :
    Calls Tryd.prog 19 #[.string s] w (LitPost w (0, [])) := by
  rw [bytes_at s 0 (by omega)] at h0
  rw [bytes_at s 1 (by omega)] at hq
  have z0 : 0 < s.size := by omega
  have z1 : 1 < s.size := by omega
  have hs0 : (s[0]'z0).toNat = 48 := by omega
  have hs1 : (s[1]'z1).toNat = q := by omega
  obtain ⟨a1, a2, a3, a4, a5, a6⟩ := bas_none hb
  have b1 : ((q : Int) == 98) = false := beq_eq_false_iff_ne.2 (by omega)
  have b2 : ((q : Int) == 66) = false := beq_eq_false_iff_ne.2 (by omega)
  have b3 : ((q : Int) == 111) = false := beq_eq_false_iff_ne.2 (by omega)
  have b4 : ((q : Int) == 79) = false := beq_eq_false_iff_ne.2 (by omega)
  have b5 : ((q : Int) == 120) = false := beq_eq_false_iff_ne.2 (by omega)
  have b6 : ((q : Int) == 88) = false := beq_eq_false_iff_ne.2 (by omega)
  clear h0 hq hb a1 a2 a3 a4 a5 a6
  go_enter Tryd.func19, Tryd.ntmps19
  go_wp2
  go_ret3
  exact .inl ⟨rfl, rfl, Below.refl _ _⟩
set_option maxHeartbeats 4000000 in
set_option maxRecDepth 100000 in
theorem lit10_pre (s : ByteArray) (w : World) (hn : s.size ≤ 3000) (h2 : 2 ≤ s.size) (h0 : (bytes s)[0]?.getD 0 = 48) (q : Nat) (hq : (bytes s)[1]?.getD 0 = (q : Int)) (hb : bas q ≠ 0) (res : Int × List Int) (hres : res = refS (bas q) (strip ((bytes s).drop 2))) :
    Calls Tryd.prog 19 #[.string s] w (LitPost w res) := by
  rw [bytes_at s 0 (by omega)] at h0
  rw [bytes_at s 1 (by omega)] at hq
  have z0 : 0 < s.size := by omega
  have z1 : 1 < s.size := by omega
  have hs0 : (s[0]'z0).toNat = 48 := by omega
  have hs1 : (s[1]'z1).toNat = q := by omega
  have hq6 := bas_six hb
  obtain ⟨bb, hbb⟩ : ∃ bb : Nat, bb = bas q := ⟨_, rfl⟩
  have hb2 : 2 ≤ bb ∧ bb ≤ 36 := by have := bas_cases q; omega
  rw [← hbb] at hres
  have HBB := Lib.hid hbb
  obtain ⟨t0, ht⟩ : ∃ t0, t0 = s.extract 2 s.size := ⟨_, rfl⟩
  have hbt : (bytes s).drop 2 = bytes t0 := by rw [ht, bytes_dropx]
  have htn : t0.size ≤ 3000 := by rw [ht]; simp; omega
  rw [hbt] at hres
  have HRES0 := Lib.hid hres
  have hext := ht.symm
  clear h0 hq hb hbb hres hbt ht hn
  go_enter Tryd.func19, Tryd.ntmps19
  go_upto_block 0 with (fail)
  go_cut [5] from 20 to 28 (fun s5 wx => s5 = .int .i64 (bb : Int) ∧ w = wx)
  case first =>
    rcases hq6 with rfl | rfl | rfl | rfl | rfl | rfl
    all_goals
      go_wp2
      go_meet
      exact ⟨by rw [HBB.out]; rfl, rfl⟩
  case rest =>
    obtain ⟨rfl, rfl⟩ := hcut
    have hst := hext
    clear hst
    go_upto_region 15 with (fail)
    by_cases hu : (bytes t0)[0]?.getD 0 = 95
    · have hz0 : 0 < t0.size := by
        rcases Nat.eq_zero_or_pos t0.size with h | h
        · have h3 := bytes_length t0
          rw [h] at h3
          have h4 : bytes t0 = [] := List.eq_nil_of_length_eq_zero h3
          rw [h4] at hu
          exact absurd hu (by simp)
        · exact h
      have hst : strip (bytes t0) = (bytes t0).drop 1 := by unfold strip; rw [if_pos hu]
      rw [bytes_at t0 0 hz0] at hu
      have hu0 : (t0[0]'hz0).toNat = 95 := by omega
      obtain ⟨t, ht⟩ : ∃ t, t0.extract 1 t0.size = t := ⟨_, rfl⟩
      have HRES : Hid (res = refS bb (bytes t)) := by rw [HRES0.out, hst, ← ht, bytes_dropx]; exact rfl
      have hn : t.size ≤ 3000 := by rw [← ht]; simp; omega
      have hz1 : 1 ≤ t0.size := hz0
      clear hu hst
      go_upto_region 17 with (fail)
      clear ht hu0
      obtain ⟨L, hLL⟩ : ∃ L, L = bytes t := ⟨_, rfl⟩
      have hL : L.length = t.size := by rw [hLL]; exact bytes_length t
      have HLL := Lib.hid hLL
      have HL := Lib.hid hL
      have HRES2 : Hid (res = refS bb L) := by rw [hLL]; exact HRES.out
      clear hLL hL
      go_upto_region 19 with (fail)
      go_loopg [6, 7] t.size (fun m pl i wr => ∃ k : Nat, m + k = t.size ∧ i = .int .i64 (k : Int) ∧ UPre L k ∧ Own w.heap.size 5 wr .u8 pl (Lf L k) ∧ Below w.heap.size w wr)
      case atStart => exact ⟨0, rfl, rfl, fun i hi => absurd hi (by omega), by rw [Lf_zero]; exact Own.nil _ _ _ _, Below.refl _ _⟩
      case round =>
        obtain ⟨k, hk, rfl, hup, ho, hB⟩ := hrel
        have HO := Lib.hid ho
        have HB := Lib.hid hB
        have HUP := Lib.hid hup
        clear hup ho hB
        have hlen : (Lf L k).length ≤ 3000 := by have := Lf_len L k; rw [HL.out] at this; omega
        by_cases hlt : k < t.size
        · have hat := bytes_at t k hlt
          rw [← HLL.out] at hat
          obtain ⟨q, hq⟩ : ∃ q, (t[k]'hlt).toNat = q := ⟨_, rfl⟩
          rw [hq] at hat
          have hkL : k < L.length := by rw [HL.out]; exact hlt
          have HAT := Lib.hid hat
          clear hat
          by_cases hc : q = 95
          · have t1 : ((q : Int) != 95) = false := by rw [hc]; rfl
            have hcL : L[k]?.getD 0 = 95 := by rw [HAT.out, hc]; rfl
            have HCL := Lib.hid hcL
            clear hc hcL
            by_cases h0 : k = 0
            · subst h0
              have hr : res = (0, []) := by rw [HRES2.out]; exact refS_bad hkL HCL.out (fun h => absurd h.1 (by omega))
              have HRR := Lib.hid hr
              clear hr
              go_wp2
              go_ret3
              exact .inl ⟨HRR.out, rfl, HB.out⟩
            · have t2 : ((k : Int) == 0) = false := beq_eq_false_iff_ne.2 (by omega)
              by_cases hl : k + 1 = t.size
              · have t3 : ((k : Int) == (t.size : Int) - 1) = true := by rw [beq_iff_eq]; omega
                have hr : res = (0, []) := by rw [HRES2.out]; exact refS_bad hkL HCL.out (fun h => absurd h.2.1 (by rw [HL.out]; omega))
                have HRR := Lib.hid hr
                clear hr
                go_wp2
                go_ret3
                exact .inl ⟨HRR.out, rfl, HB.out⟩
              · have t3 : ((k : Int) == (t.size : Int) - 1) = false := beq_eq_false_iff_ne.2 (by omega)
                obtain ⟨j, rfl⟩ : ∃ j, k = j + 1 := ⟨k - 1, by omega⟩
                have hjt : j < t.size := by omega
                have t5 : ((j : Int) + 1 == 0) = false := beq_eq_false_iff_ne.2 (by omega)
                have t6 : ((j : Int) + 1 == (t.size : Int) - 1) = false := beq_eq_false_iff_ne.2 (by omega)
                clear t2 t3
                have hatj := bytes_at t j hjt
                rw [← HLL.out] at hatj
                obtain ⟨q', hq'⟩ : ∃ q', (t[j]'hjt).toNat = q' := ⟨_, rfl⟩
                rw [hq'] at hatj
                have HATJ := Lib.hid hatj
                clear hatj h0
                by_cases hu : q' = 95
                · have t4 : ((q' : Int) == 95) = true := by rw [hu]; rfl
                  have hr : res = (0, []) := by rw [HRES2.out]; exact refS_bad hkL HCL.out (fun h => h.2.2 (by rw [Nat.add_sub_cancel, HATJ.out, hu]; rfl))
                  have HRR := Lib.hid hr
                  clear hr hu
                  go_wp2
                  all_goals
                    go_ret3
                    exact .inl ⟨HRR.out, rfl, HB.out⟩
                · have t4 : ((q' : Int) == 95) = false := beq_eq_false_iff_ne.2 (by omega)
                  have HQ' := Lib.hid hu
                  clear hu
                  go_wp2
                  all_goals
                    go_roundg (gk - 1)
                    case rel => exact ⟨j + 1 + 1, by omega, by go_num, HUP.out.step (fun _ => ⟨by omega, by rw [HL.out]; omega, by rw [Nat.add_sub_cancel, HATJ.out]; have := HQ'.out; omega⟩), by rw [Lf_skip hkL HCL.out]; exact HO.out, HB.out⟩
                    case measure => omega
          · have t1 : ((q : Int) != 95) = true := by simp; omega
            have hcL : L[k]?.getD 0 ≠ 95 := by rw [HAT.out]; omega
            have hpush := Lf_push hkL hcL
            rw [HAT.out] at hpush
            have HPU := Lib.hid hpush
            have HCL := Lib.hid hcL
            clear hc hcL hpush
            go_wp2_with (at_builtin; refine wpList_app1 (W0 := w) rfl (.tmp 51) (.tmp 55) 48 rfl w.heap.size 5 1 .u8 Tryd.underlying48 infoB _ (Lf L k) _ rfl rfl HO.out (by omega) (by omega) HB.out HB.out.size ?_; intro v5 w5 q1 q2 q3 q4; rw [← HPU.out] at q1; have G1 := Lib.hid q1; have G2 := Lib.hid q2; clear q1 q2 q3 q4)
            go_roundg (gk - 1)
            case rel => exact ⟨k + 1, by omega, by go_num, HUP.out.step (fun h => absurd h HCL.out), G1.out, G2.out⟩
            case measure => omega
        · have hkL : k = L.length := by rw [HL.out]; omega
          have hLf : Lf L k = L.filter (· ≠ 95) := by unfold Lf; rw [hkL, List.take_length]
          obtain ⟨ds, hds⟩ : ∃ ds, ds = L.filter (· ≠ 95) := ⟨_, rfl⟩
          rw [← hds] at hLf
          rw [hLf] at hlen
          have hmem : ∀ x ∈ ds, 0 ≤ x ∧ x < 256 := fun x hx => by
            rw [hds] at hx
            have := (List.mem_filter.1 hx).1
            rw [HLL.out] at this
            exact bytes_mem t x this
          have hor : Own w.heap.size 5 wr .u8 u6 ds := by rw [← hLf]; exact HO.out
          have hconv := conv_bytes (P := Tryd.prog) 48 9 5 Tryd.underlying48 Tryd.underlying5 Tryd.underlying9 hor.si
          obtain ⟨s2, hs2⟩ : ∃ s2, s2 = strOf ds := ⟨_, rfl⟩
          rw [← hs2] at hconv
          have hb2s : bytes s2 = ds := by rw [hs2]; exact bytes_strOf hmem
          have hsz : s2.size = ds.length := by rw [hs2, strOf_size]
          have hup2 : UPre L L.length := by rw [← hkL]; exact HUP.out
          have HDS := Lib.hid (And.intro hds (And.intro hb2s hsz))
          have HUP2 := Lib.hid hup2
          clear hkL hLf hds hmem hor hs2 hb2s hup2
          by_cases hdg : ∀ j, j < s2.size → dig10 ((bytes s2)[j]?.getD 0) < (bb : Int)
          · have hcall := fun W => parse10_yes s2 bb W hb2.1 hb2.2 (by omega) hdg
            have hdx : ∀ x ∈ L.filter (· ≠ 95), dig10 x < (bb : Int) := fun x hx => by
              rw [← HDS.out.1] at hx
              obtain ⟨i, hi, rfl⟩ := mem_at hx
              have := hdg i (by rw [HDS.out.2.2]; exact hi)
              rwa [HDS.out.2.1] at this
            have HDX := Lib.hid hdx
            by_cases hz : 0 < s2.size
            · have hok : ROK bb L := ⟨HUP2.out, HDX.out, by rw [← HDS.out.1]; exact List.length_pos_iff.1 (by omega)⟩
              have hval : val bb (txtD s2 0) = dval bb ds := by
                unfold dval txtD
                rw [HDS.out.2.1, List.drop_zero]
              have hr : res = ((bb : Int), ds) := by rw [HRES2.out, refS_yes hok, ← HDS.out.1]
              simp only [hval, decide_eq_true hz] at hcall
              have HCALL := Lib.hid hcall
              have HRR := Lib.hid hr
              clear hcall hok hval hr hdg hdx hsz
              go_wp2_with (go_at_call 37; refine (HCALL.out _).mono ?_; rintro e w6 ⟨v6, rfl, q1, q2⟩; have G1 := Lib.hid q1; have G2 := Lib.hid q2; clear q1 q2)
              go_ret3
              exact .inr ⟨bb, by omega, by rw [HRR.out], v6, rfl, by rw [HRR.out]; exact G1.out, HB.out.trans (G2.out.mono HB.out.size)⟩
            · have hnok : ¬ ROK bb L := fun h => h.2.2 (by rw [← HDS.out.1]; exact List.eq_nil_of_length_eq_zero (by omega))
              have hr : res = (0, []) := by rw [HRES2.out, refS_no hnok]
              simp only [decide_eq_false hz] at hcall
              have HCALL := Lib.hid hcall
              have HRR := Lib.hid hr
              clear hcall hnok hr hdg hdx hsz
              go_wp2_with (go_at_call 37; refine (HCALL.out _).mono ?_; rintro e w6 ⟨v6, rfl, q1, q2⟩; have G2 := Lib.hid q2; clear q1 q2)
              go_ret3
              exact .inl ⟨HRR.out, rfl, HB.out.trans (G2.out.mono HB.out.size)⟩
          · have hcall := fun W => parse10_no s2 bb W hb2.1 hb2.2 (by omega) hdg
            have hnok : ¬ ROK bb L := fun h => hdg (fun j hj => by
              rw [HDS.out.2.1]
              rw [HDS.out.2.2] at hj
              exact h.2.1 _ (by rw [← HDS.out.1]; exact at_mem hj))
            have hr : res = (0, []) := by rw [HRES2.out, refS_no hnok]
            have HCALL := Lib.hid hcall
            have HRR := Lib.hid hr
            clear hcall hnok hr hdg hsz
            go_wp2_with (go_at_call 37; refine (HCALL.out _).mono ?_; rintro e w6 ⟨rfl, q2⟩; have G2 := Lib.hid q2; clear q2)
            go_ret3
            exact .inl ⟨HRR.out, rfl, HB.out.trans (G2.out.mono HB.out.size)⟩
    · have hst : strip (bytes t0) = bytes t0 := by unfold strip; rw [if_neg hu]
      have HRES' : Hid (res = refS bb (bytes t0)) := by rw [HRES0.out, hst]; exact rfl
      by_cases hz : t0.size = 0
      · have hz1 : decide ((0 : Int) < (t0.size : Int)) = false := decide_eq_false (by omega)
        clear hu hst
        go_upto_region 17 with (fail)
        obtain ⟨t, hg⟩ : ∃ t, t = t0 := ⟨_, rfl⟩
        subst hg
        have HRES := HRES'
        have hn := htn
        clear hz hz1
        obtain ⟨L, hLL⟩ : ∃ L, L = bytes t := ⟨_, rfl⟩
        have hL : L.length = t.size := by rw [hLL]; exact bytes_length t
        have HLL := Lib.hid hLL
        have HL := Lib.hid hL
        have HRES2 : Hid (res = refS bb L) := by rw [hLL]; exact HRES.out
        clear hLL hL
        go_upto_region 19 with (fail)
        go_loopg [6, 7] t.size (fun m pl i wr => ∃ k : Nat, m + k = t.size ∧ i = .int .i64 (k : Int) ∧ UPre L k ∧ Own w.heap.size 5 wr .u8 pl (Lf L k) ∧ Below w.heap.size w wr)
        case atStart => exact ⟨0, rfl, rfl, fun i hi => absurd hi (by omega), by rw [Lf_zero]; exact Own.nil _ _ _ _, Below.refl _ _⟩
        case round =>
          obtain ⟨k, hk, rfl, hup, ho, hB⟩ := hrel
          have HO := Lib.hid ho
          have HB := Lib.hid hB
          have HUP := Lib.hid hup
          clear hup ho hB
          have hlen : (Lf L k).length ≤ 3000 := by have := Lf_len L k; rw [HL.out] at this; omega
          by_cases hlt : k < t.size
          · have hat := bytes_at t k hlt
            rw [← HLL.out] at hat
            obtain ⟨q, hq⟩ : ∃ q, (t[k]'hlt).toNat = q := ⟨_, rfl⟩
            rw [hq] at hat
            have hkL : k < L.length := by rw [HL.out]; exact hlt
            have HAT := Lib.hid hat
            clear hat
            by_cases hc : q = 95
            · have t1 : ((q : Int) != 95) = false := by rw [hc]; rfl
              have hcL : L[k]?.getD 0 = 95 := by rw [HAT.out, hc]; rfl
              have HCL := Lib.hid hcL
              clear hc hcL
              by_cases h0 : k = 0
              · subst h0
                have hr : res = (0, []) := by rw [HRES2.out]; exact refS_bad hkL HCL.out (fun h => absurd h.1 (by omega))
                have HRR := Lib.hid hr
                clear hr
                go_wp2
                go_ret3
                exact .inl ⟨HRR.out, rfl, HB.out⟩
              · have t2 : ((k : Int) == 0) = false := beq_eq_false_iff_ne.2 (by omega)
                by_cases hl : k + 1 = t.size
                · have t3 : ((k : Int) == (t.size : Int) - 1) = true := by rw [beq_iff_eq]; omega
                  have hr : res = (0, []) := by rw [HRES2.out]; exact refS_bad hkL HCL.out (fun h => absurd h.2.1 (by rw [HL.out]; omega))
                  have HRR := Lib.hid hr
                  clear hr
                  go_wp2
                  go_ret3
                  exact .inl ⟨HRR.out, rfl, HB.out⟩
                · have t3 : ((k : Int) == (t.size : Int) - 1) = false := beq_eq_false_iff_ne.2 (by omega)
                  obtain ⟨j, rfl⟩ : ∃ j, k = j + 1 := ⟨k - 1, by omega⟩
                  have hjt : j < t.size := by omega
                  have t5 : ((j : Int) + 1 == 0) = false := beq_eq_false_iff_ne.2 (by omega)
                  have t6 : ((j : Int) + 1 == (t.size : Int) - 1) = false := beq_eq_false_iff_ne.2 (by omega)
                  clear t2 t3
                  have hatj := bytes_at t j hjt
                  rw [← HLL.out] at hatj
                  obtain ⟨q', hq'⟩ : ∃ q', (t[j]'hjt).toNat = q' := ⟨_, rfl⟩
                  rw [hq'] at hatj
                  have HATJ := Lib.hid hatj
                  clear hatj h0
                  by_cases hu : q' = 95
                  · have t4 : ((q' : Int) == 95) = true := by rw [hu]; rfl
                    have hr : res = (0, []) := by rw [HRES2.out]; exact refS_bad hkL HCL.out (fun h => h.2.2 (by rw [Nat.add_sub_cancel, HATJ.out, hu]; rfl))
                    have HRR := Lib.hid hr
                    clear hr hu
                    go_wp2
                    all_goals
                      go_ret3
                      exact .inl ⟨HRR.out, rfl, HB.out⟩
                  · have t4 : ((q' : Int) == 95) = false := beq_eq_false_iff_ne.2 (by omega)
                    have HQ' := Lib.hid hu
                    clear hu
                    go_wp2
                    all_goals
                      go_roundg (gk - 1)
                      case rel => exact ⟨j + 1 + 1, by omega, by go_num, HUP.out.step (fun _ => ⟨by omega, by rw [HL.out]; omega, by rw [Nat.add_sub_cancel, HATJ.out]; have := HQ'.out; omega⟩), by rw [Lf_skip hkL HCL.out]; exact HO.out, HB.out⟩
                      case measure => omega
            · have t1 : ((q : Int) != 95) = true := by simp; omega
              have hcL : L[k]?.getD 0 ≠ 95 := by rw [HAT.out]; omega
              have hpush := Lf_push hkL hcL
              rw [HAT.out] at hpush
              have HPU := Lib.hid hpush
              have HCL := Lib.hid hcL
              clear hc hcL hpush
              go_wp2_with (at_builtin; refine wpList_app1 (W0 := w) rfl (.tmp 51) (.tmp 55) 48 rfl w.heap.size 5 1 .u8 Tryd.underlying48 infoB _ (Lf L k) _ rfl rfl HO.out (by omega) (by omega) HB.out HB.out.size ?_; intro v5 w5 q1 q2 q3 q4; rw [← HPU.out] at q1; have G1 := Lib.hid q1; have G2 := Lib.hid q2; clear q1 q2 q3 q4)
              go_roundg (gk - 1)
              case rel => exact ⟨k + 1, by omega, by go_num, HUP.out.step (fun h => absurd h HCL.out), G1.out, G2.out⟩
              case measure => omega
          · have hkL : k = L.length := by rw [HL.out]; omega
            have hLf : Lf L k = L.filter (· ≠ 95) := by unfold Lf; rw [hkL, List.take_length]
            obtain ⟨ds, hds⟩ : ∃ ds, ds = L.filter (· ≠ 95) := ⟨_, rfl⟩
            rw [← hds] at hLf
            rw [hLf] at hlen
            have hmem : ∀ x ∈ ds, 0 ≤ x ∧ x < 256 := fun x hx => by
              rw [hds] at hx
              have := (List.mem_filter.1 hx).1
              rw [HLL.out] at this
              exact bytes_mem t x this
            have hor : Own w.heap.size 5 wr .u8 u6 ds := by rw [← hLf]; exact HO.out
            have hconv := conv_bytes (P := Tryd.prog) 48 9 5 Tryd.underlying48 Tryd.underlying5 Tryd.underlying9 hor.si
            obtain ⟨s2, hs2⟩ : ∃ s2, s2 = strOf ds := ⟨_, rfl⟩
            rw [← hs2] at hconv
            have hb2s : bytes s2 = ds := by rw [hs2]; exact bytes_strOf hmem
            have hsz : s2.size = ds.length := by rw [hs2, strOf_size]
            have hup2 : UPre L L.length := by rw [← hkL]; exact HUP.out
            have HDS := Lib.hid (And.intro hds (And.intro hb2s hsz))
            have HUP2 := Lib.hid hup2
            clear hkL hLf hds hmem hor hs2 hb2s hup2
            by_cases hdg : ∀ j, j < s2.size → dig10 ((bytes s2)[j]?.getD 0) < (bb : Int)
            · have hcall := fun W => parse10_yes s2 bb W hb2.1 hb2.2 (by omega) hdg
              have hdx : ∀ x ∈ L.filter (· ≠ 95), dig10 x < (bb : Int) := fun x hx => by
                rw [← HDS.out.1] at hx
                obtain ⟨i, hi, rfl⟩ := mem_at hx
                have := hdg i (by rw [HDS.out.2.2]; exact hi)
                rwa [HDS.out.2.1] at this
              have HDX := Lib.hid hdx
              by_cases hz : 0 < s2.size
              · have hok : ROK bb L := ⟨HUP2.out, HDX.out, by rw [← HDS.out.1]; exact List.length_pos_iff.1 (by omega)⟩
                have hval : val bb (txtD s2 0) = dval bb ds := by
                  unfold dval txtD
                  rw [HDS.out.2.1, List.drop_zero]
                have hr : res = ((bb : Int), ds) := by rw [HRES2.out, refS_yes hok, ← HDS.out.1]
                simp only [hval, decide_eq_true hz] at hcall
                have HCALL := Lib.hid hcall
                have HRR := Lib.hid hr
                clear hcall hok hval hr hdg hdx hsz
                go_wp2_with (go_at_call 37; refine (HCALL.out _).mono ?_; rintro e w6 ⟨v6, rfl, q1, q2⟩; have G1 := Lib.hid q1; have G2 := Lib.hid q2; clear q1 q2)
                go_ret3
                exact .inr ⟨bb, by omega, by rw [HRR.out], v6, rfl, by rw [HRR.out]; exact G1.out, HB.out.trans (G2.out.mono HB.out.size)⟩
              · have hnok : ¬ ROK bb L := fun h => h.2.2 (by rw [← HDS.out.1]; exact List.eq_nil_of_length_eq_zero (by omega))
                have hr : res = (0, []) := by rw [HRES2.out, refS_no hnok]
                simp only [decide_eq_false hz] at hcall
                have HCALL := Lib.hid hcall
                have HRR := Lib.hid hr
                clear hcall hnok hr hdg hdx hsz
                go_wp2_with (go_at_call 37; refine (HCALL.out _).mono ?_; rintro e w6 ⟨v6, rfl, q1, q2⟩; have G2 := Lib.hid q2; clear q1 q2)
                go_ret3
                exact .inl ⟨HRR.out, rfl, HB.out.trans (G2.out.mono HB.out.size)⟩
            · have hcall := fun W => parse10_no s2 bb W hb2.1 hb2.2 (by omega) hdg
              have hnok : ¬ ROK bb L := fun h => hdg (fun j hj => by
                rw [HDS.out.2.1]
                rw [HDS.out.2.2] at hj
                exact h.2.1 _ (by rw [← HDS.out.1]; exact at_mem hj))
              have hr : res = (0, []) := by rw [HRES2.out, refS_no hnok]
              have HCALL := Lib.hid hcall
              have HRR := Lib.hid hr
              clear hcall hnok hr hdg hsz
              go_wp2_with (go_at_call 37; refine (HCALL.out _).mono ?_; rintro e w6 ⟨rfl, q2⟩; have G2 := Lib.hid q2; clear q2)
              go_ret3
              exact .inl ⟨HRR.out, rfl, HB.out.trans (G2.out.mono HB.out.size)⟩
      · have hz0 : 0 < t0.size := by omega
        rw [bytes_at t0 0 hz0] at hu
        obtain ⟨q0, hq0⟩ : ∃ q0, (t0[0]'hz0).toNat = q0 := ⟨_, rfl⟩
        rw [hq0] at hu
        have hu0 : ((q0 : Int) == 95) = false := beq_eq_false_iff_ne.2 hu
        clear hu hst
        go_upto_region 17 with (fail)
        clear hq0 hu0
        obtain ⟨t, hg⟩ : ∃ t, t = t0 := ⟨_, rfl⟩
        subst hg
        have HRES := HRES'
        have hn := htn
        clear hz
        obtain ⟨L, hLL⟩ : ∃ L, L = bytes t := ⟨_, rfl⟩
        have hL : L.length = t.size := by rw [hLL]; exact bytes_length t
        have HLL := Lib.hid hLL
        have HL := Lib.hid hL
        have HRES2 : Hid (res = refS bb L) := by rw [hLL]; exact HRES.out
        clear hLL hL
        go_upto_region 19 with (fail)
        go_loopg [6, 7] t.size (fun m pl i wr => ∃ k : Nat, m + k = t.size ∧ i = .int .i64 (k : Int) ∧ UPre L k ∧ Own w.heap.size 5 wr .u8 pl (Lf L k) ∧ Below w.heap.size w wr)
        case atStart => exact ⟨0, rfl, rfl, fun i hi => absurd hi (by omega), by rw [Lf_zero]; exact Own.nil _ _ _ _, Below.refl _ _⟩
        case round =>
          obtain ⟨k, hk, rfl, hup, ho, hB⟩ := hrel
          have HO := Lib.hid ho
          have HB := Lib.hid hB
          have HUP := Lib.hid hup
          clear hup ho hB
          have hlen : (Lf L k).length ≤ 3000 := by have := Lf_len L k; rw [HL.out] at this; omega
          by_cases hlt : k < t.size
          · have hat := bytes_at t k hlt
            rw [← HLL.out] at hat
            obtain ⟨q, hq⟩ : ∃ q, (t[k]'hlt).toNat = q := ⟨_, rfl⟩
            rw [hq] at hat
            have hkL : k < L.length := by rw [HL.out]; exact hlt
            have HAT := Lib.hid hat
            clear hat
            by_cases hc : q = 95
            · have t1 : ((q : Int) != 95) = false := by rw [hc]; rfl
              have hcL : L[k]?.getD 0 = 95 := by rw [HAT.out, hc]; rfl
              have HCL := Lib.hid hcL
              clear hc hcL
              by_cases h0 : k = 0
              · subst h0
                have hr : res = (0, []) := by rw [HRES2.out]; exact refS_bad hkL HCL.out (fun h => absurd h.1 (by omega))
                have HRR := Lib.hid hr
                clear hr
                go_wp2
                go_ret3
                exact .inl ⟨HRR.out, rfl, HB.out⟩
              · have t2 : ((k : Int) == 0) = false := beq_eq_false_iff_ne.2 (by omega)
                by_cases hl : k + 1 = t.size
                · have t3 : ((k : Int) == (t.size : Int) - 1) = true := by rw [beq_iff_eq]; omega
                  have hr : res = (0, []) := by rw [HRES2.out]; exact refS_bad hkL HCL.out (fun h => absurd h.2.1 (by rw [HL.out]; omega))
                  have HRR := Lib.hid hr
                  clear hr
                  go_wp2
                  go_ret3
                  exact .inl ⟨HRR.out, rfl, HB.out⟩
                · have t3 : ((k : Int) == (t.size : Int) - 1) = false := beq_eq_false_iff_ne.2 (by omega)
                  obtain ⟨j, rfl⟩ : ∃ j, k = j + 1 := ⟨k - 1, by omega⟩
                  have hjt : j < t.size := by omega
                  have t5 : ((j : Int) + 1 == 0) = false := beq_eq_false_iff_ne.2 (by omega)
                  have t6 : ((j : Int) + 1 == (t.size : Int) - 1) = false := beq_eq_false_iff_ne.2 (by omega)
                  clear t2 t3
                  have hatj := bytes_at t j hjt
                  rw [← HLL.out] at hatj
                  obtain ⟨q', hq'⟩ : ∃ q', (t[j]'hjt).toNat = q' := ⟨_, rfl⟩
                  rw [hq'] at hatj
                  have HATJ := Lib.hid hatj
                  clear hatj h0
                  by_cases hu : q' = 95
                  · have t4 : ((q' : Int) == 95) = true := by rw [hu]; rfl
                    have hr : res = (0, []) := by rw [HRES2.out]; exact refS_bad hkL HCL.out (fun h => h.2.2 (by rw [Nat.add_sub_cancel, HATJ.out, hu]; rfl))
                    have HRR := Lib.hid hr
                    clear hr hu
                    go_wp2
                    all_goals
                      go_ret3
                      exact .inl ⟨HRR.out, rfl, HB.out⟩
                  · have t4 : ((q' : Int) == 95) = false := beq_eq_false_iff_ne.2 (by omega)
                    have HQ' := Lib.hid hu
                    clear hu
                    go_wp2
                    all_goals
                      go_roundg (gk - 1)
                      case rel => exact ⟨j + 1 + 1, by omega, by go_num, HUP.out.step (fun _ => ⟨by omega, by rw [HL.out]; omega, by rw [Nat.add_sub_cancel, HATJ.out]; have := HQ'.out; omega⟩), by rw [Lf_skip hkL HCL.out]; exact HO.out, HB.out⟩
                      case measure => omega
            · have t1 : ((q : Int) != 95) = true := by simp; omega
              have hcL : L[k]?.getD 0 ≠ 95 := by rw [HAT.out]; omega
              have hpush := Lf_push hkL hcL
              rw [HAT.out] at hpush
              have HPU := Lib.hid hpush
              have HCL := Lib.hid hcL
              clear hc hcL hpush
              go_wp2_with (at_builtin; refine wpList_app1 (W0 := w) rfl (.tmp 51) (.tmp 55) 48 rfl w.heap.size 5 1 .u8 Tryd.underlying48 infoB _ (Lf L k) _ rfl rfl HO.out (by omega) (by omega) HB.out HB.out.size ?_; intro v5 w5 q1 q2 q3 q4; rw [← HPU.out] at q1; have G1 := Lib.hid q1; have G2 := Lib.hid q2; clear q1 q2 q3 q4)
              go_roundg (gk - 1)
              case rel => exact ⟨k + 1, by omega, by go_num, HUP.out.step (fun h => absurd h HCL.out), G1.out, G2.out⟩
              case measure => omega
          · have hkL : k = L.length := by rw [HL.out]; omega
            have hLf : Lf L k = L.filter (· ≠ 95) := by unfold Lf; rw [hkL, List.take_length]
            obtain ⟨ds, hds⟩ : ∃ ds, ds = L.filter (· ≠ 95) := ⟨_, rfl⟩
            rw [← hds] at hLf
            rw [hLf] at hlen
            have hmem : ∀ x ∈ ds, 0 ≤ x ∧ x < 256 := fun x hx => by
              rw [hds] at hx
              have := (List.mem_filter.1 hx).1
              rw [HLL.out] at this
              exact bytes_mem t x this
            have hor : Own w.heap.size 5 wr .u8 u6 ds := by rw [← hLf]; exact HO.out
            have hconv := conv_bytes (P := Tryd.prog) 48 9 5 Tryd.underlying48 Tryd.underlying5 Tryd.underlying9 hor.si
            obtain ⟨s2, hs2⟩ : ∃ s2, s2 = strOf ds := ⟨_, rfl⟩
            rw [← hs2] at hconv
            have hb2s : bytes s2 = ds := by rw [hs2]; exact bytes_strOf hmem
            have hsz : s2.size = ds.length := by rw [hs2, strOf_size]
            have hup2 : UPre L L.length := by rw [← hkL]; exact HUP.out
            have HDS := Lib.hid (And.intro hds (And.intro hb2s hsz))
            have HUP2 := Lib.hid hup2
            clear hkL hLf hds hmem hor hs2 hb2s hup2
            by_cases hdg : ∀ j, j < s2.size → dig10 ((bytes s2)[j]?.getD 0) < (bb : Int)
            · have hcall := fun W => parse10_yes s2 bb W hb2.1 hb2.2 (by omega) hdg
              have hdx : ∀ x ∈ L.filter (· ≠ 95), dig10 x < (bb : Int) := fun x hx => by
                rw [← HDS.out.1] at hx
                obtain ⟨i, hi, rfl⟩ := mem_at hx
                have := hdg i (by rw [HDS.out.2.2]; exact hi)
                rwa [HDS.out.2.1] at this
              have HDX := Lib.hid hdx
              by_cases hz : 0 < s2.size
              · have hok : ROK bb L := ⟨HUP2.out, HDX.out, by rw [← HDS.out.1]; exact List.length_pos_iff.1 (by omega)⟩
                have hval : val bb (txtD s2 0) = dval bb ds := by
                  unfold dval txtD
                  rw [HDS.out.2.1, List.drop_zero]
                have hr : res = ((bb : Int), ds) := by rw [HRES2.out, refS_yes hok, ← HDS.out.1]
                simp only [hval, decide_eq_true hz] at hcall
                have HCALL := Lib.hid hcall
                have HRR := Lib.hid hr
                clear hcall hok hval hr hdg hdx hsz
                go_wp2_with (go_at_call 37; refine (HCALL.out _).mono ?_; rintro e w6 ⟨v6, rfl, q1, q2⟩; have G1 := Lib.hid q1; have G2 := Lib.hid q2; clear q1 q2)
                go_ret3
                exact .inr ⟨bb, by omega, by rw [HRR.out], v6, rfl, by rw [HRR.out]; exact G1.out, HB.out.trans (G2.out.mono HB.out.size)⟩
              · have hnok : ¬ ROK bb L := fun h => h.2.2 (by rw [← HDS.out.1]; exact List.eq_nil_of_length_eq_zero (by omega))
                have hr : res = (0, []) := by rw [HRES2.out, refS_no hnok]
                simp only [decide_eq_false hz] at hcall
                have HCALL := Lib.hid hcall
                have HRR := Lib.hid hr
                clear hcall hnok hr hdg hdx hsz
                go_wp2_with (go_at_call 37; refine (HCALL.out _).mono ?_; rintro e w6 ⟨v6, rfl, q1, q2⟩; have G2 := Lib.hid q2; clear q1 q2)
                go_ret3
                exact .inl ⟨HRR.out, rfl, HB.out.trans (G2.out.mono HB.out.size)⟩
            · have hcall := fun W => parse10_no s2 bb W hb2.1 hb2.2 (by omega) hdg
              have hnok : ¬ ROK bb L := fun h => hdg (fun j hj => by
                rw [HDS.out.2.1]
                rw [HDS.out.2.2] at hj
                exact h.2.1 _ (by rw [← HDS.out.1]; exact at_mem hj))
              have hr : res = (0, []) := by rw [HRES2.out, refS_no hnok]
              have HCALL := Lib.hid hcall
              have HRR := Lib.hid hr
              clear hcall hnok hr hdg hsz
              go_wp2_with (go_at_call 37; refine (HCALL.out _).mono ?_; rintro e w6 ⟨rfl, q2⟩; have G2 := Lib.hid q2; clear q2)
              go_ret3
              exact .inl ⟨HRR.out, rfl, HB.out.trans (G2.out.mono HB.out.size)⟩
theorem lit10_calls (s : ByteArray) (w : World) (hn : s.size ≤ 3000) : Calls Tryd.prog 19 #[.string s] w (LitPost w (litP (bytes s))) := by
  have hl := bytes_length s
  rw [litP_ref]
  by_cases hp : 1 < (bytes s).length ∧ (bytes s)[0]?.getD 0 = 48
  · rw [if_pos hp]
    have hq0 := (bytes_range s 1).1
    have hq : (bytes s)[1]?.getD 0 = ((((bytes s)[1]?.getD 0).toNat : Nat) : Int) := by omega
    by_cases hb : bas ((bytes s)[1]?.getD 0).toNat = 0
    · rw [if_pos hb]
      exact lit10_nopre s w (by omega) hp.2 _ hq hb
    · rw [if_neg hb]
      exact lit10_pre s w hn (by omega) hp.2 _ hq hb _ rfl
  · rw [if_neg hp]
    refine lit10_ten s w hn ?_ _ rfl
    by_cases h1 : s.size ≤ 1
    · exact .inl h1
    · exact .inr (fun h => hp ⟨by omega, h⟩)
end Go.Proofs.YtmbceiaeffnigaaDoor
