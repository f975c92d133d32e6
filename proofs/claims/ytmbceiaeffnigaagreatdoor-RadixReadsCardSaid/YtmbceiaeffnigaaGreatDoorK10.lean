/- radix.plusAt from the first word on, radix.plus, radix.product of two numbers of few words. -/
import Derived.Test.YtmbceiaeffnigaaGreatDoorK9
import Derived.Laws.CopyOwn
namespace Go.Proofs.YtmbceiaeffnigaaGreatDoor
open Go.RowKit

/-- A copy of a row of numbers into a row of the call's own. -/
theorem wpList_cpy {P : Program} {w W0 : World} {ops : Array Oper} {rest : List Oper} {o : Oper} {a : Act} {Q : Exit → Act → World → Prop} (hgd : o.guard = none) (d s : Operand) (dT sT : TypeId)
    (ho : o.op = .call { callee := .builtin .copy, args := #[d, s], argTypes := #[dT, sT] }) (e : TypeId) (hu : P.underlying dT = some (.slice e)) (hsz : (P.info? e).map (·.size) = some 1)
    (B g n : Nat) (k : IntKind) (zs xs : List Int) (A : Option Addr) (c : Nat) (hd : a.eval d = .slice (some ⟨g, 0, none⟩) n n) (hs : a.eval s = .slice A xs.length c)
    (hown : Own B e w k (.slice (some ⟨g, 0, none⟩) n n) zs) (hr : SI w k (.slice A xs.length c) xs) (hx : xs.length ≤ zs.length) (hb : Below B W0 w)
    (hK : ∀ w', Own B e w' k (.slice (some ⟨g, 0, none⟩) n n) (xs ++ zs.drop xs.length) → Below B W0 w' → wpList P ops Q rest (a.put o.dst (goInt xs.length)) w') : wpList P ops Q (o :: rest) a w := by
  have hBg := (World.ownsRow.lt hown g rfl).1
  obtain ⟨hl, hh⟩ := hown
  rcases hh with ⟨h1, _⟩ | ⟨g', cap, cur, hv, hg, hcur, h1, h2, h3, h4⟩
  · injection h1 with h1; cases h1
  · injection hv with e1 e2 e3
    injection e1 with e1
    injection e1 with e1
    subst e1 e3
    have hcl : cur = (zs.map (Value.int k)).toArray := by
      have h5 : cur.toList = zs.map (Value.int k) := by
        rw [← h4, List.take_of_length_le (by rw [Array.length_toList, h3, e2]; omega)]
      rw [← h5]
    subst hcl
    have hr2 := hr
    obtain ⟨A', c', hv', hc', hcell⟩ := hr2.form
    injection hv' with q1 q2 q3
    subst q1 q3
    refine wpList_copy_splice hgd d s dT sT ho e hu hsz (some ⟨g, 0, none⟩) A n n xs.length c hd hs g 0 (zs.map (Value.int k)) e hcur (xs.map (Value.int k)) (by rw [List.length_map]; exact (Nat.min_eq_left (by omega)).symm) ?_ (by simp; omega) (ints_one k xs) B W0 hb hBg ?_
    · intro h0
      rw [List.length_map] at h0
      obtain ⟨ad, e1, _⟩ := hcell 0 h0
      subst e1
      refine ⟨rfl, ad, rfl, hr.news.2⟩
    · intro w' hw' hB'
      rw [List.length_map]
      refine hK w' ?_ hB'
      have hsp : (splice (zs.map (Value.int k)) 0 (xs.map (Value.int k))) = (xs ++ zs.drop xs.length).map (Value.int k) := by
        unfold splice
        simp
      have hh := hw'.out
      rw [hsp] at hh
      have hlen : (xs ++ zs.drop xs.length).length = zs.length := by simp; omega
      refine ⟨by simp, .inr ⟨g, n, _, by rw [hlen, e2], hg, hh, by omega, h2, by simp at h3 ⊢; omega, ?_⟩⟩
      rw [List.take_of_length_le (by simp)]

theorem plus_end {xs ys o2 out0 : List Int} {M c : Nat} (hx : U64 xs) (hy : U64 ys) (h1 : xs.length ≤ M) (h2 : ys.length ≤ M) (ho : val 18446744073709551616 out0 = val 18446744073709551616 xs) (h : AddIn out0 o2 ys (M + 1) 0 (M + 1) c) :
    val 18446744073709551616 o2 = val 18446744073709551616 xs + val 18446744073709551616 ys := by
  have hv := h.vv
  rw [ho, List.take_of_length_le (by omega), Nat.pow_zero, Nat.one_mul, Nat.zero_add] at hv
  have b1 := val_lt64 xs hx
  have b2 := val_lt64 ys hy
  have b3 : 18446744073709551616 ^ xs.length ≤ 18446744073709551616 ^ M := Nat.pow_le_pow_right (by omega) h1
  have b4 : 18446744073709551616 ^ ys.length ≤ 18446744073709551616 ^ M := Nat.pow_le_pow_right (by omega) h2
  clear h hx hy ho
  rw [Nat.pow_succ] at hv
  generalize 18446744073709551616 ^ xs.length = p1 at *
  generalize 18446744073709551616 ^ ys.length = p2 at *
  generalize 18446744073709551616 ^ M = p3 at *
  have hc : c = 0 := by
    rcases Nat.eq_zero_or_pos c with h5 | h5
    · exact h5
    · have h6 : p3 * 18446744073709551616 * 1 ≤ p3 * 18446744073709551616 * c := Nat.mul_le_mul_left _ h5
      omega
  rw [hc, Nat.mul_zero, Nat.add_zero] at hv
  exact hv

set_option maxHeartbeats 1000000 in
set_option maxRecDepth 100000 in
theorem plusAt_calls (u v : Value) (xs ys : List Int) (w : World) (hr : SI w .u64 u xs) (hs : SI w .u64 v ys) (hux : U64 xs) (huy : U64 ys) (hx : xs.length ≤ 1000) (hy : ys.length ≤ 1000) :
    Calls Tryz.prog 92 #[u, v, .int .i64 0] w (RetSI w (wordsOf (val 18446744073709551616 xs + val 18446744073709551616 ys))) := by
  obtain ⟨Ax, cx, rfl, _, _⟩ := hr.form
  obtain ⟨Ay, cy, rfl, _, hcy⟩ := hs.form
  have HRX := Lib.hid hr
  have HRY := Lib.hid hs
  have HUX := Lib.hid hux
  have HUY := Lib.hid huy
  have HCY := Lib.hid hcy
  clear hr hs hux huy hcy
  obtain ⟨M, hM⟩ : ∃ M, M = max xs.length ys.length := ⟨_, rfl⟩
  have hM1 : max (xs.length : Int) (ys.length : Int) = (M : Int) := by omega
  have hM2 : xs.length ≤ M := by omega
  have hM3 : ys.length ≤ M := by omega
  have hM4 : M ≤ 1000 := by omega
  clear hM
  go_enter Tryz.func92, Tryz.ntmps92
  go_upto_region 2 with (at_make; refine wpList_mk (W0 := w) rfl _ _ 23 rfl w.heap.size 46 8 .u64 Tryz.underlying23 info64 _ _ (M + 1) _ _ rfl rfl (by omega) (by omega) (by omega) (by omega) (Below.refl _ _) (Nat.le_refl _) ?_; intro g w1 h1 hg h2 h3 h4 h5; have O1 := Lib.hid h1; have B1 := Lib.hid h3; have HG := Lib.hid hg; clear h1 hg h2 h3 h4 h5)
  go_upto_region 3 with ((with_reducible show wpList _ _ _ _ _ _); refine wpList_cpy (o := ⟨some 22, _, _, _, _, _⟩) (W0 := w) rfl (.tmp 20) (.tmp 21) 23 23 rfl 46 Tryz.underlying23 (by rfl) w.heap.size g (M + 1) .u64 (List.replicate (M + 1) 0) xs Ax cx rfl rfl O1.out (HRX.out.below B1.out) (by simp; omega) B1.out ?_; intro w2 h1 h2; have O2 := Lib.hid h1; have B2 := Lib.hid h2; clear h1 h2)
  obtain ⟨out0, hout⟩ : ∃ out0, out0 = xs ++ (List.replicate (M + 1) (0 : Int)).drop xs.length := ⟨_, rfl⟩
  rw [← hout] at O2
  have hol : out0.length = M + 1 := by rw [hout]; simp; omega
  have hou : U64 out0 := by rw [hout]; exact HUX.out.app ((U64.zeros _).drop _)
  have hov : val 18446744073709551616 out0 = val 18446744073709551616 xs := by
    rw [hout, val_append, List.drop_replicate, val_replicate, Nat.mul_zero, Nat.add_zero]
  have HOV := Lib.hid hov
  have HMS := Lib.hid (AddIn.start (L := M + 1) ys 0 hol hou)
  have hgw : w.heap.size ≤ g := HG.out
  clear hout hol hou hov O1 B1
  go_wp2
  go_loopw [8, 9] (fun cv iv wr => ∃ (j c : Nat) (o2 : List Int), j ≤ M + 1 ∧ iv = .int .i64 (j : Int) ∧ cv = .int .u64 (c : Int) ∧ AddIn out0 o2 ys (M + 1) 0 j c ∧ Own w.heap.size 46 wr .u64 (.slice (some ⟨g, 0, none⟩) (M + 1) (M + 1)) o2 ∧ Below w.heap.size w wr) (fun cv iv wr => M + 1 - (intOf iv).toNat)
  case atStart => exact ⟨0, 0, out0, Nat.zero_le _, rfl, rfl, HMS.out, O2.out, B2.out⟩
  case round =>
    obtain ⟨j, c, o2, hj, rfl, rfl, ha, ho, hB⟩ := hrel
    have HA := Lib.hid ha
    have HO := Lib.hid ho
    have HB := Lib.hid hB
    by_cases hjn : j < M + 1
    · obtain ⟨ho1, ho2⟩ := ho.cellAt j (by rw [ha.len]; omega)
      have hor := ha.u64.at j
      have hrr := HUY.out.at j
      obtain ⟨o, hoo⟩ : ∃ o : Nat, o2[j]?.getD 0 = (o : Int) := ⟨(o2[j]?.getD 0).toNat, by omega⟩
      obtain ⟨r, hr7⟩ : ∃ r : Nat, ys[j]?.getD 0 = (r : Int) := ⟨(ys[j]?.getD 0).toNat, by omega⟩
      rw [hoo] at ho1 hor
      rw [hr7] at hrr
      obtain ⟨s, q, hs, hq, hsq, hadd⟩ := add64c o r c (by omega) (by omega) ha.cl
      have hst := ha.step (by omega) (by rw [Nat.zero_add]; exact hoo) hr7 hs hq hsq
      rw [Nat.zero_add] at hst
      have HST := Lib.hid hst
      have HR7 := Lib.hid hr7
      clear ha ho hB hor hrr hoo hs hq hsq hst hr7
      by_cases hjy : j < ys.length
      · obtain ⟨ad, e, hcl⟩ := HCY.out j hjy
        subst e
        have hcl2 : wr.cell? (ad.add j) = some (.int .u64 (r : Int)) := by rw [← HR7.out]; exact (HB.out.cell (World.block_lt_of_cell? w _ hcl)).trans hcl
        clear hcl
        go_wp2
        go_roundw
        case rel => exact ⟨j + 1, q, _, by omega, by go_num, rfl, HST.out, Own.set HO.out j (s : Int), HB.out.setCell (p := ⟨g, j, none⟩) hgw _⟩
        case measure => simp [intOf]; omega
      · have hr0 : r = 0 := by
          have := HR7.out
          rw [List.getElem?_eq_none (by omega)] at this
          simpa using this.symm
        subst hr0
        have hadd2 : ∀ w, (callFunc 101 #[.int .u64 (o : Int), .int .u64 0, .int .u64 (c : Int)]).run Tryz.prog w = .ok (.value (.tuple #[.int .u64 (s : Int), .int .u64 (q : Int)])) w := hadd
        clear hadd
        go_wp2
        go_roundw
        case rel => exact ⟨j + 1, q, _, by omega, by go_num, rfl, HST.out, Own.set HO.out j (s : Int), HB.out.setCell (p := ⟨g, j, none⟩) hgw _⟩
        case measure => simp [intOf]; omega
    · obtain rfl : j = M + 1 := by omega
      have hend := plus_end HUX.out HUY.out hM2 hM3 HOV.out ha
      have HT := Lib.hid (trimN_calls (.slice (some ⟨g, 0, none⟩) (M + 1) (M + 1)) o2 wr ho.si (by rw [ha.len]; omega))
      rw [cut_words _ ha.u64, hend] at HT
      clear ha ho hB hend
      go_wp2_with (go_at_call 69; refine HT.out.mono ?_; rintro e w3 ⟨v3, rfl, q1, q2⟩; have G3 := Lib.hid q1.si; have B3 := Lib.hid q2; clear q1 q2)
      go_ret
      exact ⟨_, rfl, G3.out, bnx2 HB.out B3.out⟩

set_option maxHeartbeats 1000000 in
theorem plusR_calls (u v : Value) (xs ys : List Int) (w : World) (hr : SI w .u64 u xs) (hs : SI w .u64 v ys) (hux : U64 xs) (huy : U64 ys) (hx : xs.length ≤ 1000) (hy : ys.length ≤ 1000) :
    Calls Tryz.prog 62 #[u, v] w (RetSI w (wordsOf (val 18446744073709551616 xs + val 18446744073709551616 ys))) := by
  have HP := Lib.hid (plusAt_calls u v xs ys w hr hs hux huy hx hy)
  clear hr hs hux huy
  go_enter Tryz.func62, Tryz.ntmps62
  go_wp2_with (go_at_call 92; refine HP.out.mono ?_; rintro e w3 ⟨v3, rfl, q1, q2⟩; have G3 := Lib.hid q1; have B3 := Lib.hid q2; clear q1 q2)
  go_ret
  exact ⟨_, rfl, G3.out, B3.out⟩

set_option maxHeartbeats 1000000 in
set_option maxRecDepth 100000 in
theorem productR_calls (u v : Value) (xs ys : List Int) (pl : Nat) (w : World) (hc : w.cell? ⟨pl, 0, none⟩ = some v) (hr : SI w .u64 u xs) (hs : SI w .u64 v ys) (hux : U64 xs) (huy : U64 ys) (hx : xs.length ≤ 50) (hy : ys.length ≤ 50) :
    Calls Tryz.prog 63 #[u, .slice (some ⟨pl, 0, none⟩) 1 1] w (RetSI w (wordsOf (val 18446744073709551616 xs * val 18446744073709551616 ys))) := by
  have HM := Lib.hid (fastMul_calls u v xs ys w hr hs hux huy hx hy)
  obtain ⟨Ax, cx, rfl, _, _⟩ := hr.form
  obtain ⟨Ay, cy, rfl, _, _⟩ := hs.form
  clear hr hs hux huy
  obtain ⟨N, hN⟩ : ∃ N, N = wordsOf (val 18446744073709551616 xs * val 18446744073709551616 ys) := ⟨_, rfl⟩
  rw [← hN] at HM ⊢
  clear hN
  have hd : decide ((xs.length : Int) + (ys.length : Int) ≤ 4096) = true := decide_eq_true (by omega)
  go_enter Tryz.func63, Tryz.ntmps63
  go_wp2
  go_loopw [0, 12] (fun xv iv wr => (xv = .slice Ax xs.length cx ∧ iv = .int .i64 0 ∧ wr = w) ∨ (iv = .int .i64 1 ∧ SI wr .u64 xv N ∧ Below w.heap.size w wr)) (fun xv iv wr => 1 - (intOf iv).toNat)
  case atStart => exact .inl ⟨rfl, rfl, rfl⟩
  case round =>
    rcases hrel with ⟨rfl, rfl, rfl⟩ | ⟨rfl, h1, h2⟩
    · go_wp2_with (go_at_call 93; refine HM.out.mono ?_; rintro e w3 ⟨v3, rfl, q1, q2⟩; have G3 := Lib.hid q1; have B3 := Lib.hid q2; clear q1 q2)
      go_roundw
      case rel => exact .inr ⟨rfl, G3.out, B3.out⟩
      case measure => simp [intOf]
    · have G3 := Lib.hid h1
      have B3 := Lib.hid h2
      clear h1 h2
      go_wp2
      go_ret
      exact ⟨_, rfl, G3.out, B3.out⟩
end Go.Proofs.YtmbceiaeffnigaaGreatDoor
