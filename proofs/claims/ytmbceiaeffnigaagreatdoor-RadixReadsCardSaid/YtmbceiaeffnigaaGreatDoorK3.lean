/- nat.rows. -/
import Derived.Test.YtmbceiaeffnigaaGreatDoorK2
namespace Go.Proofs.YtmbceiaeffnigaaGreatDoor
open Go.RowKit Go.Shelf
attribute [local go_sem] Oper.semAt_some wide_fn wide_depth

/-- The iterator's own blocks: the boxes, and the rows in them. -/
def RowsD (py px : Nat) (Ay Ax : Option Addr) (xs ys : List Int) (i : Nat) : Prop := i = py ∨ i = px ∨ (ys ≠ [] ∧ (Value.slice Ay 0 0).ownBlock = some i) ∨ (xs ≠ [] ∧ (Value.slice Ax 0 0).ownBlock = some i)
/-- What the iterator needs of a world. -/
structure RowsS (py px : Nat) (Ay Ax : Option Addr) (cY cX : Nat) (xs ys : List Int) (W : World) : Prop where
  cy : W.cell? ⟨py, 0, none⟩ = some (.slice Ay ys.length cY)
  cx : W.cell? ⟨px, 0, none⟩ = some (.slice Ax xs.length cX)
  ry : SI W .u64 (.slice Ay ys.length cY) ys
  rx : SI W .u64 (.slice Ax xs.length cX) xs
theorem RowsS.below {py px : Nat} {Ay Ax : Option Addr} {cY cX : Nat} {xs ys : List Int} {W W' : World} (h : RowsS py px Ay Ax cY cX xs ys W) (hb : Below W.heap.size W W') : RowsS py px Ay Ax cY cX xs ys W' :=
  ⟨(hb.cell (World.block_lt_of_cell? W _ h.cy)).trans h.cy, (hb.cell (World.block_lt_of_cell? W _ h.cx)).trans h.cx, h.ry.below hb, h.rx.below hb⟩
theorem RowsS.acts {py px : Nat} {Ay Ax : Option Addr} {cY cX : Nat} {xs ys : List Int} {W W' : World} {C C' : Nat → Prop} (h : RowsS py px Ay Ax cY cX xs ys W) (ha : Acts C C' W W') (hC : ∀ i, C i → ¬ RowsD py px Ay Ax xs ys i) : RowsS py px Ay Ax cY cX xs ys W' := by
  refine ⟨cell_acts h.cy ha (fun hc => hC _ hc (.inl rfl)), cell_acts h.cx ha (fun hc => hC _ hc (.inr (.inl rfl))), ?_, ?_⟩
  · by_cases he : ys = []
    · subst he
      obtain ⟨A, c, hv, hc, _⟩ := h.ry
      exact ⟨A, c, hv, hc, fun j hj => absurd hj (by simp)⟩
    · exact h.ry.acts ha (fun g hg hc => hC g hc (.inr (.inr (.inl ⟨he, by cases Ay <;> exact hg⟩))))
  · by_cases he : xs = []
    · subst he
      obtain ⟨A, c, hv, hc, _⟩ := h.rx
      exact ⟨A, c, hv, hc, fun j hj => absurd hj (by simp)⟩
    · exact h.rx.acts ha (fun g hg hc => hC g hc (.inr (.inr (.inr ⟨he, by cases Ax <;> exact hg⟩))))
theorem RowsS.lt {py px : Nat} {Ay Ax : Option Addr} {cY cX : Nat} {xs ys : List Int} {W : World} (h : RowsS py px Ay Ax cY cX xs ys W) : ∀ i, RowsD py px Ay Ax xs ys i → i < W.heap.size := by
  rintro i (rfl | rfl | ⟨he, hi⟩ | ⟨he, hi⟩)
  · exact World.block_lt_of_cell? W _ h.cy
  · exact World.block_lt_of_cell? W _ h.cx
  · obtain ⟨g, e, hlt⟩ := h.ry.block he
    have : some g = some i := by rw [← e, ← hi]; cases Ay <;> rfl
    injection this with this
    omega
  · obtain ⟨g, e, hlt⟩ := h.rx.block he
    have : some g = some i := by rw [← e, ← hi]; cases Ax <;> rfl
    injection this with this
    omega

set_option maxHeartbeats 2000000 in
set_option maxRecDepth 100000 in
theorem rows1_iter (py px : Nat) (Ay Ax : Option Addr) (cY cX : Nat) (xs ys : List Int) (n0 : Nat) (w0 : World) (hS : RowsS py px Ay Ax cY cX xs ys w0) (hux : U64 xs) (huy : U64 ys) (hx : xs.length ≤ 4096) (hy : ys.length ≤ 4096) (hn0 : n0 ≤ w0.heap.size) :
    IterRel Tryz.prog 143 #[.pointer (some ⟨py, 0, none⟩), .pointer (some ⟨px, 0, none⟩)] (fun p : Nat × Value => #[.int .i64 (p.1 : Int), p.2]) ys.length (RowAt w0.heap.size xs ys) n0 (RowsD py px Ay Ax xs ys) w0 := by
  intro l J W C0 hb hlt hstep hround h0 hsep
  have hSW := hS.below hb
  have HST := Lib.hid hstep
  have HRo := Lib.hid hround
  have HLT := Lib.hid hlt
  have HJ0 := Lib.hid h0
  have HSEP := Lib.hid hsep
  have HS := Lib.hid hSW
  have HUX := Lib.hid hux
  have HUY := Lib.hid huy
  have HN0 : Hid (n0 ≤ W.heap.size ∧ w0.heap.size ≤ W.heap.size) := ⟨Nat.le_trans hn0 hb.size, hb.size⟩
  obtain ⟨z0, hz0⟩ : ∃ z0, z0 = w0.heap.size := ⟨_, rfl⟩
  rw [← hz0] at HN0 HRo
  have hcy := hSW.cy
  clear hS hb hlt hstep hround h0 hsep hSW hux huy hn0 hz0
  refine callsIn_of_wp Tryz.func143 rfl trivial ?_ rfl
  simp only [Tryz.ntmps143, List.size_toArray, List.length_cons, List.length_nil, Nat.reduceAdd, Nat.reduceSub, Array.replicate_succ, Array.replicate_zero, List.push_toArray, List.append_toArray, List.nil_append, List.cons_append]
  gi_wp2
  gi_loopw [11] (fun i wr => ∃ (k : Nat) (C : Nat → Prop), k ≤ ys.length ∧ i = .int .i64 (k : Int) ∧ J k C wr ∧ (∀ i, C i → ¬ RowsD py px Ay Ax xs ys i) ∧ RowsS py px Ay Ax cY cX xs ys wr ∧ (n0 ≤ wr.heap.size ∧ z0 ≤ wr.heap.size)) (fun i wr => ys.length - (intOf i).toNat)
  case atStart => exact ⟨0, C0, Nat.zero_le _, rfl, HJ0.out, HSEP.out, HS.out, HN0.out⟩
  case round =>
    obtain ⟨k, C, hk, rfl, hJ, hC, hSr, hn0⟩ := hrel
    by_cases hlt : k < ys.length
    · obtain ⟨A2, c2, hv2, _, hcell2⟩ := hSr.ry.form
      obtain ⟨ad, e, hcl⟩ := hcell2 k hlt
      have hA : Ay = A2 := by injection hv2
      subst hA
      subst e
      have hyk := HUY.out.at k
      obtain ⟨p, hp⟩ : ∃ p : Nat, ys[k]?.getD 0 = (p : Int) := ⟨(ys[k]?.getD 0).toNat, by omega⟩
      rw [hp] at hcl hyk
      have HMW := Lib.hid (mulword_calls p 0 (.slice Ax xs.length cX) xs wr hSr.rx HUX.out hx (by omega) (by omega))
      have HP : Hid ((ys[k]?.getD 0).toNat = p) := by show (ys[k]?.getD 0).toNat = p; rw [hp]; rfl
      have hcx := hSr.cx
      have HSR := Lib.hid hSr
      have HC := Lib.hid hC
      have HJ := Lib.hid hJ
      clear hJ hC hSr hv2 hcell2 hp hyk hcy
      gi_wp2_with (first
        | (gi_at_call 144; refine (callsIn_wide.2 HMW.out).mono ?_; rintro e w2 ⟨v2, zs, cy, rfl, q1, q2, q3⟩; have Z2 := Lib.hid q1; have O2 := Lib.hid q2; have B2 := Lib.hid q3; clear q1 q2 q3)
        | (gi_at_builtin; refine wpListIn_app1 (W0 := wr) rfl (.tmp 25) (.tmp 27) 22 rfl wr.heap.size 46 8 .u64 Tryz.underlying22 info64 _ zs _ rfl rfl O2.out (by rw [Z2.out.len]; omega) (by omega) B2.out B2.out.size ?_; intro v3 w3 h1 h2; obtain ⟨fn, tmps, assign, body, hyy, hR⟩ := HRo.out k (k, v3) C w3 hlt ⟨rfl, fun g e => Nat.le_trans hn0.2 (World.ownsRow.lt h1 g e).1, _, h1.si, RowAt.val Z2.out HP.out⟩ (HST.out k C wr w3 HJ.out (h2.mono hn0.1) (fun i hi => h2.block i (HLT.out k C wr HJ.out i hi))); have HS3 := Lib.hid (HSR.out.below h2); have HR2 := Lib.hid hR; have HN3 : Hid (n0 ≤ w3.heap.size ∧ z0 ≤ w3.heap.size) := ⟨Nat.le_trans hn0.1 h2.size, Nat.le_trans hn0.2 h2.size⟩; dsimp only at hyy; clear h1 h2 hR))
      refine HR2.out.mono ?_
      rintro e W' ⟨rfl, hB, C', hact, hJ'⟩
      have hS' := HS3.out.acts hact HC.out
      have hC' := hact.stays HC.out (fun i hi => HS3.out.lt i hi)
      have hn' : n0 ≤ W'.heap.size ∧ z0 ≤ W'.heap.size := ⟨Nat.le_trans HN3.out.1 hact.size, Nat.le_trans HN3.out.2 hact.size⟩
      have HF := Lib.hid (And.intro hJ' (And.intro hC' (And.intro hS' hn')))
      clear hJ' hC' hS' hn' hact hB hcl hcx hyy
      gi_wp2
      exact ⟨⟨k + 1, C', by omega, by go_num, HF.out.1, HF.out.2.1, HF.out.2.2.1, HF.out.2.2.2⟩, by simp [intOf]; omega⟩
    · obtain rfl : k = ys.length := by omega
      have HJ := Lib.hid hJ
      clear hJ hSr hC
      gi_wp2
      go_end0
      exact ⟨⟨_, rfl⟩, C, HJ.out⟩
end Go.Proofs.YtmbceiaeffnigaaGreatDoor
