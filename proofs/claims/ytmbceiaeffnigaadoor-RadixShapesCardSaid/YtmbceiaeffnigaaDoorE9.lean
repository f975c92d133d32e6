/- RadixShapes: the walk. -/
import Derived.Test.YtmbceiaeffnigaaDoorE8
import Derived.Test.YtmbceiaeffnigaaDoorAx
import Derived.Test.YtmbceiaeffnigaaDoorC
namespace Go.Proofs.YtmbceiaeffnigaaDoor
open Go.RowKit

set_option maxHeartbeats 4000000 in
set_option maxRecDepth 100000 in
theorem shapes_calls (v : Value) (xs : List Int) (s : ByteArray) (o0 o1 o2 : Int) (w : World) (hr : SI w .u64 v xs) (hu : U64 xs) (hn : xs.length ≤ 9223372036854775807) (hs : s.size ≤ 9223372036854775807) (hN : NoneAt w)
    (r0 : -9223372036854775808 ≤ o0 ∧ o0 < 9223372036854775808) (r1 : -9223372036854775808 ≤ o1 ∧ o1 < 9223372036854775808) (r2 : -9223372036854775808 ≤ o2 ∧ o2 < 9223372036854775808) :
    Calls Tryd.prog 3 #[v, .string s, .agg #[.int .i64 o0, .int .i64 o1, .int .i64 o2]] w (RetB w (.bool true)) := by
  have HR := Lib.hid hr
  have HU := Lib.hid (hu.take 10)
  have HN := Lib.hid hN
  clear hr hu hN
  go_enter Tryd.func3, Tryd.ntmps3
  go_upto_region 2 with (first
    | (go_at_call 6; refine (few10_calls _ xs 10 _ (HR.out.alloc _) hn (by omega)).mono ?_; rintro e w1 ⟨v1, rfl, q1, q2⟩; have S1 := Lib.hid q1.si; have B1 := Lib.hid ((below_new w (.cells #[.int .i64 o0, .int .i64 o1, .int .i64 o2] 24)).trans (q2.mono (by simp))); have ROW := Lib.hid ((q2.block _ (show w.heap.size < (w.alloc (.cells #[.int .i64 o0, .int .i64 o1, .int .i64 o2] 24)).heap.size by simp)).trans (World.alloc_heap_new w _)); clear q1 q2)
    | (go_at_call 7; refine (part_calls s 200 _).mono ?_; rintro e w2 ⟨rfl, rfl⟩))
  have hrow : w1.heap[w.heap.size]? = some (.cells #[.int .i64 o0, .int .i64 o1, .int .i64 o2] 24) := ROW.out
  have x0 : w1.cell? ⟨w.heap.size, 0, none⟩ = some (.int .i64 o0) := by unfold World.cell?; simp only [hrow]; rfl
  have x1 : w1.cell? ⟨w.heap.size, 1, none⟩ = some (.int .i64 o1) := by unfold World.cell?; simp only [hrow]; rfl
  have x2 : w1.cell? ⟨w.heap.size, 2, none⟩ = some (.int .i64 o2) := by unfold World.cell?; simp only [hrow]; rfl
  clear hrow
  obtain ⟨t, ht⟩ : ∃ t, t = s.extract 0 (min s.size 200) := ⟨_, rfl⟩
  have hts : t.size ≤ 200 := by rw [ht]; simp; omega
  rw [← ht]
  clear ht
  go_quiet (fail)
  go_wp2
  obtain ⟨W2, hW2⟩ : ∃ W2, W2 = w1.drewN nq := ⟨_, rfl⟩
  have S2 : Hid (SI W2 .u64 v1 (xs.take 10)) := by rw [hW2]; exact S1.out.below (below_drewN (Below.refl _ _) _)
  have B2 : Hid (Below w.heap.size w W2) := by rw [hW2]; exact B1.out.trans (below_drewN (Below.refl _ _) _)
  rw [← hW2]
  clear hW2 x0 x1 x2
  have htl : (xs.take 10).length ≤ 10 := by simp; omega
  generalize xs.take 10 = ys at *
  go_loopw [9, 10, 11, 12] (fun b wd ev i wr => ∃ (k : Nat) (b0 w0 e0 : Int), k ≤ 2 ∧ i = .int .i64 (k : Int) ∧ b = .int .i64 b0 ∧ wd = .int .i64 w0 ∧ ev = .int .i64 e0 ∧ (-9223372036854775808 ≤ b0 ∧ b0 < 9223372036854775808) ∧ (-9223372036854775808 ≤ w0 ∧ w0 < 9223372036854775808) ∧ (-9223372036854775808 ≤ e0 ∧ e0 < 9223372036854775808) ∧ SI wr .u64 v1 ys ∧ Below w.heap.size w wr) (fun _ _ _ i _ => 2 - (intOf i).toNat)
  case atStart => exact ⟨0, o0, o1, o2, by omega, rfl, rfl, rfl, rfl, r0, r1, r2, S2.out, B2.out⟩
  case round =>
    obtain ⟨k, b0, w0, e0, hk, rfl, rfl, rfl, rfl, rb, rw0, re, hsi, hB⟩ := hrel
    have HS := Lib.hid hsi
    have HB := Lib.hid hB
    clear hsi hB
    by_cases hlt : k < 2
    · have hPc : (∃ b wd : Nat, b0 = (b : Int) ∧ w0 = (wd : Int) ∧ 2 ≤ b ∧ b ≤ 36 ∧ wd ≤ 65536) ∨ isB b0 = false ∨ (isB b0 = true ∧ w0 < 0) ∨ (isB b0 = true ∧ 0 ≤ w0 ∧ 65536 < w0) := by
        cases hb : isB b0 with
        | false => exact .inr (.inl rfl)
        | true =>
          have := isB_of hb
          rcases (show (0 ≤ w0 ∧ w0 ≤ 65536) ∨ w0 < 0 ∨ (0 ≤ w0 ∧ 65536 < w0) by omega) with h | h | h
          · exact .inl ⟨b0.toNat, w0.toNat, by omega, by omega, by omega, by omega, by omega⟩
          · exact .inr (.inr (.inl ⟨rfl, h⟩))
          · exact .inr (.inr (.inr ⟨rfl, h⟩))
      have hGc : (∃ e : Nat, e0 = (e : Int) ∧ 1 ≤ e ∧ e ≤ 100) ∨ e0 < 1 ∨ (1 ≤ e0 ∧ 100 < e0) := by
        rcases (show (1 ≤ e0 ∧ e0 ≤ 100) ∨ e0 < 1 ∨ (1 ≤ e0 ∧ 100 < e0) by omega) with h | h | h
        · exact .inl ⟨e0.toNat, by omega, by omega, by omega⟩
        · exact .inr (.inl h)
        · exact .inr (.inr h)
      have hPs : ∃ (ps : ByteArray) (pe : Int) (ib : Bool), isB b0 = ib ∧ (∀ W, SI W .u64 v1 ys → Calls Tryd.prog 8 #[v1, .int .i64 b0, .int .i64 w0] W (RetB W (.tuple #[.string ps, .int .i64 pe]))) ∧
          ((ib = true ∧ 0 ≤ w0 ∧ w0 ≤ 65536 ∧ pe = 0 ∧ ∀ W, SI W .u64 v1 ys → Calls Tryd.prog 11 #[v1, .int .i64 b0, .int .i64 w0] W (RetB W (.string ps))) ∨ (ib = false ∧ pe = 1 ∧ ps = ⟨#[]⟩) ∨ (ib = true ∧ w0 < 0 ∧ pe = 1 ∧ ps = ⟨#[]⟩) ∨ (ib = true ∧ 0 ≤ w0 ∧ 65536 < w0 ∧ pe = 1 ∧ ps = ⟨#[]⟩)) := by
        rcases hPc with ⟨b, wd, rfl, rfl, h2, h36, hwd⟩ | h | ⟨h, h'⟩ | ⟨h, h', h''⟩
        · exact ⟨_, _, _, isB_yes (by omega) (by omega), fun W hW => padR_yes v1 ys b wd W hW HU.out (by omega) h2 h36 hwd, .inl ⟨rfl, by omega, by omega, rfl, fun W hW => pad10_calls v1 ys b wd W hW HU.out h2 h36 (by omega) hwd⟩⟩
        · exact ⟨_, _, _, h, fun W hW => padR_no v1 ys b0 w0 W hW (by omega) (fun hh => by rw [h] at hh; exact absurd hh.1 (by simp)), .inr (.inl ⟨rfl, rfl, rfl⟩)⟩
        · exact ⟨_, _, _, h, fun W hW => padR_no v1 ys b0 w0 W hW (by omega) (fun hh => by omega), .inr (.inr (.inl ⟨rfl, h', rfl, rfl⟩))⟩
        · exact ⟨_, _, _, h, fun W hW => padR_no v1 ys b0 w0 W hW (by omega) (fun hh => by omega), .inr (.inr (.inr ⟨rfl, h', h'', rfl, rfl⟩))⟩
      have hGs : ∃ (gs : ByteArray) (ge : Int), (∀ W, Calls Tryd.prog 9 #[.string t, .int .i64 e0] W (RetB W (.tuple #[.string gs, .int .i64 ge]))) ∧
          ((1 ≤ e0 ∧ e0 ≤ 100 ∧ ge = 0 ∧ ∀ W, Calls Tryd.prog 12 #[.string t, .int .i64 e0] W (RetB W (.string gs))) ∨ (e0 < 1 ∧ ge = 1 ∧ gs = ⟨#[]⟩) ∨ (1 ≤ e0 ∧ 100 < e0 ∧ ge = 1 ∧ gs = ⟨#[]⟩)) := by
        have hno : ¬ (1 ≤ e0 ∧ e0 ≤ 100) → ∀ W, Calls Tryd.prog 9 #[.string t, .int .i64 e0] W (RetB W (.tuple #[.string ⟨#[]⟩, .int .i64 1])) := fun h W =>
          (groupR_no t e0 W h (by omega)).mono (fun e w' ⟨h1, h2⟩ => by subst h2; exact ⟨h1, Below.refl _ _⟩)
        rcases hGc with ⟨e, rfl, h1, h2⟩ | h | ⟨h, h'⟩
        · exact ⟨_, _, fun W => groupR_calls t e W h1 h2 (by omega), .inl ⟨by omega, by omega, rfl, fun W => group10_calls t e W h1 h2 (by omega)⟩⟩
        · exact ⟨_, _, hno (by omega), .inr (.inl ⟨h, rfl, rfl⟩)⟩
        · exact ⟨_, _, hno (by omega), .inr (.inr ⟨h, h', rfl, rfl⟩)⟩
      clear hPc hGc
      obtain ⟨ps, pe, ib, hib, hpad, hPs⟩ := hPs
      obtain ⟨gs, ge, hgrp, hGs⟩ := hGs
      have HIB := Lib.hid hib
      have HPAD := Lib.hid hpad
      have HGRP := Lib.hid hgrp
      clear hib hpad hgrp
      obtain ⟨b1, hb1⟩ : ∃ b1, b1 = lawB b0 := ⟨_, rfl⟩
      have hb1r := lawB_range b0
      rw [← hb1] at hb1r
      have HB1 := Lib.hid hb1
      obtain ⟨u1, hu1⟩ : ∃ u1, IntKind.u64.wrap w0 = u1 := ⟨_, rfl⟩
      obtain ⟨u2, hu2⟩ : ∃ u2, IntKind.u64.wrap e0 = u2 := ⟨_, rfl⟩
      have u1r : 0 ≤ u1 ∧ u1 < 18446744073709551616 := by have := IntKind.wrap_u64 w0; omega
      have u2r : 0 ≤ u2 ∧ u2 < 18446744073709551616 := by have := IntKind.wrap_u64 e0; omega
      clear hb1
      rcases hPs with ⟨rfl, p1, p2, rfl, hrp⟩ | ⟨rfl, rfl, rfl⟩ | ⟨rfl, p1, rfl, rfl⟩ | ⟨rfl, p1, p2, rfl, rfl⟩
      all_goals
        try (have HRP := Lib.hid hrp; clear hrp)
        rcases hGs with ⟨g1, g2, rfl, hrg⟩ | ⟨g1, rfl, rfl⟩ | ⟨g1, g2, rfl, rfl⟩
        all_goals
          try (have HRG := Lib.hid hrg; clear hrg)
          go_upto_region 8 with (first
            | (go_at_call 8; refine (HPAD.out _ HS.out).mono ?_; rintro e w2 ⟨rfl, q1⟩; have HS2 := Lib.hid (HS.out.below q1); have HB2 := Lib.hid (HB.out.trans (q1.mono HB.out.size)); clear q1)
            | (go_at_call 9; refine (HGRP.out _).mono ?_; rintro e w3 ⟨rfl, q1⟩; have HS3 := Lib.hid (HS2.out.below q1); have HB3 := Lib.hid (HB2.out.trans (q1.mono HB2.out.size)); clear q1))
          go_wp2_with (first
            | (go_at_call 10; refine (base_calls b0 _).mono ?_; rintro e w' ⟨rfl, rfl⟩; rw [HIB.out])
            | (go_at_call 11; refine (HRP.out _ HS3.out).mono ?_; rintro e w4 ⟨rfl, q1⟩; have HS4 := Lib.hid (HS3.out.below q1); have HB4 := Lib.hid (HB3.out.trans (q1.mono HB3.out.size)); clear q1)
            | (go_at_call 12; refine (HRG.out _).mono ?_; rintro e w5 ⟨rfl, q1⟩; have HS5 := Lib.hid (by first | exact HS4.out.below q1 | exact HS3.out.below q1); have HB5 := Lib.hid (by first | exact HB4.out.trans (q1.mono HB4.out.size) | exact HB3.out.trans (q1.mono HB3.out.size)); clear q1)
            | (go_at_call 13; refine (lawbase_calls b0 _).mono ?_; rintro e w' ⟨rfl, rfl⟩; rw [← HB1.out]))
          go_roundw
          case rel => exact ⟨k + 1, b1, u1 % 400, 1 + u2 % 9, by omega, by go_num, rfl, rfl, rfl, by omega, by omega, by omega, by first | exact HS5.out | exact HS4.out | exact HS3.out, by first | exact HB5.out | exact HB4.out | exact HB3.out⟩
          case measure => simp [intOf]; omega
    · go_wp2_with (go_at_call 14; refine (awake_calls _ (HN.out.below HB.out HN.out.pos)).mono ?_; rintro e w9 ⟨rfl, q1⟩; have HQ := Lib.hid q1; clear q1)
      go_ret
      exact ⟨rfl, HB.out.trans (HQ.out.mono HB.out.size)⟩
end Go.Proofs.YtmbceiaeffnigaaDoor
