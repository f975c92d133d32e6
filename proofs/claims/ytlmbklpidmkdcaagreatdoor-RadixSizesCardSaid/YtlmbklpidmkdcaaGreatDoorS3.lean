/- The specification's Left of 1 by whole words, and Right by one bit. -/
import Derived.Test.YtlmbklpidmkdcaaGreatDoorS1
namespace Go.Proofs.YtlmbklpidmkdcaaGreatDoor
open Go.RowKit

set_option maxHeartbeats 1000000 in
set_option maxRecDepth 100000 in
theorem left02_calls (v : Value) (L : Nat) (w : World) (hr : SI w .u64 v [1]) (hL : L = 1024) :
    Calls Tryz.prog 15 #[v, .int .i64 65536] w (RetSI w (wordsOf (18446744073709551616 ^ L))) := by
  have HR := Lib.hid hr
  have hlen : (L : Int) = 1024 := by omega
  have hl2 : L ≤ 5000 := by omega
  have HL := Lib.hid hlen
  clear hr hL hlen
  have hm : Int.tmod 65536 64 = 0 := by decide
  have hq : Int.tdiv 65536 64 = 1024 := by decide
  go_enter Tryz.func15, Tryz.ntmps15
  go_upto_region 2 with (go_at_call 44; refine (left01_calls v _ HR.out).mono ?_; rintro e w1 ⟨v1, rfl, h1, h2⟩; have O1 := Lib.hid h1.si; have B1 := Lib.hid h2; clear h1 h2)
  go_upto_region 3 with (at_make; refine wpList_mk (W0 := w) rfl _ _ 22 rfl w.heap.size 42 8 .u64 Tryz.underlying22 info64 _ _ L _ _ rfl rfl (by have := HL.out; omega) (by have := HL.out; omega) (by omega) (by omega) B1.out B1.out.size ?_; intro g w2 h1 hg h2 h3 h4 h5; have O2 := Lib.hid h1; have B2 := Lib.hid h3; have S2 := Lib.hid (O1.out.below h4); clear h1 hg h2 h3 h4 h5)
  go_upto_region 4 with (at_builtin; refine wpList_app (W0 := w) rfl (.tmp 18) (.tmp 19) 22 rfl w.heap.size 42 8 .u64 Tryz.underlying22 info64 _ _ (List.replicate L 0) [1] rfl rfl O2.out S2.out (by simp; omega) (by omega) B2.out B2.out.size ?_; intro v3 w3 h1 h2 h3 h4; have O3 := Lib.hid h1; have B3 := Lib.hid h2; clear h1 h2 h3 h4)
  obtain ⟨xs, hxs⟩ : ∃ xs, xs = List.replicate L (0 : Int) ++ [1] := ⟨_, rfl⟩
  have hxl : xs.length = L + 1 := by rw [hxs]; simp
  have hxu : U64 xs := by rw [hxs]; exact (U64.zeros _).app (U64.one (by omega) (by omega))
  have hxv : val 18446744073709551616 (xs ++ [0]) = 18446744073709551616 ^ L := by
    rw [val_append, hxs, val_append, val_replicate, List.length_replicate, val_cons, val_nil, val_cons, val_nil]
    simp
  rw [← hxs] at O3
  have HXU := Lib.hid hxu
  have HXV := Lib.hid hxv
  have HXL := Lib.hid hxl
  clear hxs hxu hxv hxl
  go_wp2_with (first
    | (go_at_call 45; refine (trim02_calls _ (xs ++ [0]) _ O4.out (HXU.out.app (U64.one (by omega) (by omega))) (by rw [List.length_append, HXL.out]; simp; omega)).mono ?_; rintro e w5 ⟨v5, rfl, h1, h2⟩; rw [HXV.out] at h1; have O5 := Lib.hid h1.si; have B5 := Lib.hid (bnx3 B4.out h2); clear h1 h2)
    | (at_builtin; refine wpList_app1 (W0 := w) rfl (.tmp 21) (.tmp 23) 22 rfl w.heap.size 42 8 .u64 Tryz.underlying22 info64 _ xs 0 rfl rfl O3.out (by rw [HXL.out]; omega) (by omega) B3.out B3.out.size ?_; intro v4 w4 h1 h2 h3 h4; have O4 := Lib.hid h1.si; have B4 := Lib.hid h2; clear h1 h2 h3 h4))
  go_ret
  exact ⟨_, rfl, O5.out, B5.out⟩

theorem half_step (x V f : Nat) (hf : f = V % 2 * 9223372036854775808) (hx : x < 18446744073709551616) :
    (x / 2 + f) + 18446744073709551616 * (V / 2) = (x + 18446744073709551616 * V) / 2 ∧ x / 2 + f < 18446744073709551616 ∧ x % 2 = (x + 18446744073709551616 * V) % 2 := by
  subst hf
  omega

set_option maxHeartbeats 1000000 in
set_option maxRecDepth 100000 in
theorem right01_calls (v : Value) (xs : List Int) (w : World) (hr : SI w .u64 v xs) (hu : U64 xs) (hn : xs.length ≤ 5000) :
    Calls Tryz.prog 46 #[v, .int .i64 1] w fun e w' => ∃ (v1 q : Value) (zs : List Int), e = .returned (.tuple #[v1, q]) ∧ SI w' .u64 v1 zs ∧ U64 zs ∧ zs.length = xs.length ∧ val 18446744073709551616 zs = val 18446744073709551616 xs / 2 ∧ Below w.heap.size w w' := by
  obtain ⟨A, c, rfl, _, hcell⟩ := hr.form
  have HC := Lib.hid hcell
  have HU := Lib.hid hu
  clear hr hu hcell
  go_enter Tryz.func46, Tryz.ntmps46
  go_wp2_with (at_make; refine wpList_mk (W0 := w) rfl _ _ 22 rfl w.heap.size 42 8 .u64 Tryz.underlying22 info64 _ _ xs.length _ _ rfl rfl rfl rfl (by omega) (by omega) (Below.refl _ _) (Nat.le_refl _) ?_; intro g w1 h1 hg h2 h3 h4 h5; have O1 := Lib.hid h1; have B1 := Lib.hid h3; have HG := Lib.hid hg; clear h1 hg h2 h3 h4 h5)
  have hgw : w.heap.size ≤ g := HG.out
  go_loopw [7, 8] (fun fv iv wr => ∃ (j : Nat) (ts : List Int) (f : Nat), j ≤ xs.length ∧ iv = .int .i64 ((j : Int) - 1) ∧ fv = .int .u64 (f : Int) ∧ f = val 18446744073709551616 (xs.drop j) % 2 * 9223372036854775808 ∧ ts.length = xs.length - j ∧ U64 ts ∧ val 18446744073709551616 ts = val 18446744073709551616 (xs.drop j) / 2 ∧ Own w.heap.size 42 wr .u64 (.slice (some ⟨g, 0, none⟩) xs.length xs.length) (List.replicate j 0 ++ ts) ∧ Below w.heap.size w wr) (fun fv iv wr => (intOf iv + 1).toNat)
  case atStart => exact ⟨xs.length, [], 0, Nat.le_refl _, rfl, rfl, by rw [List.drop_length]; rfl, by simp, U64.nil, by rw [List.drop_length]; rfl, by rw [List.append_nil]; exact O1.out, B1.out⟩
  case round =>
    obtain ⟨j, ts, f, hj, rfl, rfl, hf, htl, htu, htv, ho, hB⟩ := hrel
    have HO := Lib.hid ho
    have HB := Lib.hid hB
    by_cases hj0 : j = 0
    · subst hj0
      rw [List.drop_zero] at htv
      rw [Nat.sub_zero] at htl
      rw [List.replicate_zero, List.nil_append] at HO
      have HV := Lib.hid htv
      have HTL := Lib.hid htl
      have HTU := Lib.hid htu
      clear ho hB htl htu htv hf
      rw [show ((0 : Nat) : Int) - 1 = -1 from rfl]
      go_wp2
      go_ret2
      exact ⟨_, _, ts, rfl, HO.out.si, HTU.out, HTL.out, HV.out, HB.out⟩
    · obtain ⟨m, rfl⟩ : ∃ m, j = m + 1 := ⟨j - 1, by omega⟩
      have hm1 : ((m + 1 : Nat) : Int) - 1 = (m : Int) := by omega
      rw [hm1]
      have hmx : m < xs.length := by omega
      obtain ⟨ad, e, hcl⟩ := HC.out m hmx
      subst e
      have hx := HU.out.at m
      obtain ⟨x, hxx⟩ : ∃ x : Nat, xs[m]?.getD 0 = (x : Int) := ⟨(xs[m]?.getD 0).toNat, by omega⟩
      rw [hxx] at hcl hx
      have hcl2 : wr.cell? (ad.add m) = some (.int .u64 (x : Int)) := (hB.cell (World.block_lt_of_cell? w _ hcl)).trans hcl
      have hdr : val 18446744073709551616 (xs.drop m) = x + 18446744073709551616 * val 18446744073709551616 (xs.drop (m + 1)) := by
        rw [List.drop_eq_getElem_cons hmx, val_cons]
        have : xs[m] = (x : Int) := by rw [← hxx, List.getElem?_eq_getElem hmx]; rfl
        rw [this, Int.toNat_natCast]
      obtain ⟨V, hV⟩ : ∃ V, V = val 18446744073709551616 (xs.drop (m + 1)) := ⟨_, rfl⟩
      rw [← hV] at hf htv hdr
      have hst := half_step x V f hf (by omega)
      obtain ⟨ho1, ho2⟩ := ho.cellAt m (by simp; omega)
      have HST := Lib.hid hst
      have HD := Lib.hid (And.intro hdr (And.intro htv (And.intro htl htu)))
      have hx2 : x < 18446744073709551616 := by omega
      have hs1 := hst.2.1
      clear ho hB hcl hx hxx hdr hV hf htv htl htu hst hm1
      go_upto_region 8 with (fail)
      have had : (ad.add m).block ≠ g := by
        have h1 := World.block_lt_of_cell? w _ (HC.out m hmx).choose_spec.2
        have h2 : (HC.out m hmx).choose = ad := by
          have := (HC.out m hmx).choose_spec.1
          injection this with this
          exact this.symm
        rw [h2] at h1
        omega
      obtain ⟨w2, hw2⟩ : ∃ w2, w2 = wr.setCell ⟨g, m, none⟩ (.int .u64 ((f : Int) + (x : Int) / 2)) := ⟨_, rfl⟩
      have hcl3 : w2.cell? (ad.add m) = some (.int .u64 (x : Int)) := by
        rw [hw2]
        exact (World.cell?_of_block (a := ad.add m) (Below.heap_setCell _ _ _ _ had)).trans hcl2
      have hO2 : Own w.heap.size 42 w2 .u64 (.slice (some ⟨g, 0, none⟩) xs.length xs.length) ((List.replicate (m + 1) 0 ++ ts).set m ((f : Int) + (x : Int) / 2)) := by
        rw [hw2]
        exact Own.set HO.out m _
      have hB2 : Below w.heap.size w w2 := by rw [hw2]; exact HB.out.setCell (p := ⟨g, m, none⟩) hgw _
      have HO2 := Lib.hid hO2
      have HB2 := Lib.hid hB2
      rw [← hw2]
      clear hw2 hcl2 ho1 ho2 hO2 hB2 had
      go_wp2
      go_roundw
      case rel =>
        obtain ⟨d1, d2, d3, d4⟩ := HD.out
        obtain ⟨t1, t2, t3⟩ := HST.out
        have hq : ((f : Int) + (x : Int) / 2) = ((x / 2 + f : Nat) : Int) := by omega
        have ho := HO2.out
        rw [set_zeros, hq] at ho
        refine ⟨m, ((x / 2 + f : Nat) : Int) :: ts, x % 2 * 9223372036854775808, by omega, rfl, ?_, ?_, ?_, ?_, ?_, ho, HB2.out⟩
        · congr 1
          rw [IntKind.wrap_u64]
          omega
        · rw [d1, ← t3]
        · simp [d3]; omega
        · intro j hj
          rcases j with _ | j
          · simp; omega
          · have := d4 j (by simpa using hj)
            simpa using this
        · rw [val_cons, Int.toNat_natCast, d2, d1, t1]
      case measure => simp [intOf]

set_option maxHeartbeats 1000000 in
set_option maxRecDepth 100000 in
theorem right02_calls (v : Value) (xs : List Int) (w : World) (hr : SI w .u64 v xs) (hu : U64 xs) (hn : xs.length ≤ 5000) (h0 : 0 < xs.length) :
    Calls Tryz.prog 16 #[v, .int .i64 1] w (RetSI w (wordsOf (val 18446744073709551616 xs / 2))) := by
  obtain ⟨A, c, rfl, hc, _⟩ := hr.form
  have HR := Lib.hid hr
  have HU := Lib.hid hu
  clear hr hu
  have hm : Int.tmod 1 64 = 1 := by decide
  have hq : Int.tdiv 1 64 = 0 := by decide
  have hne : xs ≠ [] := List.length_pos_iff.1 h0
  go_enter Tryz.func16, Tryz.ntmps16
  go_upto_region 4 with (go_at_call 46; refine (right01_calls _ xs _ HR.out HU.out hn).mono ?_; rintro e w1 ⟨v1, q, zs, rfl, h1, h2, h3, h4, h5⟩; have G1 := Lib.hid (And.intro h1 (And.intro h2 (And.intro h3 (And.intro h4 h5)))); clear h1 h2 h3 h4 h5)
  obtain ⟨g1, g2, g3, g4, g5⟩ := G1.out
  have HT := Lib.hid (trim02_calls v1 zs w1 g1 g2 (by rw [g3]; omega))
  rw [g4] at HT
  clear g1 g2 g3 g4 g5
  go_wp2_with (go_at_call 45; refine HT.out.mono ?_; rintro e w5 ⟨v5, rfl, h1, h2⟩; have O5 := Lib.hid h1.si; have B5 := Lib.hid h2; clear h1 h2)
  go_ret
  exact ⟨_, rfl, O5.out, bnx3 G1.out.2.2.2.2 B5.out⟩
end Go.Proofs.YtlmbklpidmkdcaaGreatDoor
