/- words.more, words.MulWord. -/
import Derived.Test.YtmbceiaeffnigaaGreatDoorH3
namespace Go.Proofs.YtmbceiaeffnigaaGreatDoor
open Go.RowKit

set_option maxHeartbeats 1000000 in
set_option maxRecDepth 100000 in
/-- A product of two words and a word more. -/
theorem moreW_calls (x p c s q : Nat) (w : World) (hx : x < 18446744073709551616) (hp : p < 18446744073709551616) (hc : c < 18446744073709551616) (hs : s < 18446744073709551616) (hq : s + 18446744073709551616 * q = x * p + c) :
    Calls Tryz.prog 149 #[.int .u64 (x : Int), .int .u64 (p : Int), .int .u64 (c : Int), .int .u64 0] w (RetB w (.agg #[.int .u64 (s : Int), .int .u64 (q : Int)])) := by
  have hst := more_step x p c hx hp hc
  obtain ⟨hi, hhi⟩ : ∃ hi, hi = x * p / 18446744073709551616 := ⟨_, rfl⟩
  obtain ⟨lo, hlo⟩ : ∃ lo, lo = x * p % 18446744073709551616 := ⟨_, rfl⟩
  rw [← hhi, ← hlo] at hst
  obtain ⟨s1, hs1⟩ : ∃ s1, s1 = (lo + c + 0) % 18446744073709551616 := ⟨_, rfl⟩
  obtain ⟨c1, hc1⟩ : ∃ c1, c1 = (lo + c + 0) / 18446744073709551616 := ⟨_, rfl⟩
  rw [← hs1, ← hc1] at hst
  obtain ⟨g1, g2⟩ := hst
  have hsl : s1 < 18446744073709551616 := by rw [hs1]; exact Nat.mod_lt _ (by omega)
  have hq1 : s1 = s := by omega
  have hq2 : hi + c1 = q := by omega
  subst hq1
  have hadd := fun w => add64_law lo c w
  simp only [← hs1, ← hc1] at hadd
  have hadd2 := fun w => add64_law s1 0 w
  rw [show (s1 + 0 + 0) % 18446744073709551616 = s1 by omega, show (s1 + 0 + 0) / 18446744073709551616 = 0 by omega] at hadd2
  have hadd3 : ∀ w, (callFunc 101 #[.int .u64 (s1 : Int), .int .u64 0, .int .u64 0]).run Tryz.prog w = .ok (.value (.tuple #[.int .u64 (s1 : Int), .int .u64 0])) w := hadd2
  have hwr : IntKind.u64.wrap ((hi : Int) + (c1 : Int)) = (q : Int) := by
    rw [← Int.natCast_add, hq2]
    exact wrap_u64 _ (by omega) (by omega)
  have hwr2 : IntKind.u64.wrap (q : Int) = (q : Int) := wrap_u64 _ (by omega) (by omega)
  have HM := Lib.hid (Tryz.bits_Mul64 x p hx hp)
  have HH := Lib.hid (And.intro hhi hlo)
  clear hs1 hc1 g1 g2 hq hq2 hhi hlo hadd2 hs hsl hx hp hc
  go_enter Tryz.func149, Tryz.ntmps149
  go_upto_region 1 with (fail)
  obtain ⟨W0, hW0⟩ : ∃ W0, W0 = w.alloc (.cells #[.int .u64 0, .int .u64 0] 195) := ⟨_, rfl⟩
  have B0 : Below w.heap.size w W0 := by rw [hW0]; exact below_new _ _
  have c1 : W0.heap[w.heap.size]? = some (.cells #[.int .u64 0, .int .u64 0] 195) := by rw [hW0]; exact World.alloc_heap_new _ _
  have c2 := cells2 c1
  rw [← hW0]
  clear hW0
  obtain ⟨x1, x2, x3, x4⟩ := c2
  have HB := Lib.hid B0
  have HC := Lib.hid c1
  clear B0 c1
  go_wp2_with (first
    | (go_at_call 95; refine (HM.out _).mono ?_; rintro e w' ⟨rfl, rfl⟩; rw [← HH.out.1, ← HH.out.2])
    | simp only [hadd]
    | simp only [hadd3])
  obtain ⟨wf, hwf⟩ : ∃ wf, wf = (w'.setCell ⟨w.heap.size, 0, none⟩ (.int .u64 (s1 : Int))).setCell ⟨w.heap.size, 1, none⟩ (.int .u64 (q : Int)) := ⟨_, rfl⟩
  have hg : wf.heap[w.heap.size]? = some (.cells #[.int .u64 (s1 : Int), .int .u64 (q : Int)] 195 (0, 0)) := by rw [hwf]; exact heap_set2 _ _ _ _ _ _ _ HC.out
  have hBf : Below w.heap.size w wf := by rw [hwf]; exact (HB.out.setCell (p := ⟨w.heap.size, 0, none⟩) (by simp) _).setCell (p := ⟨w.heap.size, 1, none⟩) (by simp) _
  rw [← hwf]
  refine bodyPost_ret_by (results_cell_row rfl _ wf w.heap.size _ _ _ _ rfl hg Tryz.underlying195 rfl (by kernel_rfl)) rfl ?_
  exact ⟨rfl, hBf⟩

set_option maxHeartbeats 1000000 in
set_option maxRecDepth 100000 in
theorem mw1_calls (i x p c s q px pw : Nat) (A : Option Addr) (n cp : Nat) (xs : List Int) (w : World) (h1 : w.cell? ⟨px, 0, none⟩ = some (.slice A n cp)) (h2 : w.cell? ⟨pw, 0, none⟩ = some (.int .u64 (p : Int)))
    (hr : SI w .u64 (.slice A n cp) xs) (hi : i < xs.length) (hn : xs.length ≤ 100000) (hxi : xs[i]?.getD 0 = (x : Int)) (hx : x < 18446744073709551616) (hp : p < 18446744073709551616) (hc : c < 18446744073709551616) (hs : s < 18446744073709551616) (hq : s + 18446744073709551616 * q = x * p + c) :
    Calls Tryz.prog 148 #[.int .i64 (i : Int), .int .u64 (c : Int), .pointer (some ⟨px, 0, none⟩), .pointer (some ⟨pw, 0, none⟩)] w (RetB w (.agg #[.int .u64 (s : Int), .int .u64 (q : Int)])) := by
  obtain ⟨A', c', hv, hcc, hcell⟩ := hr.form
  injection hv with e1 e2 e3
  subst e1 e2 e3
  obtain ⟨ad, e, hcl⟩ := hcell i hi
  subst e
  rw [hxi] at hcl
  have HM := Lib.hid (fun w => moreW_calls x p c s q w hx hp hc hs hq)
  clear hr hcell hxi hx hp hc hs hq
  go_enter Tryz.func148, Tryz.ntmps148
  go_upto_region 1 with (fail)
  obtain ⟨W0, hW0⟩ : ∃ W0, W0 = w.alloc (.cells #[.int .u64 0, .int .u64 0] 195) := ⟨_, rfl⟩
  have B0 : Below w.heap.size w W0 := by rw [hW0]; exact below_new _ _
  have c1 : W0.heap[w.heap.size]? = some (.cells #[.int .u64 0, .int .u64 0] 195) := by rw [hW0]; exact World.alloc_heap_new _ _
  have y1 : W0.cell? ⟨px, 0, none⟩ = some (.slice (some ad) xs.length cp) := (B0.cell (World.block_lt_of_cell? w _ h1)).trans h1
  have y2 : W0.cell? ⟨pw, 0, none⟩ = some (.int .u64 (p : Int)) := (B0.cell (World.block_lt_of_cell? w _ h2)).trans h2
  have y3 : W0.cell? (ad.add i) = some (.int .u64 (x : Int)) := (B0.cell (World.block_lt_of_cell? w _ hcl)).trans hcl
  rw [← hW0]
  clear hW0 h1 h2 hcl
  have HB := Lib.hid B0
  have HC := Lib.hid c1
  have HLT := Lib.hid (Array.getElem?_eq_some_iff.1 c1).1
  clear B0 c1
  go_region_with (go_at_call 149; refine (HM.out _).mono ?_; rintro e w1 ⟨rfl, q1⟩; have z1 : w1.heap[w.heap.size]? = some (.cells #[.int .u64 0, .int .u64 0] 195) := (q1.block _ HLT.out).trans HC.out; obtain ⟨z3, z4, z5, z6⟩ := cells2 z1)
  all_goals
    have HQ1 := Lib.hid q1
    have HZ1 := Lib.hid z1
    clear q1 z1 z3 z4 z5 z6
    go_wp2
    obtain ⟨wf, hwf⟩ : ∃ wf, wf = (w1.setCell ⟨w.heap.size, 0, none⟩ (.int .u64 (s : Int))).setCell ⟨w.heap.size, 1, none⟩ (.int .u64 (q : Int)) := ⟨_, rfl⟩
    have hg : wf.heap[w.heap.size]? = some (.cells #[.int .u64 (s : Int), .int .u64 (q : Int)] 195 (0, 0)) := by rw [hwf]; exact heap_set2 _ _ _ _ _ _ _ HZ1.out
    have hB1 : Below w.heap.size w w1 := HB.out.trans ((show Below W0.heap.size W0 w1 from ⟨HQ1.out.os, HQ1.out.tape, HQ1.out.output, HQ1.out.size, HQ1.out.block⟩).mono HB.out.size)
    have hBf : Below w.heap.size w wf := by rw [hwf]; exact (hB1.setCell (p := ⟨w.heap.size, 0, none⟩) (by simp) _).setCell (p := ⟨w.heap.size, 1, none⟩) (by simp) _
    rw [← hwf]
    refine bodyPost_ret_by (results_cell_row rfl _ wf w.heap.size _ _ _ _ rfl hg Tryz.underlying195 rfl (by kernel_rfl)) rfl ?_
    exact ⟨rfl, hBf⟩

theorem SI.pair {w : World} {k : IntKind} {g : Nat} {a b : Int} (h : SI w k (.slice (some ⟨g, 0, none⟩) 2 2) [a, b]) : w.cell? ⟨g, 0, none⟩ = some (.int k a) ∧ w.cell? ⟨g, 1, none⟩ = some (.int k b) := by
  obtain ⟨A, c, hv, _, hr⟩ := h.form
  injection hv with e1
  subst e1
  obtain ⟨a1, e1, c1⟩ := hr 0 (by simp)
  obtain ⟨a2, e2, c2⟩ := hr 1 (by simp)
  injection e1 with e1
  injection e2 with e2
  subst e1 e2
  rw [add_plain] at c1 c2
  exact ⟨c1, c2⟩
/-- What the carrying row is: so many words, and the word above them. -/
structure CarryAt (xs ys : List Int) (p c0 k cy : Nat) : Prop where
  len : ys.length = k
  u64 : U64 ys
  cyl : cy < 18446744073709551616
  vv : val 18446744073709551616 ys + 18446744073709551616 ^ k * cy = val 18446744073709551616 (xs.take k) * p + c0
theorem CarryAt.start (xs : List Int) (p c0 : Nat) (h : c0 < 18446744073709551616) : CarryAt xs [] p c0 0 c0 := ⟨rfl, U64.nil, h, by rw [List.take_zero, val_nil, Nat.pow_zero, Nat.one_mul, Nat.zero_mul]⟩
theorem CarryAt.step {xs ys : List Int} {p c0 k cy x : Nat} (h : CarryAt xs ys p c0 k cy) (hk : k < xs.length) (hx : xs[k]?.getD 0 = (x : Int)) (hx1 : x < 18446744073709551616) (hp : p < 18446744073709551616) :
    ∃ s q : Nat, s < 18446744073709551616 ∧ s + 18446744073709551616 * q = x * p + cy ∧ CarryAt xs (ys ++ [(s : Int)]) p c0 (k + 1) q := by
  refine ⟨(x * p + cy) % 18446744073709551616, (x * p + cy) / 18446744073709551616, Nat.mod_lt _ (by omega), Nat.mod_add_div _ _, by simp [h.len], h.u64.app (U64.one (by omega) (by omega)), ?_, more_row h.len hk hx h.vv (Nat.mod_add_div _ _)⟩
  have h1 : x * p ≤ 18446744073709551615 * 18446744073709551615 := Nat.mul_le_mul (by omega) (by omega)
  have := h.cyl
  generalize x * p = z at *
  omega
theorem bnx2 {a c d : World} (h : Below a.heap.size a c) (k : Below c.heap.size c d) : Below a.heap.size a d := h.trans (k.mono h.size)
/-- A row of its own and the word above. -/
def RetCarry (w : World) (xs : List Int) (p c0 : Nat) (en : Ending) (w' : World) : Prop := ∃ (v : Value) (ys : List Int) (cy : Nat), en = .returned (.tuple #[v, .int .u64 (cy : Int)]) ∧ CarryAt xs ys p c0 xs.length cy ∧ Own w.heap.size 46 w' .u64 v ys ∧ Below w.heap.size w w'

set_option maxHeartbeats 1000000 in
set_option maxRecDepth 100000 in
theorem carryMul_calls (p c0 px pw : Nat) (A : Option Addr) (cp : Nat) (xs : List Int) (w : World) (h1 : w.cell? ⟨px, 0, none⟩ = some (.slice A xs.length cp)) (h2 : w.cell? ⟨pw, 0, none⟩ = some (.int .u64 (p : Int)))
    (hr : SI w .u64 (.slice A xs.length cp) xs) (hu : U64 xs) (hn : xs.length ≤ 100000) (hp : p < 18446744073709551616) (hc : c0 < 18446744073709551616) :
    Calls Tryz.prog 147 #[.slice A xs.length cp, .int .u64 (c0 : Int), .func (.func 148) #[] #[.pointer (some ⟨px, 0, none⟩), .pointer (some ⟨pw, 0, none⟩)]] w (RetCarry w xs p c0) := by
  have HR := Lib.hid hr
  have HU := Lib.hid hu
  have HX1 := Lib.hid h1
  have HX2 := Lib.hid h2
  have HPP := Lib.hid hp
  have l1 := World.block_lt_of_cell? w _ h1
  have l2 := World.block_lt_of_cell? w _ h2
  have HLL := Lib.hid (And.intro l1 l2)
  clear hr hu h1 h2 hp l1 l2
  go_enter Tryz.func147, Tryz.ntmps147
  go_wp2_with (at_make; refine wpList_mk0 (W0 := w) rfl _ _ 22 rfl w.heap.size 46 8 .u64 Tryz.underlying22 info64 _ _ xs.length _ rfl rfl rfl (by omega) (by omega) (Below.refl _ _) (Nat.le_refl _) ?_; intro v1 w1 h1 h2 h3; have H1 := Lib.hid h1; have H2 := Lib.hid h2; clear h1 h2 h3)
  go_loopw [1, 8, 16] (fun cv o i wr => ∃ (k cy : Nat) (ys : List Int), k ≤ xs.length ∧ i = .int .i64 (k : Int) ∧ cv = .int .u64 (cy : Int) ∧ CarryAt xs ys p c0 k cy ∧ Own w.heap.size 46 wr .u64 o ys ∧ Below w.heap.size w wr) (fun cv o i _ => xs.length - (intOf i).toNat)
  case atStart => exact ⟨0, c0, [], Nat.zero_le _, rfl, rfl, CarryAt.start xs p c0 hc, H1.out, H2.out⟩
  case round =>
    obtain ⟨k, cy, ys, hk, rfl, rfl, hca, ho, hB⟩ := hrel
    have HCA := Lib.hid hca
    have HO := Lib.hid ho
    have HB := Lib.hid hB
    clear hca ho hB
    by_cases hlt : k < xs.length
    · have hx := HU.out.at k
      obtain ⟨x, hxx⟩ : ∃ x : Nat, xs[k]?.getD 0 = (x : Int) := ⟨(xs[k]?.getD 0).toNat, by omega⟩
      obtain ⟨s, q, hs, hsq, hnx⟩ := HCA.out.step hlt hxx (by omega) HPP.out
      have HM := Lib.hid (mw1_calls k x p cy s q px pw A xs.length cp xs wr ((HB.out.cell HLL.out.1).trans HX1.out) ((HB.out.cell HLL.out.2).trans HX2.out) (HR.out.below HB.out) hlt hn hxx (by omega) HPP.out HCA.out.cyl hs hsq)
      have HNX := Lib.hid hnx
      have HSQ := Lib.hid hs
      clear hx hxx hs hsq hnx
      go_upto_region 6 with (first
        | (go_at_call 148; refine HM.out.mono ?_; rintro e w2 ⟨rfl, q1⟩; have B2 := Lib.hid q1; clear q1))
      have SG := SI.two w2 .u64 (s : Int) (q : Int) 195
      have O2 := HO.out.below B2.out
      have hap : Apart u8 (.slice (some ⟨w2.heap.size, 0, none⟩) 2 2) [(s : Int), (q : Int)] := .inr fun e1 => by
        have h1 := (World.ownsRow.lt O2 w2.heap.size e1.symm).2
        omega
      have BP := (bnx2 HB.out B2.out).alloc (bnx2 HB.out B2.out).size (.cells #[.int .u64 (s : Int), .int .u64 (q : Int)] 195)
      obtain ⟨G, hG⟩ : ∃ G, G = w2.heap.size := ⟨_, rfl⟩
      have OP := Own.alloc O2 (.cells #[.int .u64 (s : Int), .int .u64 (q : Int)] 195)
      obtain ⟨wp, hwp⟩ : ∃ wp, wp = w2.alloc (.cells #[.int .u64 (s : Int), .int .u64 (q : Int)] 195) := ⟨_, rfl⟩
      rw [← hG] at SG hap ⊢
      rw [← hwp] at SG BP OP ⊢
      obtain ⟨x0, x1⟩ := SG.pair
      have HSG := Lib.hid SG
      have HAP := Lib.hid hap
      have HBP := Lib.hid BP
      have HOP := Lib.hid OP
      have HYL : Hid (ys.length = k) := HCA.out.len
      have x7 : (wp.alloc (.cells #[.int .u64 (s : Int)] 46)).cell? ⟨G, 1, none⟩ = some (.int .u64 (q : Int)) := (HSG.out.alloc _).pair.2
      clear SG O2 hap BP OP hG hwp
      go_region_law (refine step_app (W0 := w) rfl (.tmp 23) (.tmp 26) 22 rfl w.heap.size 46 8 .u64 Tryz.underlying22 info64 _ (.slice (some ⟨wp.heap.size, 0, none⟩) 1 1) ys [_] rfl rfl (Own.alloc HOP.out _) (SI.drew (SI.one wp .u64 _ 46)) (by rw [HYL.out]; simp only [List.length_cons, List.length_nil]; omega) (by omega) (HBP.out.alloc HBP.out.size _).drew (by have := HBP.out.size; simp; omega) ?_; intro v' w3 h1 h2 h3 h4; obtain ⟨x5, x6⟩ := (h3 .u64 (.slice (some ⟨G, 0, none⟩) 2 2) [(s : Int), (q : Int)] (SI.drew (SI.alloc HSG.out _)) HAP.out).1.pair; clear h3 h4)
      all_goals
        have G1 := Lib.hid h1
        have G2 := Lib.hid h2
        clear h1 h2 x5 x6
        go_wp2
        go_roundw
        case rel => exact ⟨k + 1, q, _, by omega, by go_num, rfl, HNX.out, G1.out, G2.out⟩
        case measure => simp [intOf]; omega
    · obtain rfl : k = xs.length := by omega
      go_wp2
      go_ret2
      exact ⟨_, ys, cy, rfl, HCA.out, HO.out, HB.out⟩

/-- The row, the word above, and no error. -/
def RetMulW (w : World) (xs : List Int) (p c0 : Nat) (en : Ending) (w' : World) : Prop := ∃ (v : Value) (ys : List Int) (cy : Nat), en = .returned (.tuple #[v, .int .u64 (cy : Int), .int .i64 0]) ∧ CarryAt xs ys p c0 xs.length cy ∧ Own w.heap.size 46 w' .u64 v ys ∧ Below w.heap.size w w'
set_option maxHeartbeats 1000000 in
set_option maxRecDepth 100000 in
theorem mulword_calls (p c0 : Nat) (v : Value) (xs : List Int) (w : World) (hr : SI w .u64 v xs) (hu : U64 xs) (hn : xs.length ≤ 4096) (hp : p < 18446744073709551616) (hc : c0 < 18446744073709551616) :
    Calls Tryz.prog 144 #[v, .int .u64 (p : Int), .int .u64 (c0 : Int)] w (RetMulW w xs p c0) := by
  obtain ⟨A, cp, rfl, hcc, _⟩ := hr.form
  have HR := Lib.hid hr
  have HU := Lib.hid hu
  have HPC := Lib.hid (And.intro hp hc)
  clear hr hu hp hc
  go_enter Tryz.func144, Tryz.ntmps144
  go_upto_region 1 with (fail)
  obtain ⟨w0, hw0⟩ : ∃ w0, w0 = (w.alloc (.cells #[.slice A xs.length cp] 22)).alloc (.cells #[.int .u64 (p : Int)] 46) := ⟨_, rfl⟩
  have c4 : w0.cell? ⟨w.heap.size, 0, none⟩ = some (.slice A xs.length cp) := by rw [hw0]; simp [go_sem]
  have c5 : w0.cell? ⟨w.heap.size + 1, 0, none⟩ = some (.int .u64 (p : Int)) := by rw [hw0]; simp [go_sem]
  have c8 : Below w.heap.size w w0 := by rw [hw0]; exact (below_new _ _).trans ((below_new _ _).mono (by simp))
  rw [← hw0]
  clear hw0
  obtain ⟨w1, hw1⟩ : ∃ w1, w1 = w0.alloc (.cells #[.slice A xs.length cp] 22) := ⟨_, rfl⟩
  have hfew : Few w1 (some ⟨w0.heap.size, 0, none⟩) 1 := by rw [hw1]; exact few_one _ _ _ _ _ hn
  have hcall := fewW_calls (some ⟨w0.heap.size, 0, none⟩) 1 1 w1 hfew (by omega)
  have B1 : Below w.heap.size w w1 := by rw [hw1]; exact bnx2 c8 (below_new _ _)
  have b4 : w1.cell? ⟨w.heap.size, 0, none⟩ = some (.slice A xs.length cp) := by rw [hw1]; exact ((below_new _ _).cell (World.block_lt_of_cell? w0 _ c4)).trans c4
  have b5 : w1.cell? ⟨w.heap.size + 1, 0, none⟩ = some (.int .u64 (p : Int)) := by rw [hw1]; exact ((below_new _ _).cell (World.block_lt_of_cell? w0 _ c5)).trans c5
  have HW1 := Lib.hid hw1
  have HB1 := Lib.hid B1
  have HM := Lib.hid (carryMul_calls p c0 w.heap.size (w.heap.size + 1) A cp xs w1 b4 b5 (HR.out.below B1) HU.out (by omega) HPC.out.1 HPC.out.2)
  have HF := Lib.hid hcall
  rw [hw1] at HF
  clear hw1 hfew hcall B1 c5 c8 b5
  go_wp2_with (first
    | (go_at_call 120; refine HF.out.mono ?_; rintro e w' ⟨rfl, rfl⟩; rw [← HW1.out])
    | (go_at_call 147; refine HM.out.mono ?_; rintro e w2 ⟨v, ys, cy, rfl, q1, q2, q3⟩; have G1 := Lib.hid (And.intro q1 (And.intro q2 q3)); clear q1 q2 q3))
  go_ret3
  exact ⟨v, ys, cy, rfl, G1.out.1, G1.out.2.1.base HB1.out.size, bnx2 HB1.out G1.out.2.2⟩
end Go.Proofs.YtmbceiaeffnigaaGreatDoor
