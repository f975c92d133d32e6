/- nat.mul: the walk. -/
import Derived.Test.YtmbceiaeffnigaaGreatDoorK5
namespace Go.Proofs.YtmbceiaeffnigaaGreatDoor
open Go.RowKit Go.Shelf
attribute [local go_sem] Oper.semAt_some wide_fn wide_depth

/-- A sum of two words and a carry. -/
theorem add64c (x y c : Nat) (hx : x < 18446744073709551616) (hy : y < 18446744073709551616) (hc : c ≤ 1) : ∃ s q : Nat, s < 18446744073709551616 ∧ q ≤ 1 ∧ s + 18446744073709551616 * q = x + y + c ∧
    ∀ w, (callFunc 101 #[.int .u64 (x : Int), .int .u64 (y : Int), .int .u64 (c : Int)]).run Tryz.prog w = .ok (.value (.tuple #[.int .u64 (s : Int), .int .u64 (q : Int)])) w := by
  refine ⟨(x + y + c) % 18446744073709551616, (x + y + c) / 18446744073709551616, by omega, by omega, by omega, fun w => ?_⟩
  have h := run_add64 (P := Tryz.prog) (w := w) x y c (by omega) (by omega) (by omega) (by omega)
  rw [run_callFunc_extern Tryz.func101 (by kernel_rfl) (by kernel_rfl) (by kernel_rfl) (e := add64Entry) (by kernel_rfl)]
  rw [h]
  simp only [Result.andThen]
  congr 5 <;> omega

set_option maxHeartbeats 1000000 in
set_option maxRecDepth 100000 in
theorem natmul_calls (u v : Value) (xs0 ys0 : List Int) (w : World) (hr : SI w .u64 u xs0) (hs : SI w .u64 v ys0) (hux : U64 xs0) (huy : U64 ys0) (hx : xs0.length ≤ 2000) (hy : ys0.length ≤ 2000) :
    Calls Tryz.prog 116 #[u, v] w (RetSI w (wordsOf (val 18446744073709551616 xs0 * val 18446744073709551616 ys0))) := by
  obtain ⟨Ax, cx, rfl, _, _⟩ := hr.form
  obtain ⟨Ay, cy, rfl, _, _⟩ := hs.form
  have HTX := Lib.hid (trim_calls Ax xs0.length cx xs0 w hr (by omega))
  have HTY := Lib.hid (trim_calls Ay ys0.length cy ys0 w hs (by omega))
  have hlx := cut_length xs0
  have hly := cut_length ys0
  have hx1 := tlen_le xs0 xs0.length
  have hy1 := tlen_le ys0 ys0.length
  have hsx := si_cut hr
  have hsy := si_cut hs
  have hcx : U64 (cut xs0) := hux.take _
  have hcy : U64 (cut ys0) := huy.take _
  rw [← cut_val 18446744073709551616 xs0, ← cut_val 18446744073709551616 ys0]
  rw [← hlx] at HTX hsx
  rw [← hly] at HTY hsy
  generalize cut xs0 = xs at *
  generalize cut ys0 = ys at *
  have hx2 : xs.length ≤ 2000 := by omega
  have hy2 : ys.length ≤ 2000 := by omega
  have HRX := Lib.hid hsx
  have HRY := Lib.hid hsy
  have HUX := Lib.hid hcx
  have HUY := Lib.hid hcy
  clear hr hs hux huy hlx hly hx1 hy1 hsx hsy hcx hcy
  refine (callsIn_wide (n := 1)).1 ?_
  refine callsIn_of_wp_marks Tryz.func116 rfl trivial ?_ rfl
  simp only [Tryz.ntmps116, List.size_toArray, List.length_cons, List.length_nil, Nat.reduceAdd, Nat.reduceSub, Array.replicate_succ, Array.replicate_zero, List.push_toArray, List.append_toArray, List.nil_append, List.cons_append]
  refine wpIn_wide.2 ?_
  go_upto_region 3 with (first
    | (go_at_call 97; refine HTX.out.mono ?_; clear HTX; rintro e w' ⟨rfl, rfl⟩)
    | (go_at_call 97; refine HTY.out.mono ?_; rintro e w' ⟨rfl, rfl⟩)
    | (at_make; refine wpList_mk (W0 := w) rfl _ _ 23 rfl w.heap.size 46 8 .u64 Tryz.underlying23 info64 _ _ (xs.length + ys.length) _ _ rfl rfl (by omega) (by omega) (by omega) (by omega) (Below.refl _ _) (Nat.le_refl _) ?_; intro g w1 h1 hg h2 h3 h4 h5; have O1 := Lib.hid h1; have B1 := Lib.hid h3; have HG := Lib.hid hg; clear h1 hg h2 h3 h4 h5))
  obtain ⟨w2, hw2⟩ : ∃ w2, w2 = w1.alloc (.cells #[.slice (some ⟨g, 0, none⟩) (xs.length + ys.length) (xs.length + ys.length)] 23) := ⟨_, rfl⟩
  have b2 : Below w1.heap.size w1 w2 := by rw [hw2]; exact below_new _ _
  have c2 : w2.cell? ⟨w1.heap.size, 0, none⟩ = some (.slice (some ⟨g, 0, none⟩) (xs.length + ys.length) (xs.length + ys.length)) := by rw [hw2]; simp [go_sem]
  have z2 : w2.heap.size = w1.heap.size + 1 := by rw [hw2]; simp
  rw [← hw2]
  clear hw2
  have HB2 := Lib.hid (bnx2 B1.out b2)
  have HO2 := Lib.hid (O1.out.below b2)
  have HC2 := Lib.hid c2
  have HZ2 := Lib.hid z2
  have hgl := (World.ownsRow.lt O1.out g rfl).2
  have HGL := Lib.hid hgl
  have HRC := Lib.hid (rows_calls Ax Ay xs.length ys.length cx cy w2)
  clear b2 c2 z2 hgl
  go_wp2_with (go_at_call 135; refine HRC.out.mono ?_; rintro e w' ⟨rfl, rfl⟩)
  obtain ⟨w5, hw5⟩ : ∃ w5, w5 = (w2.alloc (.cells #[.slice Ax xs.length cx] 23)).alloc (.cells #[.slice Ay ys.length cy] 23) := ⟨_, rfl⟩
  have b5 : Below w2.heap.size w2 w5 := by rw [hw5]; exact bnx2 (below_new _ _) (below_new _ _)
  have x5 : w5.cell? ⟨w2.heap.size, 0, none⟩ = some (.slice Ax xs.length cx) := by rw [hw5]; simp [go_sem]
  have y5 : w5.cell? ⟨w2.heap.size + 1, 0, none⟩ = some (.slice Ay ys.length cy) := by rw [hw5]; simp [go_sem]
  rw [← hw5]
  have z5 : w5.heap.size = w2.heap.size + 2 := by rw [hw5]; simp
  clear hw5
  have hB5 := bnx2 HB2.out b5
  have hO5 := HO2.out.below b5
  have hC5 := (b5.cell (World.block_lt_of_cell? w2 _ HC2.out)).trans HC2.out
  have hS5 : RowsS (w2.heap.size + 1) w2.heap.size Ay Ax cy cx xs ys w5 := ⟨y5, x5, HRY.out.below hB5, HRX.out.below hB5⟩
  have HIT := Lib.hid (rows1_iter (w2.heap.size + 1) w2.heap.size Ay Ax cy cx xs ys w.heap.size w5 hS5 HUX.out HUY.out (by omega) (by omega) hB5.size)
  obtain ⟨o5, ho5⟩ : ∃ o5, o5 = w1.heap.size := ⟨_, rfl⟩
  rw [← ho5] at hC5 ⊢
  have hz := HZ2.out
  rw [← ho5] at hz
  have hgl := HGL.out
  rw [← ho5] at hgl
  obtain ⟨n2, hn2⟩ : ∃ n2, n2 = w2.heap.size := ⟨_, rfl⟩
  rw [← hn2] at HIT z5 hz ⊢
  obtain ⟨LL, hLL⟩ : ∃ LL, LL = xs.length + ys.length := ⟨_, rfl⟩
  have hAx : xs ≠ [] → ∀ i, (Value.slice Ax 0 0).ownBlock = some i → i < w.heap.size := fun hne i hi => by
    obtain ⟨g', e, hlt⟩ := HRX.out.block hne
    have : some g' = some i := by rw [← e, ← hi]; cases Ax <;> rfl
    injection this with this
    omega
  have hAy : ys ≠ [] → ∀ i, (Value.slice Ay 0 0).ownBlock = some i → i < w.heap.size := fun hne i hi => by
    obtain ⟨g', e, hlt⟩ := HRY.out.block hne
    have : some g' = some i := by rw [← e, ← hi]; cases Ay <;> rfl
    injection this with this
    omega
  have hws : w.heap.size ≤ o5 := by rw [ho5]; exact B1.out.size
  have hgw := HG.out
  clear hn2 ho5 hS5 x5 y5 b5 HRC
  refine (wpIn_wide (n := 0)).1 (wpIn_rangeR (gf := 143) (lb := #[.pointer (some ⟨n2 + 1, 0, none⟩), .pointer (some ⟨n2, 0, none⟩)]) rfl (enters_of Tryz.func143 (by kernel_rfl) rfl) HIT.out (by intro x; rfl) hB5.size RowAt.putObj
    (fun k C W => ∃ out, k ≤ ys.length ∧ MulAt xs ys out k ∧ Own w.heap.size 46 W .u64 (.slice (some ⟨g, 0, none⟩) (xs.length + ys.length) (xs.length + ys.length)) out ∧ W.cell? ⟨o5, 0, none⟩ = some (.slice (some ⟨g, 0, none⟩) (xs.length + ys.length) (xs.length + ys.length)) ∧ Below w.heap.size w W ∧ (∀ i, C i ↔ i = o5 ∨ i = g))
    (fun i => i = o5 ∨ i = g) ?lt ?step ?start ?sep ?foot (fun x => { tmps := #[.slice Ax xs.length cx, .slice Ay ys.length cy, undef, undef, .slice none 0 0, .pointer (some ⟨o5, 0, none⟩), .int .i64 (x.1 : Int), x.2, undef, undef, undef,
      .slice Ax xs0.length cx, .slice Ax xs.length cx, .slice Ay ys0.length cy, .slice Ay ys.length cy, .slice Ax xs.length cx, .int .i64 (xs.length : Int), .slice Ay ys.length cy, .int .i64 (ys.length : Int), .int .i64 ((xs.length : Int) + (ys.length : Int)),
      .slice (some ⟨g, 0, none⟩) (xs.length + ys.length) (xs.length + ys.length), .slice Ax xs.length cx, .slice Ay ys.length cy, .func (.func 143) #[] #[.pointer (some ⟨n2 + 1, 0, none⟩), .pointer (some ⟨n2, 0, none⟩)],
      .int .i64 (x.1 : Int), x.2, undef, undef, undef, undef, undef, undef, undef, undef, undef, undef, undef, undef, undef, undef, undef, undef, undef, undef, undef, undef, undef, undef, undef, undef, undef, undef, undef], defers := [] }) ?assign ?body ?done)
  case lt =>
    rintro k C W ⟨out, g1, g2, g3, g4, g5, g6⟩ i hi
    have := World.block_lt_of_cell? W _ g4
    have := (World.ownsRow.lt g3 g rfl).2
    rcases (g6 i).1 hi with rfl | rfl <;> assumption
  case step =>
    rintro k C W W' ⟨out, g1, g2, g3, g4, g5, g6⟩ hB hs
    exact ⟨out, g1, g2, g3.foot (fun g' e => by injection e with e; subst e; exact hs _ ((g6 _).2 (.inr rfl))), cell_foot g4 (hs _ ((g6 _).2 (.inl rfl))), g5.trans hB, g6⟩
  case start => exact ⟨_, Nat.zero_le _, MulAt.start xs ys, hO5, hC5, hB5, fun i => Iff.rfl⟩
  case sep =>
    rintro i hi (h | h | ⟨hne, h⟩ | ⟨hne, h⟩)
    · omega
    · omega
    · have := hAy hne i h; omega
    · have := hAx hne i h; omega
  case foot =>
    rintro i (h | h | ⟨hne, h⟩ | ⟨hne, h⟩)
    · omega
    · omega
    · have := hAy hne i h; have := hB5.size; omega
    · have := hAx hne i h; have := hB5.size; omega
  case assign =>
    clear hz z5 hLL
    intro l x W K hK
    gi_wp2
    exact hK
  case body =>
    have HLT5 := Lib.hid (And.intro hz (And.intro hgl (And.intro hws hgw)))
    have HZ5 := Lib.hid z5
    clear hz z5 hLL hO5 hC5 hB5 HIT hAx hAy HTY
    rintro l k hk x C W ⟨hxk, hbl, row, hrs, hru, hrl, hrv⟩ ⟨out, g1, g2, g3, g4, g5, g6⟩
    obtain ⟨A6, c6, hv6, _, hcell6⟩ := hrs.form
    obtain ⟨xk, xv⟩ := x
    dsimp only at hxk hv6 hrs hbl ⊢
    subst hxk hv6
    have HAP : Hid (∀ a6, A6 = some a6 → a6.block ≠ g) := fun a6 e6 e7 => by
      have h1 := hbl g (by rw [e6, ← e7]; rfl)
      have h2 := HZ5.out
      have h3 := HLT5.out
      omega
    have HROW := Lib.hid (And.intro hru (And.intro hrl hrv))
    have HC6 := Lib.hid hcell6
    have HMA := Lib.hid g2
    have HO3 := Lib.hid g3
    have HB5 := Lib.hid g5
    have HC4 := Lib.hid g4
    have HCC := Lib.hid g6
    have hms := AddIn.start row xk g2.len g2.u64
    have HMS := Lib.hid hms
    have HRS := Lib.hid hrs
    clear hrs hru hrl hrv g2 g3 g4 g5 g6 hcell6 hms hbl
    gi_wp2
    gi_loopw [8, 28] (fun cv iv wr => ∃ (j c : Nat) (o2 : List Int), j ≤ xs.length + 1 ∧ iv = .int .i64 (j : Int) ∧ cv = .int .u64 (c : Int) ∧ AddIn out o2 row (xs.length + ys.length) xk j c ∧ Own w.heap.size 46 wr .u64 (.slice (some ⟨g, 0, none⟩) (xs.length + ys.length) (xs.length + ys.length)) o2 ∧ wr.cell? ⟨o5, 0, none⟩ = some (.slice (some ⟨g, 0, none⟩) (xs.length + ys.length) (xs.length + ys.length)) ∧ SI wr .u64 (.slice A6 row.length c6) row ∧ Below w.heap.size W wr ∧ (∀ i, i ≠ g → i < W.heap.size → wr.heap[i]? = W.heap[i]?)) (fun cv iv wr => xs.length + 1 - (intOf iv).toNat)
    case atStart => exact ⟨0, 0, out, Nat.zero_le _, rfl, rfl, HMS.out, HO3.out, HC4.out, HRS.out, Below.refl _ _, fun _ _ _ => rfl⟩
    case round =>
      obtain ⟨j, c, o2, hj, rfl, rfl, ha, ho, hc4, hrw, hBW, hsm⟩ := hrel
      by_cases hjn : j < xs.length + 1
      · obtain ⟨A7, c7, hv7, _, hcell7⟩ := hrw.form
        have hjr : j < row.length := by rw [HROW.out.2.1]; exact hjn
        obtain ⟨ad, e, hcl⟩ := hcell7 j hjr
        have hA7 : A6 = A7 := by injection hv7
        subst hA7
        subst e
        obtain ⟨ho1, ho2⟩ := ho.cellAt (xk + j) (by rw [ha.len]; omega)
        have hor := ha.u64.at (xk + j)
        have hrr := HROW.out.1.at j
        obtain ⟨o, hoo⟩ : ∃ o : Nat, o2[xk + j]?.getD 0 = (o : Int) := ⟨(o2[xk + j]?.getD 0).toNat, by omega⟩
        obtain ⟨r, hr7⟩ : ∃ r : Nat, row[j]?.getD 0 = (r : Int) := ⟨(row[j]?.getD 0).toNat, by omega⟩
        rw [hoo] at ho1 hor
        rw [hr7] at hcl hrr
        have HOO := Lib.hid (And.intro hoo (And.intro hr7 (And.intro hor hrr)))
        have HA7 := Lib.hid ha
        have HO7 := Lib.hid ho
        have HR7 := Lib.hid hrw
        have HB7 := Lib.hid (And.intro hBW hsm)
        clear hcell7 hv7 hoo hr7 hor hrr ha ho hrw hBW hsm
        obtain ⟨s, q, hs, hq, hsq, hadd⟩ := add64c o r c (by have := HOO.out.2.2.1; omega) (by have := HOO.out.2.2.2; omega) HA7.out.cl
        have HSQ := Lib.hid (And.intro hs (And.intro hq hsq))
        clear hs hq hsq
        have hij : xk + j < xs.length + ys.length := by omega
        have hwr : IntKind.i64.wrap ((xk : Int) + (j : Int)) = (xk : Int) + (j : Int) := by rw [← Int.natCast_add]; exact IntWalk.i64_in _ (by omega)
        have hix : (0 : Int) ≤ (xk : Int) + (j : Int) ∧ (xk : Int) + (j : Int) < (xs.length : Int) + (ys.length : Int) := by omega
        have hxn : ((xk : Int) + (j : Int)).toNat = xk + j := by omega
        have HIX := Lib.hid (And.intro hix hxn)
        clear hix hxn
        gi_upto_region 10 with (fail)
        refine wpIn_region_held l (fun w' => w'.cell? ⟨o5, 0, none⟩ = some (.slice (some ⟨g, 0, none⟩) (xs.length + ys.length) (xs.length + ys.length))) (by kernel_rfl) (by kernel_rfl) (by rintro ⟨a, w', h⟩; exact h) hc4 (fun hS => ?_)
        refine held_take 0 (.slice (some ⟨g, 0, none⟩) (xs.length + ys.length) (xs.length + ys.length)) rfl (by kernel_rfl) (by kernel_rfl) (by kernel_rfl) (fun _ _ _ h => h) (by rfl) (fun w' hSw => by (try dsimp only at hSw); go_simp) hS ?_
        (try simp only [Act.put, List.setIfInBounds_toArray, List.set_cons_zero, List.set_cons_succ])
        refine held_take 1 (.int .i64 (xk : Int)) rfl (by kernel_rfl) (by kernel_rfl) (by kernel_rfl) (fun _ _ _ h => h) (by rfl) (fun w' hSw => by (try dsimp only at hSw); go_simp) hS ?_
        (try simp only [Act.put, List.setIfInBounds_toArray, List.set_cons_zero, List.set_cons_succ])
        refine held_take 2 (.int .i64 (j : Int)) rfl (by kernel_rfl) (by kernel_rfl) (by kernel_rfl) (fun _ _ _ h => h) (by rfl) (fun w' hSw => by (try dsimp only at hSw); go_simp) hS ?_
        (try simp only [Act.put, List.setIfInBounds_toArray, List.set_cons_zero, List.set_cons_succ])
        refine held_take 3 (.int .i64 ((xk : Int) + (j : Int))) rfl (by kernel_rfl) (by kernel_rfl) (by kernel_rfl) (fun _ _ _ h => h) (by rfl) (fun w' hSw => by (try dsimp only at hSw); go_simp) hS ?_
        (try simp only [Act.put, List.setIfInBounds_toArray, List.set_cons_zero, List.set_cons_succ])
        refine held_take 4 (.slice (some ⟨g, 0, none⟩) (xs.length + ys.length) (xs.length + ys.length)) rfl (by kernel_rfl) (by kernel_rfl) (by kernel_rfl) (fun _ _ _ h => h) (by rfl) (fun w' hSw => by (try dsimp only at hSw); go_simp) hS ?_
        (try simp only [Act.put, List.setIfInBounds_toArray, List.set_cons_zero, List.set_cons_succ])
        refine held_take 5 (.int .i64 (xk : Int)) rfl (by kernel_rfl) (by kernel_rfl) (by kernel_rfl) (fun _ _ _ h => h) (by rfl) (fun w' hSw => by (try dsimp only at hSw); go_simp) hS ?_
        (try simp only [Act.put, List.setIfInBounds_toArray, List.set_cons_zero, List.set_cons_succ])
        refine held_take 6 (.int .i64 (j : Int)) rfl (by kernel_rfl) (by kernel_rfl) (by kernel_rfl) (fun _ _ _ h => h) (by rfl) (fun w' hSw => by (try dsimp only at hSw); go_simp) hS ?_
        (try simp only [Act.put, List.setIfInBounds_toArray, List.set_cons_zero, List.set_cons_succ])
        refine held_take 7 (.int .i64 ((xk : Int) + (j : Int))) rfl (by kernel_rfl) (by kernel_rfl) (by kernel_rfl) (fun _ _ _ h => h) (by rfl) (fun w' hSw => by (try dsimp only at hSw); go_simp) hS ?_
        (try simp only [Act.put, List.setIfInBounds_toArray, List.set_cons_zero, List.set_cons_succ])
        refine held_take 8 (.pointer (some ⟨g, xk + j, none⟩)) rfl (by kernel_rfl) (by kernel_rfl) (by kernel_rfl) (fun _ _ _ h => h) (by rfl) (fun w' hSw => by (try dsimp only at hSw); go_simp; rw [if_pos HIX.out.1, HIX.out.2]) hS ?_
        (try simp only [Act.put, List.setIfInBounds_toArray, List.set_cons_zero, List.set_cons_succ])
        refine held_take 10 (.int .u64 (r : Int)) rfl (by kernel_rfl) (by kernel_rfl) (by kernel_rfl) (fun _ _ _ h => h) (by rfl) (fun w' hSw => by (try dsimp only at hSw); go_simp) hS ?_
        (try simp only [Act.put, List.setIfInBounds_toArray, List.set_cons_zero, List.set_cons_succ])
        refine held_take 11 (.int .u64 (c : Int)) rfl (by kernel_rfl) (by kernel_rfl) (by kernel_rfl) (fun _ _ _ h => h) (by rfl) (fun w' hSw => by (try dsimp only at hSw); go_simp) hS ?_
        (try simp only [Act.put, List.setIfInBounds_toArray, List.set_cons_zero, List.set_cons_succ])
        refine held_one 9 rfl (by kernel_rfl) (by rfl) (fun K hK => ?_)
        go_simp
        refine hK.out _ _ hS (fun hS => ?_)
        clear hK K
        (try simp only [Act.put, List.setIfInBounds_toArray, List.set_cons_zero, List.set_cons_succ])
        refine held_one 12 rfl (by kernel_rfl) (by rfl) (fun K hK => ?_)
        go_simp
        refine hK.out _ _ hS (fun hS => ?_)
        clear hK K
        (try simp only [Act.put, List.setIfInBounds_toArray, List.set_cons_zero, List.set_cons_succ])
        refine held_take 13 (.tuple #[.int .u64 (s : Int), .int .u64 (q : Int)]) rfl (by kernel_rfl) (by kernel_rfl) (by kernel_rfl) (fun _ _ _ h => h) (by rfl) (fun w' hSw => by (try dsimp only at hSw); go_simp) hS ?_
        (try simp only [Act.put, List.setIfInBounds_toArray, List.set_cons_zero, List.set_cons_succ])
        refine held_take 14 (.int .u64 (s : Int)) rfl (by kernel_rfl) (by kernel_rfl) (by kernel_rfl) (fun _ _ _ h => h) (by rfl) (fun w' hSw => by (try dsimp only at hSw); go_simp) hS ?_
        (try simp only [Act.put, List.setIfInBounds_toArray, List.set_cons_zero, List.set_cons_succ])
        refine held_take 15 (.int .u64 (q : Int)) rfl (by kernel_rfl) (by kernel_rfl) (by kernel_rfl) (fun _ _ _ h => h) (by rfl) (fun w' hSw => by (try dsimp only at hSw); go_simp) hS ?_
        (try simp only [Act.put, List.setIfInBounds_toArray, List.set_cons_zero, List.set_cons_succ])
        refine held_take 16 (.pointer (some ⟨g, xk + j, none⟩)) rfl (by kernel_rfl) (by kernel_rfl) (by kernel_rfl) (fun _ _ _ h => h) (by rfl) (fun w' hSw => by (try dsimp only at hSw); go_simp; rw [if_pos HIX.out.1, HIX.out.2]) hS ?_
        (try simp only [Act.put, List.setIfInBounds_toArray, List.set_cons_zero, List.set_cons_succ])
        refine held_one 17 rfl (by kernel_rfl) (by rfl) (fun K hK => ?_)
        go_simp
        have hS2 : (wr.drew.setCell ⟨g, xk + j, none⟩ (.int .u64 (s : Int))).cell? ⟨o5, 0, none⟩ = some (.slice (some ⟨g, 0, none⟩) (xs.length + ys.length) (xs.length + ys.length)) := (World.cell?_setCell_far _ _ _ _ (by show ¬ g = o5; omega)).trans hS
        refine hK.out _ _ hS2 (fun hS => ?_)
        clear hK K hS2
        (try simp only [Act.put, List.setIfInBounds_toArray, List.set_cons_zero, List.set_cons_succ])
        refine held_one 18 rfl (by kernel_rfl) (by rfl) (fun K hK => ?_)
        go_simp
        refine hK.out _ _ hS (fun hS => ?_)
        clear hK K
        (try simp only [Act.put, List.setIfInBounds_toArray, List.set_cons_zero, List.set_cons_succ])
        refine wpAnyH_done (by kernel_rfl) ?_ _
        go_simp
        have hA := HA7.out.step hij HOO.out.1 HOO.out.2.1 HSQ.out.1 HSQ.out.2.1 HSQ.out.2.2
        have hO0 : Own w.heap.size 46 ((wr.setCell ⟨g, xk + j, none⟩ (.int .u64 (s : Int))).drew) .u64 (.slice (some ⟨g, 0, none⟩) (xs.length + ys.length) (xs.length + ys.length)) (o2.set (xk + j) (s : Int)) := Own.set HO7.out (xk + j) (s : Int)
        have hB : Below w.heap.size wr (wr.setCell ⟨g, xk + j, none⟩ (.int .u64 (s : Int))).drew := below_drewN ((Below.refl _ wr).setCell (p := ⟨g, xk + j, none⟩) hgw _) 1
        obtain ⟨wz, hwz⟩ : ∃ wz, wz = (wr.setCell ⟨g, xk + j, none⟩ (.int .u64 (s : Int))).drew := ⟨_, rfl⟩
        have hS1 : wz.cell? ⟨o5, 0, none⟩ = some (.slice (some ⟨g, 0, none⟩) (xs.length + ys.length) (xs.length + ys.length)) := by rw [hwz]; exact hS
        rw [← hwz] at hO0 hB ⊢
        have hsm : ∀ i, i ≠ g → i < W.heap.size → wz.heap[i]? = W.heap[i]? := fun i h1 h2 => by
          rw [hwz]
          exact (Below.heap_setCell _ _ _ _ h1).trans (HB7.out.2 i h1 h2)
        have hRW : SI wz .u64 (.slice (some ad) row.length c6) row := by
          obtain ⟨A8, c8, hv8, hc8, hr8⟩ := HR7.out
          refine ⟨A8, c8, hv8, hc8, fun j8 hj8 => ?_⟩
          obtain ⟨ad8, e8, hcl8⟩ := hr8 j8 hj8
          refine ⟨ad8, e8, (World.cell?_of_block (a := ad8.add j8) ?_).trans hcl8⟩
          rw [add_block, hwz]
          refine Below.heap_setCell _ _ _ _ ?_
          have e9 : some ad = A8 := by injection hv8
          rw [e8] at e9
          injection e9 with e9
          rw [← e9]
          exact HAP.out ad rfl
        have HF := Lib.hid (And.intro hA (And.intro hO0 (And.intro hS1 (And.intro hRW (And.intro (HB7.out.1.trans hB) hsm)))))
        clear hA hO0 hB hS1 hRW hsm hwz hS ho1 ho2 hcl hc4 hadd
        gi_wp2
        go_roundw
        case rel => exact ⟨j + 1, q, _, by omega, by go_num, rfl, HF.out.1, HF.out.2.1, HF.out.2.2.1, HF.out.2.2.2.1, HF.out.2.2.2.2.1, HF.out.2.2.2.2.2⟩
        case measure => simp [intOf]; omega
      · obtain rfl : j = xs.length + 1 := by omega
        have hM := HMA.out.step HUX.out HUY.out hk HROW.out.2.1 HROW.out.2.2 ha
        have hrl2 := HROW.out.2.1
        have HF := Lib.hid (And.intro hM (And.intro ho (And.intro hc4 (And.intro hBW hsm))))
        have hlt2 : decide (((xs.length + 1 : Nat) : Int) < (row.length : Int)) = false := decide_eq_false (by omega)
        clear hM ha ho hc4 hBW hsm hrw
        gi_wp2
        obtain ⟨f1, f2, f3, f4, f5⟩ := HF.out
        refine ⟨f4, C, ⟨f4.size, fun i hi hc => f5 i (fun e => hc ((HCC.out i).2 (.inr e))) hi, fun i hi => .inl hi⟩, o2, hk, f1, f2, f3, HB5.out.trans f4, HCC.out⟩
  case done =>
    clear hz hgl hLL hC5 HIT hAx hAy HTY
    rintro Dd C W hDd ⟨out, g1, g2, g3, g4, g5, g6⟩ hK
    have hv := g2.vv
    rw [List.take_length] at hv
    have HM := Lib.hid (And.intro g2.len (And.intro g2.u64 hv))
    have hol : out.length ≤ 1099511627776 := by rw [g2.len]; omega
    have HTR := Lib.hid (trim_calls (some ⟨g, 0, none⟩) (xs.length + ys.length) (xs.length + ys.length) out W g3.si hol)
    have HO := Lib.hid g3
    have HB := Lib.hid g5
    clear g2 g3 g5 g6 hv
    go_wp2_with (go_at_call 97; refine HTR.out.mono ?_; rintro e w' ⟨rfl, rfl⟩)
    refine ⟨by simp, .inl ⟨_, _, rfl, run_takeDeferred (w := W) hK, ?_⟩⟩
    refine ⟨_, results_tmp rfl _ _ _, ?_⟩
    have hgd : g ≠ Dd := by have := World.ownsRow.lt hO5 g rfl; omega
    have hdd : w.heap.size ≤ Dd := by have := hB5.size; omega
    have h1 : SI W .u64 (.slice (some ⟨g, 0, none⟩) (tlen out out.length) (xs.length + ys.length)) (cut out) := si_cut HO.out.si
    rw [cut_words _ HM.out.2.1, HM.out.2.2] at h1
    refine ⟨_, rfl, ?_, HB.out.trans (below_putObj _ hdd)⟩
    obtain ⟨A, c, hv, hc, hr⟩ := h1
    refine ⟨A, c, hv, hc, fun j hj => ?_⟩
    obtain ⟨ad, e, hcell⟩ := hr j hj
    refine ⟨ad, e, ?_⟩
    have hA : some (⟨g, 0, none⟩ : Addr) = A := by injection hv
    rw [e] at hA
    injection hA with hA
    subst hA
    rw [World.cell?_of_block (World.putObj_heap_other (by rw [add_block]; exact hgd))]
    exact hcell
end Go.Proofs.YtmbceiaeffnigaaGreatDoor
