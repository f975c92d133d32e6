/- The specification's Divide, with a divisor of more than one digit. -/
import Derived.Test.YtmbceiaeffnigaaGreatDoorJ1
namespace Go.Proofs.YtmbceiaeffnigaaGreatDoor
open Go.RowKit

theorem SI.keep {w : World} {k : IntKind} {v : Value} {xs : List Int} {g : Nat} (h : SI w k v xs) (ha : v.ownBlock ≠ some g) (j : Nat) (q : Value) : SI (w.setCell ⟨g, j, none⟩ q) k v xs := by
  obtain ⟨A, c, rfl, hc, hr⟩ := h
  refine ⟨A, c, rfl, hc, fun i hi => ?_⟩
  obtain ⟨ad, e, hcell⟩ := hr i hi
  subst e
  refine ⟨ad, rfl, (World.cell?_of_block (a := ad.add i) ?_).trans hcell⟩
  rw [add_block]
  exact Below.heap_setCell _ _ _ _ (fun e2 => ha (by show some ad.block = some g; rw [e2]))
theorem Own.keep {B e : Nat} {w : World} {k : IntKind} {v : Value} {xs : List Int} {g : Nat} (h : Own B e w k v xs) (ha : v.ownBlock ≠ some g) (j : Nat) (q : Value) : Own B e (w.setCell ⟨g, j, none⟩ q) k v xs :=
  h.foot (fun g' e1 => Below.heap_setCell _ _ _ _ (fun e2 => ha (by rw [e1, e2])))
theorem Own.apart {B e g : Nat} {w : World} {k : IntKind} {v : Value} {xs : List Int} (h : Own B e w k v xs) (hg : g < B) : v.ownBlock ≠ some g := fun e1 => by
  have := (World.ownsRow.lt h g e1).1
  omega
theorem bnx {a c d : World} (h : Below a.heap.size a c) (k : Below c.heap.size c d) : Below a.heap.size a d := h.trans (k.mono h.size)
/-- What the division leaves: a quotient of half-words, the remainder. -/
def RetLong (w : World) (e m X Y : Nat) (en : Ending) (w' : World) : Prop :=
  ∃ qs rs, RetTwo w e .u64 qs rs en w' ∧ U32 qs ∧ qs.length ≤ m ∧ U32 rs ∧ rs.length ≤ m ∧ val 4294967296 rs = X % Y
theorem scale_step {t s : Int} (ht : 1 ≤ t) (hs : 1 ≤ s) (h : t * s < 2147483648) : s < 2147483648 ∧ t * (2 * s) < 4294967296 ∧ t * s < t * (2 * s) := by
  have h1 : 1 * s ≤ t * s := Int.mul_le_mul_of_nonneg_right ht (by omega)
  have h2 : t * (2 * s) = 2 * (t * s) := by rw [Int.mul_left_comm]
  omega
theorem cut_top {ys : List Int} (h : cut ys ≠ []) : (cut ys)[(cut ys).length - 1]?.getD 0 ≠ 0 := by
  have h1 := cut_length ys
  have h2 : 0 < (cut ys).length := List.length_pos_iff.2 h
  have h3 := tlen_top ys ys.length (by omega)
  unfold cut at *
  rw [List.length_take] at *
  rw [List.getElem?_take, if_pos (by omega)]
  rw [show min (tlen ys ys.length) ys.length = tlen ys ys.length by omega]
  exact h3
theorem val_top (xs : List Int) (h : 0 < xs.length) : 4294967296 ^ (xs.length - 1) * (xs[xs.length - 1]?.getD 0).toNat ≤ val 4294967296 xs := by
  have h1 := val_take_drop 4294967296 xs (xs.length - 1) (by omega)
  rw [val_drop] at h1
  rw [h1]
  have : 4294967296 ^ (xs.length - 1) * (xs[xs.length - 1]?.getD 0).toNat ≤ 4294967296 ^ (xs.length - 1) * ((xs[xs.length - 1]?.getD 0).toNat + 4294967296 * val 4294967296 (xs.drop (xs.length - 1 + 1))) := Nat.mul_le_mul_left _ (Nat.le_add_right _ _)
  omega

/-- What the division starts with. -/
theorem div_setup {xs ys bs zs ws : List Int} {s : Int} (hs : 1 ≤ s) (hbs : val 4294967296 bs = val 4294967296 ys) (hb0 : val 4294967296 bs ≠ 0) (z1 : U32 zs) (y1 : U32 ws)
    (z3 : val 4294967296 zs = val 4294967296 xs * val 4294967296 [s]) (y3 : val 4294967296 ws = val 4294967296 bs * val 4294967296 [s]) :
    1 ≤ (cut ws).length ∧ U32 (cut ws) ∧ val 4294967296 (cut ws) = val 4294967296 ys * s.toNat ∧
    4294967296 ^ ((cut ws).length - 1) * ((cut ws)[(cut ws).length - 1]?.getD 0).toNat ≤ val 4294967296 ys * s.toNat ∧ 1 ≤ (cut ws)[(cut ws).length - 1]?.getD 0 ∧
    val 4294967296 ys * s.toNat < 4294967296 ^ (cut ws).length ∧ val 4294967296 (zs ++ [0]) = val 4294967296 xs * s.toNat ∧
    DivAt (zs ++ [0]) (zs ++ [0]) (val 4294967296 ys * s.toNat) ((zs ++ [0]).length - (cut ws).length) := by
  have hv1 : val 4294967296 [s] = s.toNat := by simp [val]
  rw [hv1] at z3 y3
  have hcu : U32 (cut ws) := y1.take _
  have hcv := cut_val 4294967296 ws
  rw [y3, hbs] at hcv
  have hp : 0 < val 4294967296 ys * s.toNat := Nat.mul_pos (by omega) (by omega)
  have hne : cut ws ≠ [] := fun h => by rw [h] at hcv; simp [val] at hcv; omega
  have hl : 0 < (cut ws).length := List.length_pos_iff.2 hne
  have ht := cut_top hne
  have ht0 := hcu.at ((cut ws).length - 1)
  have htv := val_top _ hl
  rw [hcv] at htv
  have hlt := val_lt32 _ hcu
  rw [hcv] at hlt
  refine ⟨hl, hcu, hcv, htv, by omega, hlt, ?_, DivAt.start zs _ _ z1 hl ?_⟩
  · rw [val_snoc, z3]; simp
  · refine Nat.le_trans ?_ htv
    exact Nat.le_mul_of_pos_right _ (by omega)

/-- The estimate is not less than the digit. -/
theorem DivAt.guess {a1 ds : List Int} {B i n p : Nat} {t ec fc tp q0 : Int} (h : DivAt a1 ds B (i + 1)) (hn : 1 ≤ n) (hi : i + n < ds.length) (hB : B < 4294967296 ^ n) (ht : 1 ≤ t) (hb : 4294967296 ^ (n - 1) * t.toNat ≤ B)
    (hec : ec = ds[i + n]?.getD 0) (hfc : fc = ds[p]?.getD 0) (hp : p = i + n - 1) (htp : tp = ec * 4294967296 + fc) (hq : q0 = tp / t) (h0 : 0 ≤ tp) : val 4294967296 (ds.drop i) / B ≤ (min q0 4294967295).toNat := by
  obtain ⟨m, rfl⟩ : ∃ m, n = m + 1 := ⟨n - 1, by omega⟩
  obtain ⟨h1, h2⟩ := h.digit (t := t.toNat) hi hB (by omega) hb
  rw [← hec, show i + m = p by omega, ← hfc] at h1
  have u1 := h.u32.at (i + (m + 1))
  have u2 := h.u32.at p
  rw [← hec] at u1
  rw [← hfc] at u2
  have h3 : q0.toNat = (ec.toNat * 4294967296 + fc.toNat) / t.toNat := by
    rw [hq]
    obtain ⟨T, rfl⟩ := Int.eq_ofNat_of_zero_le (show 0 ≤ t by omega)
    obtain ⟨P, rfl⟩ := Int.eq_ofNat_of_zero_le h0
    have e1 : P = ec.toNat * 4294967296 + fc.toNat := by omega
    rw [← e1, ← Int.natCast_ediv]
    rfl
  omega

set_option maxHeartbeats 4000000 in
set_option maxRecDepth 100000 in
theorem divide2_calls (u v : Value) (xs ys : List Int) (w : World) (hr : SI w .u64 u xs) (hs : SI w .u64 v ys) (hu : U32 xs) (hv : U32 ys) (h2 : (cut ys).length ≠ 1) (h0 : cut ys ≠ []) (hn : xs.length ≤ 100000) (hm : ys.length ≤ 100000) :
    Calls Tryz.prog 74 #[u, v] w (RetLong w 46 (xs.length + 2) (val 4294967296 xs) (val 4294967296 ys)) := by
  obtain ⟨A', c', rfl, hc', _⟩ := hs.form
  have hcl := cut_length ys
  have hcn := tlen_le ys ys.length
  have hcut := si_cut hs
  have hcu : U32 (cut ys) := hv.take _
  have hcv := cut_val 4294967296 ys
  have htop := cut_top h0
  have hpos : 0 < (cut ys).length := List.length_pos_iff.2 h0
  have HR := Lib.hid hr
  have HS := Lib.hid hs
  have HU := Lib.hid hu
  generalize hbs : cut ys = bs at *
  generalize htl : tlen ys ys.length = tl at *
  obtain rfl : tl = bs.length := hcl.symm
  have HTL := Lib.hid htl
  have HCV := Lib.hid hcv
  have HCU := Lib.hid hcu
  have HCT := Lib.hid hcut
  obtain ⟨t, ht⟩ : ∃ t, t = bs[bs.length - 1]?.getD 0 := ⟨_, rfl⟩
  have ht0 := hcu.at (bs.length - 1)
  rw [← ht] at ht0 htop
  have ht1 : 1 ≤ t := by omega
  have hb0 : val 4294967296 bs ≠ 0 := by
    have h1 := val_top bs hpos
    rw [← ht] at h1
    have h2 : 0 < 4294967296 ^ (bs.length - 1) * t.toNat := Nat.mul_pos (Nat.pow_pos (by omega)) (by omega)
    omega
  have HB0 := Lib.hid hb0
  obtain ⟨A2, c2, hv2, _, hcell⟩ := hcut.form
  obtain ⟨ad, e, hcl2⟩ := hcell (bs.length - 1) (by omega)
  injection hv2 with e1 e2 e3
  rw [← e1] at e
  subst e
  rw [← ht] at hcl2
  have hb1 : (bs.length : Int) - 1 = ((bs.length - 1 : Nat) : Int) := by omega
  have hne : ((bs.length : Int) == 1) = false := beq_eq_false_iff_ne.2 (by omega)
  clear hr hs hu hv hcl hcut hcu hcv hcell hbs htl e1 e2 e3 ht htop h0 hb0
  go_enter Tryz.func74, Tryz.ntmps74
  go_upto_region 5 with (first
    | (go_at_call 82; refine (short_calls _ _ _ ys _ HS.out (by omega)).mono ?_; rintro e w' ⟨rfl, rfl⟩; rw [HTL.out]))
  go_loop [6] (fun sv => ∃ s : Int, sv = .int .u64 s ∧ 1 ≤ s ∧ s < 4294967296 ∧ t * s < 4294967296) (fun sv => (4294967296 - t * intOf sv).toNat)
  case atStart => exact ⟨1, rfl, by omega, by omega, by omega⟩
  case round =>
    obtain ⟨s, rfl, hs1, hs2, hts⟩ := hrel
    have hts0 : 0 ≤ t * s := Int.mul_nonneg (by omega) (by omega)
    have hw1 : IntKind.u64.wrap (t * s) = t * s := wrap_u64 _ hts0 (by omega)
    by_cases hlt : t * s < 2147483648
    · obtain ⟨k1, k2, k3⟩ := scale_step ht1 hs1 hlt
      have hw2 : IntKind.u64.wrap (2 * s) = 2 * s := wrap_u64 _ (by omega) (by omega)
      go_wp2
      go_round
      case rel => exact ⟨2 * s, by go_num, by omega, by omega, k2⟩
      case measure => simp [intOf]; omega
    · have HSC := Lib.hid (And.intro hs1 hs2)
      obtain ⟨la, hla⟩ : ∃ la, la = xs.length + 2 := ⟨_, rfl⟩
      clear hts hts0
      have HS1 : Hid (U32 [s]) := U32.one (by omega) hs2
      have hone : [s].length ≤ 200000 := by simp
      have HT1 := Lib.hid (times_calls u (.slice (some ⟨w.heap.size, 0, none⟩) 1 1) xs [s] (w.alloc (.cells #[.int .u64 s] 46)) (HR.out.alloc _) (SI.one w .u64 s 46) HU.out HS1.out (by omega) hone)
      go_upto_region 9 with (first
        | (go_at_call 57; refine HT1.out.mono ?_; rintro e w1 ⟨zs, ⟨v1, rfl, q1, q2⟩, q3, q4, q5⟩; have O1 := Lib.hid (q1.base (below_new w _).size); have B1 := Lib.hid (bnx (below_new w _) q2); have Z1 := Lib.hid (And.intro q3 (And.intro q4 q5)); clear q1 q2 q3 q4 q5)
        | (at_builtin; refine wpList_app1 (W0 := w) rfl (.tmp 47) (.tmp 48) 22 rfl w.heap.size 46 8 .u64 Tryz.underlying22 info64 _ zs _ rfl rfl O1.out (by rw [Z1.out.2.1]; simp; omega) (by omega) B1.out B1.out.size ?_; intro v2 w2 h1 h2 h3 h4; have O2 := Lib.hid h1; have B2 := Lib.hid h2; clear h1 h2 h3 h4))
      have HT2 := Lib.hid (times_calls (.slice (some ad) bs.length c') (.slice (some ⟨w2.heap.size, 0, none⟩) 1 1) bs [s] (w2.alloc (.cells #[.int .u64 s] 46)) ((HCT.out.below B2.out).alloc _) (SI.one w2 .u64 s 46) HCU.out HS1.out (by omega) hone)
      clear HT1
      go_upto_region 11 with (first
        | (go_at_call 57; refine HT2.out.mono ?_; rintro e w3 ⟨ws, ⟨v3, rfl, q1, q2⟩, q3, q4, q5⟩; obtain ⟨A3, c3, rfl, _⟩ := q1.slice; have O3 := Lib.hid (q1.base (below_new w2 _).size); have B3 := Lib.hid (bnx (below_new w2 _) q2); have Z3 := Lib.hid (And.intro q3 (And.intro q4 q5)); clear q1 q2 q3 q4 q5)
        | (go_at_call 82; refine (short_calls _ _ _ ws _ O3.out.si (by rw [Z3.out.2.1]; simp; omega)).mono ?_; rintro e w' ⟨rfl, rfl⟩))
      have hcl := cut_length ws
      have hsi := si_cut O3.out.si
      have hset := div_setup hs1 HCV.out HB0.out Z1.out.1 Z3.out.1 Z1.out.2.2 Z3.out.2.2
      have hcs : (cut ws).length ≤ 100001 := by rw [hcl]; have := tlen_le ws ws.length; have := Z3.out.2.1; simp at this; omega
      have hal : (zs ++ [0]).length = la := by have := Z1.out.2.1; simp at this ⊢; omega
      obtain ⟨g, cap, hv2, hg1, hg2, hcap⟩ := O2.out.form (by omega)
      subst hv2
      rw [hal] at hcap hset ⊢
      generalize zs ++ [0] = a1 at *
      have O2' : Hid (Own w.heap.size 46 w2 .u64 (.slice (some ⟨g, 0, none⟩) la cap) a1) := by have := O2.out; rw [hal] at this; exact this
      have hap : (Value.slice A3 (tlen ws ws.length) c3).ownBlock ≠ some g := by
        have h1 := O3.out.apart hg2
        have h2 : (Value.slice A3 (tlen ws ws.length) c3).ownBlock = (Value.slice A3 ws.length c3).ownBlock := by cases A3 <;> rfl
        rw [h2]; exact h1
      rw [← hcl] at hsi hap ⊢
      generalize cut ws = cs at *
      obtain ⟨n, hnn⟩ : ∃ n, n = cs.length := ⟨_, rfl⟩
      rw [← hnn] at hsi hap hset hcs ⊢
      obtain ⟨r1, r2, r3, r4, r5, r6, r7, r8⟩ := hset
      obtain ⟨B, hB⟩ : ∃ B, B = val 4294967296 ys * s.toNat := ⟨_, rfl⟩
      rw [← hB] at r3 r4 r6 r8
      obtain ⟨t2, ht2⟩ : ∃ t2, t2 = cs[n - 1]?.getD 0 := ⟨_, rfl⟩
      rw [← ht2] at r4 r5
      have hcu2 := r2.at (n - 1)
      rw [← ht2] at hcu2
      have hcell : ∃ ad2, A3 = some ad2 ∧ w3.cell? (ad2.add (n - 1)) = some (.int .u64 t2) := by
        obtain ⟨A, c, hv, _, hr⟩ := hsi.form
        injection hv with e1 e2 e3
        subst e1
        rw [ht2]
        exact hr (n - 1) (by omega)
      obtain ⟨ad2, rfl, hcell⟩ := hcell
      have HBB := Lib.hid hB
      have HTT := Lib.hid ht2
      have HCS := Lib.hid (And.intro hnn.symm (And.intro r2 r3))
      have HR4 := Lib.hid (And.intro r4 r6)
      have HBP : Hid (0 < B) := Nat.lt_of_lt_of_le (Nat.mul_pos (Nat.pow_pos (by omega)) (by omega)) r4
      have HA1 := Lib.hid (And.intro hal r7)
      have HD0 := Lib.hid r8
      have HSI := Lib.hid hsi
      have HAP := Lib.hid hap
      have HCE := Lib.hid hcell
      have HLA := Lib.hid hla
      obtain ⟨D, hD⟩ : ∃ D, D = la - n := ⟨_, rfl⟩
      have hla2 : la ≤ 100002 := by omega
      have HDD := Lib.hid hD
      have hB3 := B2.out.trans (B3.out.mono B2.out.size)
      have HB3 := Lib.hid hB3
      have O4 := Lib.hid (O2'.out.below B3.out)
      clear hcl hsi hnn hB r2 r3 r4 r6 r7 r8 ht2 hap hcell hal hB3 O1 O2 O2' O3 B1 B2 Z1 Z3 HT2 hD hla hne hb1 hcl2 HS HCT HR HU HTL HCU HB0
      go_upto_region 13 with (first | (at_make; refine wpList_mk (W0 := w) rfl _ _ 22 rfl w.heap.size 46 8 .u64 Tryz.underlying22 info64 _ _ D _ _ rfl rfl (by have := HDD.out; omega) (by have := HDD.out; omega) (by have := HDD.out; omega) (by omega) HB3.out HB3.out.size ?_; intro gq w4 h1 hgq h2 h3 h4 h5; have Q4 := Lib.hid h1; have B4 := Lib.hid h3; have I4 := Lib.hid (And.intro hgq h2); have S4 := Lib.hid (HSI.out.below h4); have C4 := Lib.hid ((h4.cell (World.block_lt_of_cell? w3 _ HCE.out)).trans HCE.out); have A4 := Lib.hid (O4.out.below h4); clear h1 h2 h3 h4 h5))
      have hgg : g < gq := by have := I4.out.2; have := B3.out.size; omega
      have hgq0 : (Value.slice (some ad2) n c3).ownBlock ≠ some gq := fun e1 => by
        have h1 : ad2.block = gq := Option.some.inj e1
        have h2 := World.block_lt_of_cell? w3 _ HCE.out
        rw [add_block] at h2
        have := I4.out.2
        omega
      have HGQ := Lib.hid (And.intro hgq0 (show (Value.slice (some ⟨g, 0, none⟩) la cap).ownBlock ≠ some gq from fun e1 => by have h1 : g = gq := Option.some.inj e1; omega))
      clear hgq0
      go_loopw [9] (fun i wr => ∃ (x : Int) (k : Nat) (ds qs : List Int), i = .int .i64 x ∧ -1000000 ≤ x ∧ (x + 1).toNat = k ∧ k ≤ la - n ∧ DivAt a1 ds B k ∧ qs.length = D ∧ U32 qs ∧ Own w.heap.size 46 wr .u64 (.slice (some ⟨g, 0, none⟩) la cap) ds ∧ Own w.heap.size 46 wr .u64 (.slice (some ⟨gq, 0, none⟩) D D) qs ∧ SI wr .u64 (.slice (some ad2) n c3) cs ∧ Below w.heap.size w wr) (fun i wr => (intOf i + 1).toNat)
      case atStart => exact ⟨(la : Int) - n - 1, la - n, _, _, by go_num, by omega, by omega, Nat.le_refl _, HD0.out, by simp, U32.zeros _, A4.out, Q4.out, S4.out, B4.out⟩
      case round =>
        obtain ⟨x, k, ds, qs, rfl, hx1, hx2, hk, hdv, hql, hqu, ha, hq, hb, hB⟩ := hrel
        have HDV := Lib.hid hdv
        have HQU := Lib.hid (And.intro hql hqu)
        have HA := Lib.hid ha
        have HQ := Lib.hid hq
        have HSB := Lib.hid hb
        have HB := Lib.hid hB
        clear hdv hql hqu ha hq hb hB
        by_cases hx : 0 ≤ x
        · obtain ⟨m, rfl⟩ : ∃ m : Nat, x = (m : Int) := ⟨x.toNat, by omega⟩
          obtain rfl : k = m + 1 := by omega
          have hlen : ds.length = la := HDV.out.len.trans HA1.out.1
          have hmn : m + n < la := by omega
          obtain ⟨p, hp⟩ : ∃ p, p = m + n - 1 := ⟨_, rfl⟩
          have hp1 : p < la := by omega
          obtain ⟨hc1, -⟩ := HA.out.cellAt (m + n) (by omega)
          obtain ⟨hc2, -⟩ := HA.out.cellAt p (by omega)
          have u1 := HDV.out.u32.at (m + n)
          have u2 := HDV.out.u32.at p
          obtain ⟨ec, hec⟩ : ∃ ec, ec = ds[m + n]?.getD 0 := ⟨_, rfl⟩
          obtain ⟨fc, hfc⟩ : ∃ fc, fc = ds[p]?.getD 0 := ⟨_, rfl⟩
          rw [← hec] at hc1 u1
          rw [← hfc] at hc2 u2
          obtain ⟨tp, htp⟩ : ∃ tp, tp = ec * 4294967296 + fc := ⟨_, rfl⟩
          have htp0 : 0 ≤ tp ∧ tp < 18446744073709551616 := by omega
          obtain ⟨q0, hq0⟩ : ∃ q0, q0 = tp / t2 := ⟨_, rfl⟩
          have hq1 : 0 ≤ q0 := by rw [hq0]; exact Int.ediv_nonneg htp0.1 (by omega)
          have hq2 : q0 ≤ tp := by rw [hq0]; exact Int.ediv_le_self _ htp0.1
          have hcb : wr.cell? (ad2.add (n - 1)) = some (.int .u64 t2) := by
            obtain ⟨A, c, hv, _, hr⟩ := HSB.out.form
            obtain ⟨ad3, e, hcl⟩ := hr (n - 1) (by rw [HCS.out.1]; omega)
            injection hv with e1 e2 e3
            rw [e] at e1
            injection e1 with e1
            rw [e1, hcl, HTT.out]
          have hw1 : IntKind.i64.wrap ((m : Int) + (n : Int)) = (m : Int) + (n : Int) := IntWalk.i64_in _ (by omega)
          have hw2 : ((m : Int) + (n : Int)).toNat = m + n := by omega
          have hw3 : 0 ≤ (m : Int) + (n : Int) := by omega
          have hw4 : (m : Int) + (n : Int) < (la : Int) := by omega
          have hw5 : IntKind.i64.wrap ((m : Int) + (n : Int) - 1) = (p : Int) := by rw [show (m : Int) + (n : Int) - 1 = (p : Int) by omega]; exact IntWalk.i64_in _ (by omega)
          have hw6 : IntKind.u64.wrap (ec * 4294967296) = ec * 4294967296 := wrap_u64 _ (by omega) (by omega)
          have hw7 : IntKind.u64.wrap (ec * 4294967296 + fc) = tp := by rw [← htp]; exact wrap_u64 _ (by omega) (by omega)
          have hn1 : (n : Int) - 1 = ((n - 1 : Nat) : Int) := by omega
          have hn2 : n - 1 < n := by omega
          have ht0 : (t2 == 0) = false := beq_eq_false_iff_ne.2 (by omega)
          have hw8 : IntKind.u64.wrap (tp.tdiv t2) = q0 := by rw [Int.tdiv_eq_ediv_of_nonneg htp0.1, ← hq0]; exact wrap_u64 _ (by omega) (by omega)
          have HEC := Lib.hid (And.intro hec (And.intro hfc (And.intro htp (And.intro hq0 hp))))
          have HTP := Lib.hid htp0
          clear hec hfc htp hq0 hp htp0
          go_wp2
          go_quiet (fail)
          go_wp2
          have hdig : val 4294967296 (ds.drop m) / B ≤ (min q0 4294967295).toNat := HDV.out.guess r1 (by omega) HR4.out.2 r5 HR4.out.1 HEC.out.1 HEC.out.2.1 HEC.out.2.2.2.2 HEC.out.2.2.1 HEC.out.2.2.2.1 HTP.out.1
          have HDIG := Lib.hid hdig
          obtain ⟨V, hV⟩ : ∃ V, V = val 4294967296 (ds.drop m) := ⟨_, rfl⟩
          rw [← hV] at HDIG
          have HV := Lib.hid hV
          obtain ⟨Qd, hQd⟩ : ∃ Qd, Qd = V / B := ⟨_, rfl⟩
          rw [← hQd] at HDIG
          have HQD := Lib.hid hQd
          clear hQd
          clear hdig hV hw6 hw7 hw8 hcb hc1 hc2
          obtain ⟨wo, rfl⟩ : ∃ wo : World, wo = wr := ⟨_, rfl⟩
          go_loopw [11] (fun gv wx => ∃ G : Int, gv = .int .u64 G ∧ 0 ≤ G ∧ G ≤ 4294967295 ∧ Qd ≤ G.toNat ∧ Below wo.heap.size wo wx) (fun gv wx => (intOf gv).toNat)
          case atStart => exact ⟨_, rfl, by omega, by omega, HDIG.out, below_drewN (Below.refl _ _) nq⟩
          case round =>
            obtain ⟨G, rfl, G0, G1, GQ, hB3⟩ := hrel
            have GB := Lib.hid hB3
            have HGQ2 := Lib.hid GQ
            have hG2 : Hid (U32 [G]) := U32.one G0 (by omega)
            have hone2 : [G].length ≤ 200000 := by simp
            have HT := Lib.hid (times_calls (.slice (some ad2) n c3) (.slice (some ⟨wr.heap.size, 0, none⟩) 1 1) cs [G] (wr.alloc (.cells #[.int .u64 G] 46)) ((HSB.out.below hB3).alloc _) (SI.one wr .u64 G 46) HCS.out.2.1 hG2.out (by have := HCS.out.1; omega) hone2)
            clear hB3 GQ
            go_upto_region 18 with (first
              | (go_at_call 57; refine HT.out.mono ?_; rintro e w5 ⟨ps, ⟨v5, rfl, q1, q2⟩, q3, q4, q5⟩; have P5 := Lib.hid q1.si; have B5 := Lib.hid (bnx GB.out (bnx (below_new wr _) q2)); have Z5 := Lib.hid (And.intro q3 (And.intro q4 q5)); clear q1 q2 q3 q4 q5))
            have hlps : ps.length = n + 1 := by have h1 := Z5.out.2.1; have h2 := HCS.out.1; simp at h1; omega
            have hvps : val 4294967296 ps = B * G.toNat := by
              have h1 := Z5.out.2.2
              rw [HCS.out.2.2] at h1
              rw [h1]
              simp [val]
            have hA5 : Own w.heap.size 46 w5 .u64 (.slice (some ⟨g, 0, none⟩) la cap) ds := HA.out.below B5.out
            have hpart : SI w5 .u64 (.slice (some ⟨g, m, none⟩) (m + n + 1 - m) (cap - m)) ((ds.take (m + n + 1)).drop m) := by
              have := hA5.si.sub m (m + n + 1) (by omega) (by omega)
              rwa [add_plain] at this
            have hpl : ((ds.take (m + n + 1)).drop m).length = n + 1 := by simp; omega
            have hpv : val 4294967296 ((ds.take (m + n + 1)).drop m) = V := by rw [part_val HDV.out (by omega) HR4.out.2]; exact HV.out.symm
            have HM := Lib.hid (minus_calls _ v5 _ ps w5 hpart P5.out ((HDV.out.u32.take _).drop _) Z5.out.1 (hlps.trans hpl.symm) (by omega))
            obtain ⟨part, hpt⟩ : ∃ part, part = (ds.take (m + n + 1)).drop m := ⟨_, rfl⟩
            rw [← hpt] at hpl hpv HM
            have HPP := Lib.hid (And.intro hlps (And.intro hvps (And.intro hpl hpv)))
            have HA5 := Lib.hid hA5
            have hg5 : g < w5.heap.size := by
              obtain ⟨g', cap', e, _, h1, _⟩ := hA5.form (by omega)
              injection e with e1
              injection e1 with e1
              injection e1 with e1
              omega
            have hcap2 : m + n + 1 ≤ cap := by omega
            clear hlps hvps hA5 hpart hpl hpv hpt HT
            by_cases hgt : V < B * G.toNat
            · have hd : decide (val 4294967296 part < val 4294967296 ps) = true := by rw [HPP.out.2.1, HPP.out.2.2.2]; exact decide_eq_true hgt
              have HDT := Lib.hid hd
              have hG3 : Qd < G.toNat := by rw [HQD.out]; exact Nat.div_lt_of_lt_mul hgt
              have hw9 : IntKind.u64.wrap (G - 1) = G - 1 := wrap_u64 _ (by omega) (by omega)
              clear hd
              go_wp2_with (go_at_call 103; refine HM.out.mono ?_; rintro e w6 ⟨rs, ⟨v6, rfl, q1, q2⟩, q3, q4, q5⟩; rw [HDT.out]; have B6 := Lib.hid (bnx B5.out q2); clear q1 q2 q3 q4 q5)
              go_roundw
              case rel => exact ⟨G - 1, by go_num, by omega, by omega, by omega, B6.out⟩
              case measure => simp [intOf]; omega
            · have hd : decide (val 4294967296 part < val 4294967296 ps) = false := by rw [HPP.out.2.1, HPP.out.2.2.2]; exact decide_eq_false hgt
              have HDT := Lib.hid hd
              have HGT := Lib.hid hgt
              clear hd hgt
              go_upto_region 21 with (first
                | (go_at_call 103; refine HM.out.mono ?_; rintro e w6 ⟨rs, ⟨v6, rfl, q1, q2⟩, q3, q4, q5⟩; rw [HDT.out]; have hap6 := q1.apart hg5; have R6 := Lib.hid (And.intro q1.si hap6); have B6 := Lib.hid (bnx B5.out q2); have Z6 := Lib.hid (And.intro q3 (And.intro q4 q5)); clear q1 q2 q3 q4 q5 hap6))
              obtain ⟨A6, c6, rfl, _⟩ : ∃ A c, v6 = .slice A rs.length c ∧ rs.length ≤ c := by obtain ⟨A, c, hv, hc⟩ := R6.out.1.form; exact ⟨A, c, hv, hc.1⟩
              have hrl : rs.length = n + 1 := Z6.out.2.1.trans HPP.out.2.2.1
              have hrv : val 4294967296 rs + B * G.toNat = V := by
                have := Z6.out.2.2 (by rw [HPP.out.2.1, HPP.out.2.2.2]; exact HGT.out)
                rwa [HPP.out.2.1, HPP.out.2.2.2] at this
              have hrb : val 4294967296 rs < B := by
                have h1 := HGQ2.out
                rw [HQD.out] at h1
                have h2 := Nat.div_add_mod V B
                have h3 : V % B < B := Nat.mod_lt _ HBP.out
                have h4 : B * (V / B) ≤ B * G.toNat := Nat.mul_le_mul_left _ h1
                omega
              have HRS := Lib.hid (And.intro hrl (And.intro Z6.out.1 (And.intro (hrv.trans HV.out) hrb)))
              have A6' : Own w.heap.size 46 w6 .u64 (.slice (some ⟨g, 0, none⟩) la cap) ds := HA.out.below B6.out
              have Q6' : Own w.heap.size 46 w6 .u64 (.slice (some ⟨gq, 0, none⟩) D D) qs := HQ.out.below B6.out
              have b6' : SI w6 .u64 (.slice (some ad2) n c3) cs := HSB.out.below B6.out
              have B6' : Below w.heap.size w w6 := bnx HB.out B6.out
              have HA6 := Lib.hid (And.intro A6' (And.intro Q6' (And.intro b6' B6')))
              rw [hrl] at R6
              have hgw : Hid (w.heap.size ≤ g) := hg1
              clear hrv hrb A6' Q6' b6' B6'
              rw [hrl]
              clear hrl
              go_loopw [15] (fun kv wx => ∃ j : Nat, kv = .int .i64 (j : Int) ∧ j ≤ n + 1 ∧ Own w.heap.size 46 wx .u64 (.slice (some ⟨g, 0, none⟩) la cap) (spl ds rs m j) ∧ Own w.heap.size 46 wx .u64 (.slice (some ⟨gq, 0, none⟩) D D) qs ∧ SI wx .u64 (.slice (some ad2) n c3) cs ∧ SI wx .u64 (.slice A6 (n + 1) c6) rs ∧ Below w.heap.size w wx) (fun kv wx => n + 1 - (intOf kv).toNat)
              case atStart => exact ⟨0, rfl, by omega, by rw [spl_zero]; exact HA6.out.1, HA6.out.2.1, HA6.out.2.2.1, R6.out.1, HA6.out.2.2.2⟩
              case round =>
                obtain ⟨j, rfl, hj, ha, hq, hb, hr, hB⟩ := hrel
                have HAj := Lib.hid ha
                have HQj := Lib.hid hq
                have HSj := Lib.hid hb
                have HRj := Lib.hid hr
                have HBj := Lib.hid hB
                clear ha hq hb hr hB
                by_cases hjn : j ≤ n
                · obtain ⟨A, c, hv, _, hcells⟩ := HRj.out.form
                  obtain ⟨ad6, e, hc6⟩ := hcells j (by rw [HRS.out.1]; omega)
                  injection hv with e1 e2 e3
                  rw [← e1] at e
                  subst e
                  obtain ⟨y, hy⟩ : ∃ y, y = rs[j]?.getD 0 := ⟨_, rfl⟩
                  rw [← hy] at hc6
                  have HY := Lib.hid hy
                  obtain ⟨hc7, hf7⟩ := HAj.out.cellAt (m + j) (by rw [spl_len (by rw [HRS.out.1]; omega) (by omega)]; omega)
                  have hk1 : IntKind.i64.wrap ((m : Int) + (j : Int)) = (m : Int) + (j : Int) := IntWalk.i64_in _ (by omega)
                  have hk2 : ((m : Int) + (j : Int)).toNat = m + j := by omega
                  have hk3 : 0 ≤ (m : Int) + (j : Int) := by omega
                  have hk4 : (m : Int) + (j : Int) < (la : Int) := by omega
                  have hk5 : m + j < la := by omega
                  have hk6 : j < n + 1 := by omega
                  clear e1 e2 e3 hy hcells
                  go_wp2
                  go_roundw
                  case rel => exact ⟨j + 1, by go_num, by omega, by rw [← spl_succ (by rw [HRS.out.1]; omega) (by omega), ← HY.out]; exact HAj.out.set (m + j) y, HQj.out.keep (fun e1 => by have h1 : gq = g := Option.some.inj e1; omega) _ _, HSj.out.keep HAP.out _ _, HRj.out.keep R6.out.2 _ _, HBj.out.setCell (p := ⟨g, m + j, none⟩) hgw.out _⟩
                  case measure => simp [intOf]; omega
                · obtain rfl : j = n + 1 := by omega
                  have hdv := HDV.out.step (g := G.toNat) (by omega) HR4.out.2 HRS.out.1 HRS.out.2.1 HRS.out.2.2.1 HRS.out.2.2.2
                  have HDN := Lib.hid hdv
                  obtain ⟨hc8, hf8⟩ := HQj.out.cellAt m (by rw [HQU.out.1, HDD.out]; omega)
                  have hmD : m < D := by rw [HDD.out]; omega
                  clear hdv
                  go_wp2
                  go_roundw
                  case rel => exact ⟨(m : Int) - 1, m, _, _, by go_num, by omega, by omega, by omega, HDN.out, by rw [List.length_set]; exact HQU.out.1, HQU.out.2.set m G0 (by omega), HAj.out.keep HGQ.out.2 _ _, HQj.out.set m G, HSj.out.keep HGQ.out.1 _ _, HBj.out.setCell (p := ⟨gq, m, none⟩) (by have := I4.out.1; exact this) _⟩
                  case measure => simp [intOf]
        · obtain rfl : k = 0 := by omega
          have hlen : ds.length = la := HDV.out.len.trans HA1.out.1
          have hcl := cut_length ds
          have hsr := si_cut HA.out.si
          have hcv := cut_val 4294967296 ds
          have hcu : U32 (cut ds) := HDV.out.u32.take _
          have hfin := HDV.out
          rw [HBB.out] at hfin
          have hfin := hfin.fin (X := val 4294967296 xs) (by omega) HA1.out.2
          have hln : (cut ds).length ≤ la := by rw [hcl]; have := tlen_le ds ds.length; omega
          rw [← hcv] at hfin
          rw [← hcl] at hsr
          obtain ⟨rs0, hrs0⟩ : ∃ rs0, rs0 = cut ds := ⟨_, rfl⟩
          rw [← hrs0] at hsr hcu hln hfin hcl
          have hsh : Hid (Calls Tryz.prog 82 #[.slice (some ⟨g, 0, none⟩) la cap] wr (RetV wr (.slice (some ⟨g, 0, none⟩) rs0.length cap))) := by
            have := short_calls (some ⟨g, 0, none⟩) la cap ds wr HA.out.si (by omega)
            rw [← hcl] at this
            exact this
          obtain ⟨A, c, hv, _, hcx⟩ := hsr.form
          have hsA : some (⟨g, 0, none⟩ : Addr) = A := by injection hv
          subst hsA
          have HX := Lib.hid hcx
          have HCUU := Lib.hid (And.intro hcu hfin)
          obtain ⟨wo, rfl⟩ : ∃ wo : World, wo = wr := ⟨_, rfl⟩
          clear hcl hsr hcv hcu hfin hlen hv hcx hrs0
          go_upto_region 30 with (first
            | (go_at_call 82; refine hsh.out.mono ?_; rintro e w' ⟨rfl, rfl⟩)
            | (at_make; refine wpList_mk (W0 := wo) rfl _ _ 22 rfl wo.heap.size 46 8 .u64 Tryz.underlying22 info64 _ _ rs0.length _ _ rfl rfl rfl rfl (by omega) (by omega) (Below.refl _ _) (Nat.le_refl _) ?_; intro gd w7 h1 hgd h2 h3 h4 h5; have N7 := Lib.hid h1; have B7 := Lib.hid h3; clear h1 h2 h3 h4 h5))
          go_loopw [18, 19] (fun r i wx => ∃ (k : Nat) (q : Int) (zs : List Int), k ≤ rs0.length ∧ i = .int .i64 ((k : Int) - 1) ∧ r = .int .u64 q ∧ OneIn rs0 zs s k q ∧ Own wo.heap.size 46 wx .u64 (.slice (some ⟨gd, 0, none⟩) rs0.length rs0.length) zs ∧ Below wo.heap.size wo wx) (fun r i wx => (intOf i + 1).toNat)
          case atStart => exact ⟨rs0.length, 0, _, Nat.le_refl _, rfl, rfl, OneIn.start rs0 s hs1, N7.out, B7.out⟩
          case round =>
            obtain ⟨k, q, zs, hk, rfl, rfl, ht, ho, hb1⟩ := hrel
            have q0 := ht.r0
            have q1 := ht.r1
            by_cases hlt : 0 < k
            · obtain ⟨m, rfl⟩ : ∃ m, k = m + 1 := ⟨k - 1, by omega⟩
              have hlen := ht.len
              have hl1 : zs.length ≤ rs0.length := by omega
              have hl2 : rs0.length ≤ zs.length := by omega
              obtain ⟨ad9, e, hcx⟩ := HX.out m (by omega)
              have hcx' : wr.cell? (ad9.add m) = some (.int .u64 (rs0[m]?.getD 0)) := (hb1.cell (World.block_lt_of_cell? wo _ hcx)).trans hcx
              obtain rfl : (⟨g, 0, none⟩ : Addr) = ad9 := by injection e
              rw [add_plain] at hcx'
              obtain ⟨x0, x1⟩ := HCUU.out.1.at m
              obtain ⟨hco, hfo⟩ := ho.cellAt m (by omega)
              have hst := fun (x : Int) hx => ht.step (x := x) (by omega) hs1 hs2 hx
              generalize hx : rs0[m]?.getD 0 = x at x0 x1 hcx'
              have HST := Lib.hid (hst x hx x0 x1)
              have HO := Lib.hid ho
              have HB9 := Lib.hid hb1
              clear hst hx ho hb1 ht hlen hcx
              rw [show (((m + 1 : Nat) : Int) - 1) = (m : Int) by omega]
              go_wp2
              go_roundw
              case rel => exact ⟨m, (q * 4294967296 + x) % s, _, by omega, by go_num, rfl, HST.out, HO.out.set _ _, HB9.out.setCell (p := ⟨gd, m, none⟩) hgd _⟩
              case measure => simp [intOf]
            · obtain rfl : k = 0 := by omega
              obtain ⟨f1, f2⟩ := ht.fin hs1
              have HF := Lib.hid (And.intro ht.u32 (And.intro ht.len (f1.trans HCUU.out.2)))
              have HO := Lib.hid ho
              have HB9 := Lib.hid hb1
              clear f1 f2 ht ho hb1
              rw [show (((0 : Nat) : Int) - 1) = -1 by omega]
              go_wp2
              go_ret2
              exact ⟨qs, zs, ⟨_, _, rfl, HQ.out.below HB9.out, HO.out.base HB.out.size, bnx HB.out HB9.out⟩, HQU.out.2, by rw [HQU.out.1, HDD.out]; have := HLA.out; omega, HF.out.1, by rw [HF.out.2.1]; have := HLA.out; omega, HF.out.2.2⟩
end Go.Proofs.YtmbceiaeffnigaaGreatDoor
