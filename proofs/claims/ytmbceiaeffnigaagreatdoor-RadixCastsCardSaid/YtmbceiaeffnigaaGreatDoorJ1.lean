/- Long division in the specification: what holds from digit to digit (plain), and the difference of two rows. -/
import Derived.Test.YtmbceiaeffnigaaGreatDoorH3
namespace Go.Proofs.YtmbceiaeffnigaaGreatDoor
open Go.RowKit

/-! ### plain -/
theorem val_take_drop (b : Nat) (xs : List Int) (k : Nat) (h : k ≤ xs.length) : val b xs = val b (xs.take k) + b ^ k * val b (xs.drop k) := by
  have := val_append b (xs.take k) (xs.drop k)
  rw [List.take_append_drop, List.length_take, Nat.min_eq_left h] at this
  exact this
/-- What holds in the division, the digits from k on being done. -/
structure DivAt (a1 ds : List Int) (B k : Nat) : Prop where
  len : ds.length = a1.length
  u32 : U32 ds
  lt : val 4294967296 (ds.drop k) < B
  md : val 4294967296 ds % B = val 4294967296 a1 % B
theorem DivAt.start (zs : List Int) (B n : Nat) (hu : U32 zs) (hn : 1 ≤ n) (hB : 4294967296 ^ (n - 1) ≤ B) : DivAt (zs ++ [0]) (zs ++ [0]) B ((zs ++ [0]).length - n) := by
  refine ⟨rfl, hu.app (U32.one (by omega) (by omega)), ?_, rfl⟩
  have hk : (zs ++ [0]).length - n ≤ zs.length := by simp; omega
  have hk2 : zs.length - ((zs ++ [0]).length - n) ≤ n - 1 := by simp; omega
  generalize (zs ++ [0]).length - n = k at hk hk2
  rw [List.drop_append_of_le_length hk, val_snoc]
  have h1 := val_lt32 _ (hu.drop k)
  rw [List.length_drop] at h1
  have h2 : (4294967296 : Nat) ^ (zs.length - k) ≤ 4294967296 ^ (n - 1) := Nat.pow_le_pow_right (by omega) hk2
  simp only [Int.toNat_zero, Nat.mul_zero, Nat.add_zero]
  omega
theorem DivAt.above {a1 ds : List Int} {B i n : Nat} (h : DivAt a1 ds B (i + 1)) (hi : i + n < ds.length) (hB : B < 4294967296 ^ n) : val 4294967296 (ds.drop (i + n + 1)) = 0 := by
  have h1 := val_take_drop 4294967296 (ds.drop (i + 1)) n (by rw [List.length_drop]; omega)
  rw [List.drop_drop] at h1
  have h2 := h.lt
  rw [h1] at h2
  rw [show i + n + 1 = i + 1 + n by omega]
  generalize val 4294967296 (ds.drop (i + 1 + n)) = v at *
  cases v with
  | zero => rfl
  | succ v =>
    have : (4294967296 : Nat) ^ n ≤ 4294967296 ^ n * (v + 1) := Nat.le_mul_of_pos_right _ (by omega)
    omega
theorem DivAt.digit {a1 ds : List Int} {B i m t : Nat} (h : DivAt a1 ds B (i + 1)) (hi : i + (m + 1) < ds.length) (hB : B < 4294967296 ^ (m + 1)) (ht : 1 ≤ t) (hb : 4294967296 ^ m * t ≤ B) :
    val 4294967296 (ds.drop i) / B ≤ ((ds[i + (m + 1)]?.getD 0).toNat * 4294967296 + (ds[i + m]?.getD 0).toNat) / t ∧ val 4294967296 (ds.drop i) / B ≤ 4294967295 := by
  have h0 := h.above hi hB
  have hP : 0 < (4294967296 : Nat) ^ m := Nat.pow_pos (by omega)
  have hBp : 0 < B := Nat.lt_of_lt_of_le (Nat.mul_pos hP (by omega)) hb
  constructor
  · have h1 := val_take_drop 4294967296 (ds.drop i) m (by rw [List.length_drop]; omega)
    rw [List.drop_drop] at h1
    have h2 : val 4294967296 ((ds.drop i).take m) < 4294967296 ^ m := by
      have := val_lt32 _ ((h.u32.drop i).take m)
      rw [List.length_take, List.length_drop, Nat.min_eq_left (by omega)] at this
      exact this
    have h3 : val 4294967296 (ds.drop (i + m)) = (ds[i + (m + 1)]?.getD 0).toNat * 4294967296 + (ds[i + m]?.getD 0).toNat := by
      rw [val_drop, val_drop, show i + m + 1 = i + (m + 1) from rfl, h0]
      omega
    rw [h3] at h1
    generalize (ds[i + (m + 1)]?.getD 0).toNat * 4294967296 + (ds[i + m]?.getD 0).toNat = top at *
    generalize val 4294967296 ((ds.drop i).take m) = low at *
    rw [Nat.le_div_iff_mul_le (by omega)]
    generalize hV : val 4294967296 (ds.drop i) = V at *
    have h4 : V / B * B ≤ V := Nat.div_mul_le_self V B
    generalize V / B = q at *
    generalize (4294967296 : Nat) ^ m = P at *
    have h5 : q * (P * t) ≤ q * B := Nat.mul_le_mul_left q hb
    have h6 : P * (q * t) < P * (top + 1) := by
      have e1 : q * (P * t) = P * (q * t) := by rw [Nat.mul_left_comm]
      have e2 : P * (top + 1) = P * top + P := by rw [Nat.mul_add, Nat.mul_one]
      omega
    have := Nat.lt_of_mul_lt_mul_left h6
    omega
  · rw [val_drop]
    have h1 := h.lt
    have h2 := h.u32.at i
    have h3 : (ds[i]?.getD 0).toNat < 4294967296 := by omega
    refine Nat.le_of_lt_succ (Nat.div_lt_of_lt_mul ?_)
    generalize (ds[i]?.getD 0).toNat = x at *
    generalize val 4294967296 (ds.drop (i + 1)) = y at *
    have h4 : 4294967296 * (y + 1) ≤ 4294967296 * B := Nat.mul_le_mul_left _ h1
    have e : B * (4294967295 + 1) = 4294967296 * B := Nat.mul_comm _ _
    show x + 4294967296 * y < B * (4294967295 + 1)
    omega

/-- The digits from i on, so many of them put in place of those that were there. -/
def spl (ds rs : List Int) (i k : Nat) : List Int := ds.take i ++ rs.take k ++ ds.drop (i + k)
theorem spl_zero (ds rs : List Int) (i : Nat) : spl ds rs i 0 = ds := by simp [spl]
theorem spl_len {ds rs : List Int} {i k : Nat} (hk : k ≤ rs.length) (hi : i + k ≤ ds.length) : (spl ds rs i k).length = ds.length := by simp [spl]; omega
theorem spl_succ {ds rs : List Int} {i k : Nat} (hk : k < rs.length) (hi : i + k < ds.length) : (spl ds rs i k).set (i + k) (rs[k]?.getD 0) = spl ds rs i (k + 1) := by
  have hl : (ds.take i ++ rs.take k).length = i + k := by simp; omega
  unfold spl
  rw [List.set_append_right _ _ (by omega), hl, Nat.sub_self, drop_get hi, List.set_cons_zero, take_succ hk, show i + (k + 1) = i + k + 1 from rfl]
  simp
theorem DivAt.step {a1 ds rs : List Int} {B i n g : Nat} (h : DivAt a1 ds B (i + 1)) (hi : i + n < ds.length) (hB : B < 4294967296 ^ n) (hl : rs.length = n + 1) (hu : U32 rs)
    (hv : val 4294967296 rs + B * g = val 4294967296 (ds.drop i)) (hr : val 4294967296 rs < B) : DivAt a1 (spl ds rs i (n + 1)) B i := by
  have h0 := h.above hi hB
  have hs : spl ds rs i (n + 1) = ds.take i ++ (rs ++ ds.drop (i + n + 1)) := by
    unfold spl
    rw [List.take_of_length_le (show rs.length ≤ n + 1 by omega), List.append_assoc]
    rfl
  have htl : (ds.take i).length = i := by simp; omega
  have hd : (spl ds rs i (n + 1)).drop i = rs ++ ds.drop (i + n + 1) := by
    rw [hs, List.drop_append, htl, Nat.sub_self, List.drop_zero, List.drop_eq_nil_of_le (by omega), List.nil_append]
  refine ⟨(spl_len (by omega) (by omega)).trans h.len, ?_, ?_, ?_⟩
  · rw [hs]
    exact (h.u32.take i).app (hu.app (h.u32.drop _))
  · rw [hd, val_append, h0, Nat.mul_zero, Nat.add_zero]
    exact hr
  · rw [← h.md, hs, val_append, htl, val_append, h0, Nat.mul_zero, Nat.add_zero, val_take_drop 4294967296 ds i (by omega), ← hv, Nat.mul_add, ← Nat.add_assoc]
    generalize (4294967296 : Nat) ^ i = P
    rw [show P * (B * g) = B * (P * g) by rw [Nat.mul_left_comm], Nat.add_mul_mod_self_left]
theorem part_val {a1 ds : List Int} {B i n : Nat} (h : DivAt a1 ds B (i + 1)) (hi : i + n < ds.length) (hB : B < 4294967296 ^ n) : val 4294967296 ((ds.take (i + n + 1)).drop i) = val 4294967296 (ds.drop i) := by
  have h0 := h.above hi hB
  have h1 := val_take_drop 4294967296 (ds.drop i) (n + 1) (by rw [List.length_drop]; omega)
  rw [List.drop_drop, show i + (n + 1) = i + n + 1 from rfl, h0, Nat.mul_zero, Nat.add_zero] at h1
  rw [h1, List.drop_take, show i + n + 1 - i = n + 1 by omega]
/-- The end: the remainder, the scale divided out again. -/
theorem DivAt.fin {a1 ds : List Int} {X Y s : Nat} (h : DivAt a1 ds (Y * s) 0) (hs : 1 ≤ s) (ha : val 4294967296 a1 = X * s) : val 4294967296 ds / s = X % Y := by
  have h1 := h.lt
  have h2 := h.md
  rw [List.drop_zero] at h1
  rw [Nat.mod_eq_of_lt h1, ha, Nat.mul_mod_mul_right] at h2
  rw [h2, Nat.mul_div_cancel _ (by omega)]

/-- A part of a slice. -/
theorem SI.sub {w : World} {k : IntKind} {ad : Addr} {n c : Nat} {xs : List Int} (h : SI w k (.slice (some ad) n c) xs) (i j : Nat) (hij : i ≤ j) (hj : j ≤ xs.length) : SI w k (.slice (some (ad.add i)) (j - i) (c - i)) ((xs.take j).drop i) := by
  obtain ⟨A, c', hv, hc, hr⟩ := h
  injection hv with h1 h2 h3
  subst h2 h3
  have hl : ((xs.take j).drop i).length = j - i := by simp; omega
  refine ⟨_, _, by rw [hl], ⟨by rw [hl]; omega, fun h => by cases h⟩, fun m hm => ?_⟩
  rw [hl] at hm
  obtain ⟨ad', e, hcell⟩ := hr (i + m) (by omega)
  rw [← h1] at e
  injection e with e
  subst e
  refine ⟨_, rfl, ?_⟩
  have e1 : (ad.add i).add m = ad.add (i + m) := by
    cases m with
    | zero => rw [add_zero]; rfl
    | succ m =>
      cases i with
      | zero => rw [add_zero, Nat.zero_add]
      | succ i => rw [add_succ, add_succ, show i + 1 + (m + 1) = (i + m + 1) + 1 by omega, add_succ]; simp; omega
  rw [e1, hcell]
  congr 2
  simp only [List.getD_eq_getElem?_getD, List.getElem?_drop]
  rw [List.getElem?_take, if_pos (by omega)]

/-! ### the difference -/
theorem minus_step {xs ys out : List Int} {k : Nat} {c x y : Int} (hl : out.length = k) (ho : U32 out) (hc0 : 0 ≤ c) (hc1 : c ≤ 1)
    (hx : xs[k]?.getD 0 = x) (hy : ys[k]?.getD 0 = y) (x0 : 0 ≤ x) (x1 : x < 4294967296) (y0 : 0 ≤ y) (y1 : y < 4294967296)
    (hv : val 4294967296 out + val 4294967296 (ys.take k) = val 4294967296 (xs.take k) + 4294967296 ^ k * c.toNat) :
    (out ++ [(x + 4294967296 - y - c) % 4294967296]).length = k + 1 ∧ U32 (out ++ [(x + 4294967296 - y - c) % 4294967296]) ∧ 0 ≤ 1 - (x + 4294967296 - y - c) / 4294967296 ∧ 1 - (x + 4294967296 - y - c) / 4294967296 ≤ 1 ∧
    val 4294967296 (out ++ [(x + 4294967296 - y - c) % 4294967296]) + val 4294967296 (ys.take (k + 1)) = val 4294967296 (xs.take (k + 1)) + 4294967296 ^ (k + 1) * (1 - (x + 4294967296 - y - c) / 4294967296).toNat := by
  refine ⟨by simp [hl], ho.app (U32.one (by omega) (by omega)), by omega, by omega, ?_⟩
  rw [val_snoc, val_take_succ, val_take_succ, hl, hx, hy, Nat.pow_succ]
  have e1 : ((x + 4294967296 - y - c) % 4294967296).toNat + y.toNat + c.toNat = x.toNat + 4294967296 * (1 - (x + 4294967296 - y - c) / 4294967296).toNat := by omega
  generalize ((x + 4294967296 - y - c) % 4294967296).toNat = a at e1 ⊢
  generalize (1 - (x + 4294967296 - y - c) / 4294967296).toNat = b at e1 ⊢
  generalize 4294967296 ^ k = p at hv ⊢
  have : p * (a + y.toNat + c.toNat) = p * (x.toNat + 4294967296 * b) := by rw [e1]
  grind
/-- Whether one had to be borrowed; and if not: the difference. -/
theorem minus_fin {xs ys out : List Int} {c : Int} (hl : ys.length = xs.length) (hlo : out.length = xs.length) (hc0 : 0 ≤ c) (hc1 : c ≤ 1) (ho : U32 out) (hx : U32 xs)
    (hv : val 4294967296 out + val 4294967296 ys = val 4294967296 xs + 4294967296 ^ xs.length * c.toNat) :
    (c == 1) = decide (val 4294967296 xs < val 4294967296 ys) ∧ (¬ val 4294967296 xs < val 4294967296 ys → val 4294967296 out + val 4294967296 ys = val 4294967296 xs) := by
  have h1 := val_lt32 _ ho
  have h2 := val_lt32 _ hx
  rw [hlo] at h1
  rcases (show c = 0 ∨ c = 1 by omega) with rfl | rfl
  · simp only [Int.toNat_zero, Nat.mul_zero, Nat.add_zero] at hv
    exact ⟨by rw [decide_eq_false (by omega)]; rfl, fun _ => hv⟩
  · rw [show Int.toNat 1 = 1 from rfl, Nat.mul_one] at hv
    exact ⟨by rw [decide_eq_true (by omega)]; rfl, fun h => by omega⟩
/-- It returns the difference, if none had to be borrowed, and whether one had to be. -/
def RetMinus (w : World) (e : Nat) (xs ys : List Int) (en : Ending) (w' : World) : Prop := ∃ zs, RetOwnT w e .u64 zs (.bool (decide (val 4294967296 xs < val 4294967296 ys))) en w' ∧ U32 zs ∧ zs.length = xs.length ∧ (¬ val 4294967296 xs < val 4294967296 ys → val 4294967296 zs + val 4294967296 ys = val 4294967296 xs)

set_option maxHeartbeats 1000000 in
set_option maxRecDepth 100000 in
theorem minus_calls (u v : Value) (xs ys : List Int) (w : World) (hr : SI w .u64 u xs) (hs : SI w .u64 v ys) (hu : U32 xs) (hv : U32 ys) (hl : ys.length = xs.length) (hn : xs.length ≤ 400000) :
    Calls Tryz.prog 103 #[u, v] w (RetMinus w 46 xs ys) := by
  obtain ⟨A, c, rfl, hc, hcx⟩ := hr.form
  obtain ⟨A', c', rfl, hc', _⟩ := hs.form
  have HX := Lib.hid hcx
  have HS := Lib.hid hs
  have HU := Lib.hid hu
  have HV := Lib.hid hv
  have HL := Lib.hid hl
  have hyn : ys.length ≤ 400000 := by omega
  clear hr hs hu hv hcx hl
  go_enter Tryz.func103, Tryz.ntmps103
  go_wp2
  go_loopw [6, 7, 8] (fun o c i wr => ∃ (k : Nat) (q : Int) (out : List Int), k ≤ xs.length ∧ i = .int .i64 k ∧ c = .int .u64 q ∧ 0 ≤ q ∧ q ≤ 1 ∧ out.length = k ∧ U32 out ∧ val 4294967296 out + val 4294967296 (ys.take k) = val 4294967296 (xs.take k) + 4294967296 ^ k * q.toNat ∧ Own w.heap.size 46 wr .u64 o out ∧ Below w.heap.size w wr) (fun o c i wr => (xs.length - (intOf i).toNat))
  case atStart => exact ⟨0, 0, [], Nat.zero_le _, rfl, rfl, by omega, by omega, rfl, U32.nil, by simp [val], Own.nil _ _ _ _, Below.refl _ _⟩
  case round =>
    obtain ⟨k, q, out, hk, rfl, rfl, hq0, hq1, hol, hou, hov, ho, hb⟩ := hrel
    have hol1 : out.length ≤ k := by omega
    by_cases hlt : k < xs.length
    · obtain ⟨x0, x1⟩ := HU.out.at k
      obtain ⟨y0, y1⟩ := HV.out.at k
      obtain ⟨ad, e, hcx⟩ := HX.out k hlt
      subst e
      have hcx' : wr.cell? (ad.add k) = some (.int .u64 (xs[k]?.getD 0)) := (hb.cell (World.block_lt_of_cell? w _ hcx)).trans hcx
      clear hcx
      have hst := fun (x y : Int) hx hy a b c d => minus_step (xs := xs) (ys := ys) (x := x) (y := y) hol hou hq0 hq1 hx hy a b c d hov
      generalize hx : xs[k]?.getD 0 = x at x0 x1 hcx'
      generalize hy : ys[k]?.getD 0 = y at y0 y1
      have HST := Lib.hid (hst x y hx hy x0 x1 y0 y1)
      have HY := Lib.hid hy
      have HSr := Lib.hid (HS.out.below hb)
      have HO := Lib.hid ho
      have HB := Lib.hid hb
      obtain ⟨z, hz⟩ : ∃ z, z = x + 4294967296 - y - q := ⟨_, rfl⟩
      have HZ := Lib.hid hz
      have hz0 : 0 ≤ z := by omega
      have hz1 : z < 8589934592 := by omega
      have e1 : IntKind.u64.wrap (x + 4294967296) = x + 4294967296 := wrap_u64 _ (by omega) (by omega)
      have e2 : IntKind.u64.wrap (x + 4294967296 - y) = x + 4294967296 - y := wrap_u64 _ (by omega) (by omega)
      have e3 : IntKind.u64.wrap (x + 4294967296 - y - q) = z := by rw [← hz]; exact wrap_u64 _ (by omega) (by omega)
      have e4 : z.tmod 4294967296 = z % 4294967296 := Int.tmod_eq_emod_of_nonneg hz0
      have e5 : IntKind.u64.wrap (z.tdiv 4294967296) = z / 4294967296 := by rw [Int.tdiv_eq_ediv_of_nonneg hz0]; exact wrap_u64 _ (by omega) (by omega)
      have e6 : IntKind.u64.wrap (1 - z / 4294967296) = 1 - z / 4294967296 := wrap_u64 _ (by omega) (by omega)
      rw [← hz] at HST
      have hdg : ∀ m, Calls Tryz.prog 84 #[.slice A' ys.length c', .int .i64 (k : Int)] (wr.drewN m) (RetV (wr.drewN m) (.int .u64 y)) := fun m => by
        have := digit_calls _ ys (k : Int) (wr.drewN m) HSr.out (by omega) (by omega)
        rwa [Int.toNat_natCast, HY.out] at this
      have HDG := Lib.hid hdg
      clear hdg hst hx hy ho hb hol hou hov hz
      go_wp2
      go_quiet ((go_at_call 84; exact (HDG.out _).mono (fun e w1 h => ⟨h.1, _, h.2.symm⟩)))
      go_wp2_with (at_builtin; refine wpList_app1 (W0 := w) rfl (.tmp 27) (.tmp 30) 22 rfl w.heap.size 46 8 .u64 Tryz.underlying22 info64 _ out _ rfl rfl (show Own w.heap.size 46 (wr.drewN nq) .u64 _ out from HO.out) (by omega) (by omega) (below_drewN HB.out nq) HB.out.size ?_; intro v' w1 h1 h2 h3 h4; clear h3 h4; have H1 := Lib.hid h1; have H2 := Lib.hid h2; clear h1 h2)
      go_roundw
      case rel => exact ⟨k + 1, 1 - z / 4294967296, _, by omega, by go_num, rfl, HST.out.2.2.1, HST.out.2.2.2.1, HST.out.1, HST.out.2.1, HST.out.2.2.2.2, H1.out, H2.out⟩
      case measure => simp [intOf]; omega
    · obtain rfl : k = xs.length := by omega
      have e1 : xs.take xs.length = xs := List.take_of_length_le (by omega)
      have e2 : ys.take xs.length = ys := List.take_of_length_le (by have := HL.out; omega)
      rw [e1, e2] at hov
      have hfin := minus_fin HL.out hol hq0 hq1 hou HU.out hov
      have HF := Lib.hid (And.intro hfin (And.intro hou hol))
      have HO := Lib.hid ho
      have HB := Lib.hid hb
      clear hfin ho hb hol hou hov e1 e2
      go_wp2
      go_ret2
      exact ⟨out, ⟨u6, by rw [← HF.out.1.1]; rfl, HO.out, HB.out⟩, HF.out.2.1, HF.out.2.2, HF.out.1.2⟩
end Go.Proofs.YtmbceiaeffnigaaGreatDoor
