/- radix.FastParse. -/
import Derived.Test.YtmbceiaeffnigaaGreatDoorK12
namespace Go.Proofs.YtmbceiaeffnigaaGreatDoor
open Go.RowKit

set_option maxHeartbeats 1000000 in
set_option maxRecDepth 100000 in
theorem fastParseR_arg (s : ByteArray) (b least : Int) (w : World) (hn : s.size ≤ 65536) (h : isB b = false ∨ least < 2 ∨ 64 < least) :
    Calls Tryz.prog 30 #[.string s, .int .i64 b, .int .i64 least] w (RetB w (.tuple #[.slice none 0 0, .int .i64 1])) := by
  have hd : decide ((65536 : Int) < (s.size : Int)) = false := decide_eq_false (by omega)
  go_enter Tryz.func30, Tryz.ntmps30
  go_upto_region 1 with (fail)
  obtain ⟨w1, hw1⟩ : ∃ w1, w1 = (w.alloc (.cells #[.int .i64 b] 3)).alloc (.cells #[.int .i64 least] 3) := ⟨_, rfl⟩
  have B1 : Below w.heap.size w w1 := by rw [hw1]; exact bnx2 (below_new _ _) (below_new _ _)
  have c0 : w1.cell? ⟨w.heap.size, 0, none⟩ = some (.int .i64 b) := by rw [hw1]; simp [go_sem]
  have c1 : w1.cell? ⟨w.heap.size + 1, 0, none⟩ = some (.int .i64 least) := by rw [hw1]; simp [go_sem]
  rw [← hw1]
  clear hw1
  have HB1 := Lib.hid B1
  clear B1
  rcases hB : isB b with _ | _
  · have HBB := Lib.hid hB
    clear hB h
    go_wp2_with (go_at_call 34; refine (isBaseR_calls _ _).mono ?_; rintro e w' ⟨rfl, rfl⟩; rw [HBB.out])
    go_ret2
    exact ⟨rfl, HB1.out⟩
  · have HBB := Lib.hid hB
    have h2 : least < 2 ∨ 64 < least := by
      rcases h with h | h
      · rw [hB] at h; cases h
      · exact h
    clear hB h
    rcases h2 with h2 | h2
    · have hd1 : decide (least < 2) = true := decide_eq_true h2
      go_wp2_with (go_at_call 34; refine (isBaseR_calls _ _).mono ?_; rintro e w' ⟨rfl, rfl⟩; rw [HBB.out])
      go_ret2
      exact ⟨rfl, HB1.out⟩
    · have hd1 : decide (least < 2) = false := decide_eq_false (by omega)
      have hd2 : decide (64 < least) = true := decide_eq_true h2
      go_wp2_with (go_at_call 34; refine (isBaseR_calls _ _).mono ?_; rintro e w' ⟨rfl, rfl⟩; rw [HBB.out])
      go_ret2
      exact ⟨rfl, HB1.out⟩

set_option maxHeartbeats 1000000 in
set_option maxRecDepth 100000 in
theorem fastParseR_form (s : ByteArray) (b least : Nat) (w : World) (hn : s.size ≤ 65536) (hb : 2 ≤ b) (hb2 : b ≤ 36) (hl : 2 ≤ least) (hl2 : least ≤ 64) (h : areB s b = false) :
    Calls Tryz.prog 30 #[.string s, .int .i64 (b : Int), .int .i64 (least : Int)] w (RetB w (.tuple #[.slice none 0 0, .int .i64 6])) := by
  have hd : decide ((65536 : Int) < (s.size : Int)) = false := decide_eq_false (by omega)
  have hd1 : decide ((least : Int) < 2) = false := decide_eq_false (by omega)
  have hd2 : decide ((64 : Int) < (least : Int)) = false := decide_eq_false (by omega)
  have HBB := Lib.hid (isB_yes (b := (b : Int)) (by omega) (by omega))
  have H := Lib.hid h
  clear h
  go_enter Tryz.func30, Tryz.ntmps30
  go_upto_region 1 with (fail)
  obtain ⟨w1, hw1⟩ : ∃ w1, w1 = (w.alloc (.cells #[.int .i64 (b : Int)] 3)).alloc (.cells #[.int .i64 (least : Int)] 3) := ⟨_, rfl⟩
  have B1 : Below w.heap.size w w1 := by rw [hw1]; exact bnx2 (below_new _ _) (below_new _ _)
  have c0 : w1.cell? ⟨w.heap.size, 0, none⟩ = some (.int .i64 (b : Int)) := by rw [hw1]; simp [go_sem]
  have c1 : w1.cell? ⟨w.heap.size + 1, 0, none⟩ = some (.int .i64 (least : Int)) := by rw [hw1]; simp [go_sem]
  rw [← hw1]
  clear hw1
  have HB1 := Lib.hid B1
  clear B1
  go_wp2_with (first
    | (go_at_call 34; refine (isBaseR_calls _ _).mono ?_; rintro e w' ⟨rfl, rfl⟩; rw [HBB.out])
    | (go_at_call 58; refine (areR_calls s b _ hb hb2).mono ?_; rintro e w1 ⟨rfl, q1⟩; rw [H.out]; have G1 := Lib.hid q1; clear q1))
  go_ret2
  exact ⟨rfl, bnx2 HB1.out G1.out⟩

/-! The zeros before a text. -/
theorem trim_num (b : Nat) : ∀ l : List UInt8, val b ((((Lib.trimLeftB l 48).map fun c => (c.toNat : Int)).map dig10).reverse) = val b (((l.map fun c => (c.toNat : Int)).map dig10).reverse)
  | [] => rfl
  | c :: l => by
    by_cases h : c = 48
    · subst h
      have ih := trim_num b l
      have h1 : Lib.trimLeftB (48 :: l) 48 = Lib.trimLeftB l 48 := by simp [Lib.trimLeftB, List.dropWhile_cons]
      rw [h1, ih, List.map_cons, List.map_cons, List.reverse_cons, val_append, show dig10 ((48 : UInt8).toNat : Int) = 0 by decide, val_cons, val_nil]
      simp
    · have h1 : Lib.trimLeftB (c :: l) 48 = c :: l := by simp [Lib.trimLeftB, List.dropWhile_cons, h]
      rw [h1]
theorem trim_bytes (s : ByteArray) : bytes ⟨(Lib.trimLeftB s.data.toList 48).toArray⟩ = (Lib.trimLeftB s.data.toList 48).map fun c => (c.toNat : Int) := by
  unfold bytes
  simp
theorem trim_pre (b : Nat) (s t : ByteArray) (ht : t = ⟨(Lib.trimLeftB s.data.toList 48).toArray⟩) : pre b t t.size = pre b s s.size := by
  subst ht
  rw [num_eq, num_eq, trim_bytes, trim_num]
  rfl
theorem trim_suffix (s t : ByteArray) (ht : t = ⟨(Lib.trimLeftB s.data.toList 48).toArray⟩) : ∃ L, bytes s = L ++ bytes t := by
  subst ht
  rw [trim_bytes]
  unfold bytes Lib.trimLeftB
  refine ⟨(s.data.toList.takeWhile (· == 48)).map fun c => (c.toNat : Int), ?_⟩
  rw [← List.map_append, List.takeWhile_append_dropWhile]
theorem trim_txt (s t : ByteArray) (ht : t = ⟨(Lib.trimLeftB s.data.toList 48).toArray⟩) : t.size ≤ s.size ∧ ∀ b, Txt s b → Txt t b := by
  obtain ⟨L, hL⟩ := trim_suffix s t ht
  have h1 : s.size = L.length + t.size := by
    rw [← bytes_length s, hL, List.length_append, bytes_length]
  refine ⟨by omega, fun b h j hj => ?_⟩
  have h2 := h (L.length + j) (by omega)
  rw [hL, List.getElem?_append_right (by omega)] at h2
  rwa [show L.length + j - L.length = j by omega] at h2

theorem len_prod2 (t L : Nat) (h1 : 2 ≤ L) (h2 : L ≤ 6) (ht : t ≤ 300) : ∃ P : Int, ((t : Int) - 1) * ((L : Int) - 1) = P ∧ wrap64 P = P ∧ decide (262144 < P) = false := by
  have h3 : ((t : Int) - 1) * ((L : Int) - 1) ≤ 300 * 5 := by
    rcases Nat.eq_zero_or_pos t with h | h
    · subst h
      omega
    · exact Int.mul_le_mul (by omega) (by omega) (by omega) (by omega)
  have h4 : -5 ≤ ((t : Int) - 1) * ((L : Int) - 1) := by
    rcases Nat.eq_zero_or_pos t with h | h
    · subst h
      omega
    · have := Int.mul_nonneg (show (0 : Int) ≤ (t : Int) - 1 by omega) (show (0 : Int) ≤ (L : Int) - 1 by omega)
      omega
  exact ⟨_, rfl, (IntWalk.i64_left _).symm.trans (IntWalk.i64_in _ (by omega)), decide_eq_false (by omega)⟩
theorem bitLen_base {b : Nat} (hb : 2 ≤ b) (hb2 : b ≤ 36) : 2 ≤ Lib.bitLen b ∧ Lib.bitLen b ≤ 6 := by
  refine ⟨?_, bitLen_le (by omega) (by omega)⟩
  have h1 := (bitLen_spec 6 b (by omega) (by omega) (by omega)).2
  rcases Nat.lt_or_ge (Lib.bitLen b) 2 with h2 | h2
  · have h3 : 2 ^ Lib.bitLen b ≤ 2 ^ 1 := Nat.pow_le_pow_right (by omega) (by omega)
    omega
  · exact h2

theorem PowMap.set0 {w : World} {m b g j : Nat} {q : Value} (h : PowMap w m b 0) (hg : m ≠ g) : PowMap (w.setCell ⟨g, j, none⟩ q) m b 0 := by
  obtain ⟨es, cl, hm, hf, hs, he⟩ := h
  refine ⟨es, cl, (Below.heap_setCell _ _ _ _ hg).trans hm, hf, hs, fun x hx => ?_⟩
  have h1 := List.length_pos_of_mem hx
  rw [Array.length_toList] at h1
  omega

set_option maxHeartbeats 1000000 in
set_option maxRecDepth 100000 in
theorem fastParseR_yes (s : ByteArray) (b least : Nat) (w : World) (hn : s.size ≤ 300) (hb : 2 ≤ b) (hb2 : b ≤ 36) (hl : 2 ≤ least) (hl2 : least ≤ 64) (h : areB s b = true) :
    Calls Tryz.prog 30 #[.string s, .int .i64 (b : Int), .int .i64 (least : Int)] w (RetNat w (pre b s s.size)) := by
  have ht : Txt s b := (of_decide_eq_true h).2
  have hd : decide ((65536 : Int) < (s.size : Int)) = false := decide_eq_false (by omega)
  have hd1 : decide ((least : Int) < 2) = false := decide_eq_false (by omega)
  have hd2 : decide ((64 : Int) < (least : Int)) = false := decide_eq_false (by omega)
  have HBB := Lib.hid (isB_yes (b := (b : Int)) (by omega) (by omega))
  have H := Lib.hid h
  obtain ⟨t, htr⟩ : ∃ t : ByteArray, t = ⟨(Lib.trimLeftB s.data.toList 48).toArray⟩ := ⟨_, rfl⟩
  have hpre := trim_pre b s t htr
  obtain ⟨hts, htt⟩ := trim_txt s t htr
  have HT := Lib.hid (htt b ht)
  have HPRE := Lib.hid hpre
  have HTR := Lib.hid htr
  obtain ⟨L, hL⟩ : ∃ L, L = Lib.bitLen b := ⟨_, rfl⟩
  obtain ⟨hL1, hL2⟩ := bitLen_base hb hb2
  rw [← hL] at hL1 hL2
  have HL := Lib.hid hL
  obtain ⟨P, p1, p2, p3⟩ := len_prod2 t.size L hL1 hL2 (by omega)
  clear h ht htr hpre htt hL
  go_enter Tryz.func30, Tryz.ntmps30
  go_upto_region 1 with (fail)
  obtain ⟨w1, hw1⟩ : ∃ w1, w1 = (w.alloc (.cells #[.int .i64 (b : Int)] 3)).alloc (.cells #[.int .i64 (least : Int)] 3) := ⟨_, rfl⟩
  have B1 : Below w.heap.size w w1 := by rw [hw1]; exact bnx2 (below_new _ _) (below_new _ _)
  have c0 : w1.cell? ⟨w.heap.size, 0, none⟩ = some (.int .i64 (b : Int)) := by rw [hw1]; simp [go_sem]
  have c1 : w1.cell? ⟨w.heap.size + 1, 0, none⟩ = some (.int .i64 (least : Int)) := by rw [hw1]; simp [go_sem]
  have z1 : w1.heap.size = w.heap.size + 2 := by rw [hw1]; simp
  rw [← hw1]
  clear hw1
  have HZ1 := Lib.hid z1
  clear z1
  have HB1 := Lib.hid B1
  clear B1
  go_upto_region 8 with (first
    | (go_at_call 59; refine (Tryz.strings_TrimLeft_one s 48 (by decide) _).mono ?_; rintro e w' ⟨rfl, rfl⟩; rw [← HTR.out])
    | (go_at_call 58; refine (areR_calls s b _ hb hb2).mono ?_; rintro e w2 ⟨rfl, q1⟩; rw [H.out]; have G1 := Lib.hid q1; have d0 := (q1.cell (World.block_lt_of_cell? w1 _ c0)).trans c0; have d1 := (q1.cell (World.block_lt_of_cell? w1 _ c1)).trans c1; clear q1 c0 c1)
    | (go_at_call 34; refine (isBaseR_calls _ _).mono ?_; rintro e w' ⟨rfl, rfl⟩; rw [HBB.out]))
  go_upto_region 10 with (go_at_call 60; refine (Tryz.bits_Len (b : Int) _ (by omega) (by omega)).mono ?_; rintro e w2 ⟨rfl, rfl⟩; rw [Int.toNat_natCast, ← HL.out])
  clear p1 p2 p3
  have hmm := @run_makeMap Tryz.prog
  go_upto_region 11 with (fail)
  have hz2 : w1.heap.size ≤ w2.heap.size := G1.out.size
  obtain ⟨w3, hw3⟩ : ∃ w3, w3 = (w2.alloc (.map #[] 0)).alloc (.cells #[.int .i64 (b : Int), .map (some w2.heap.size)] 89) := ⟨_, rfl⟩
  have B3 : Below w2.heap.size w2 w3 := by rw [hw3]; exact bnx2 (below_new _ _) (below_new _ _)
  have M3 : PowMap w3 w2.heap.size b 0 := by rw [hw3]; exact (PowMap.made w2 b).below (below_new _ _)
  have e0 : w3.cell? ⟨w2.heap.size + 1, 0, none⟩ = some (.int .i64 (b : Int)) := by rw [hw3]; simp [go_sem]
  have e1 : w3.cell? ⟨w2.heap.size + 1, 1, none⟩ = some (.map (some w2.heap.size)) := by rw [hw3]; simp [go_sem]
  have z3 : w3.heap.size = w2.heap.size + 2 := by rw [hw3]; simp
  rw [← hw3]
  clear hw3 hmm
  obtain ⟨m, hm⟩ : ∃ m, m = w2.heap.size := ⟨_, rfl⟩
  have k0 := (B3.cell (World.block_lt_of_cell? w2 _ d0)).trans d0
  have k1 := (B3.cell (World.block_lt_of_cell? w2 _ d1)).trans d1
  have H3 := Lib.hid (And.intro B3 (And.intro M3 (And.intro e0 (And.intro e1 (And.intro z3 (And.intro k0 k1))))))
  clear B3 M3 e0 e1 d0 d1 k0 k1
  go_upto_region 12 with (fail)
  obtain ⟨w4, hw4⟩ : ∃ w4, w4 = w3.alloc (.cells #[.nilFunc] 90) := ⟨_, rfl⟩
  have B4 : Below w3.heap.size w3 w4 := by rw [hw4]; exact below_new _ _
  have c2 : w4.cell? ⟨w2.heap.size + 2, 0, none⟩ = some .nilFunc := by rw [hw4, ← z3]; simp [go_sem]
  have f2 : w4.frozen? ⟨w2.heap.size + 2, 0, none⟩ = false := by rw [hw4, ← z3]; simp [go_sem]
  rw [← hw4]
  have H4 := Lib.hid (And.intro B4 c2)
  clear hw4 B4 z3 hm
  go_upto_region 13 with (fail)
  obtain ⟨w5, hw5⟩ : ∃ w5, w5 = w4.setCell ⟨w2.heap.size + 2, 0, none⟩ (.func (.func 61) #[] #[.pointer (some ⟨w.heap.size + 1, 0, none⟩), .pointer (some ⟨w.heap.size, 0, none⟩), .pointer (some ⟨w2.heap.size + 2, 0, none⟩), .pointer (some ⟨w2.heap.size + 1, 0, none⟩)]) := ⟨_, rfl⟩
  rw [← hw5]
  obtain ⟨B3, M3, e0, e1, z3, k0, k1⟩ := H3.out
  obtain ⟨B4, c2'⟩ := H4.out
  have hzz : w.heap.size + 2 ≤ w2.heap.size := by
    have := HZ1.out
    omega
  have hB34 : Below w2.heap.size w2 w4 := bnx2 B3 B4
  have hB5 : Below w2.heap.size w2 w5 := by rw [hw5]; exact hB34.setCell (p := ⟨w2.heap.size + 2, 0, none⟩) (by show w2.heap.size ≤ w2.heap.size + 2; omega) _
  have far : ∀ g o v, g < w2.heap.size + 2 → w4.cell? ⟨g, o, none⟩ = some v → w5.cell? ⟨g, o, none⟩ = some v := fun g o v hg hc => by
    rw [hw5]
    exact (World.cell?_setCell_far _ _ _ _ (by show ¬ (w2.heap.size + 2 = g); omega)).trans hc
  have hRS : ReadS (w.heap.size + 1) w.heap.size (w2.heap.size + 2) (w2.heap.size + 1) w2.heap.size b least w5 := by
    refine ⟨far _ _ _ (by omega) ((B4.cell (World.block_lt_of_cell? w3 _ k1)).trans k1), far _ _ _ (by omega) ((B4.cell (World.block_lt_of_cell? w3 _ k0)).trans k0), ?_, far _ _ _ (by omega) ((B4.cell (World.block_lt_of_cell? w3 _ e0)).trans e0), far _ _ _ (by omega) ((B4.cell (World.block_lt_of_cell? w3 _ e1)).trans e1)⟩
    rw [hw5]
    exact World.cell?_setCell_same' _ _ _ (by rw [c2']; rfl)
  have hPM : PowMap w5 w2.heap.size b 0 := by
    have h4 := M3.below B4
    rw [hw5]
    exact h4.set0 (by omega)
  have HRD := Lib.hid (readC_calls _ _ _ _ _ b least hb hb2 hl hl2 t.size t 0 w5 (Nat.le_refl _) (by omega) HT.out (by omega) hRS hPM)
  have hcr := hRS.cr
  have hnw := num_words hb hb2 HT.out (by omega)
  have HB5 := Lib.hid hB5
  have hzz2 : w.heap.size ≤ w2.heap.size := by omega
  clear far hB34 hB5 hRS hPM B3 M3 e0 e1 z3 k0 k1 B4 c2' hw5 c2 f2
  rw [HPRE.out] at hnw HRD
  go_wp2_with (first
    | (go_at_call 41; refine (fitR_calls _ _ _ _ (by omega)).mono ?_; rintro e w' ⟨rfl, rfl⟩)
    | (go_at_call 61; refine HRD.out.mono ?_; rintro e w6 ⟨v6, rfl, q1, q2, q3⟩; obtain ⟨A6, c6, rfl, _, _⟩ := q1.form; have G6 := Lib.hid (And.intro q1 q3); clear q1 q2 q3))
  go_ret2
  refine ⟨_, rfl, G6.out.1, ?_⟩
  have hw2 : Below w.heap.size w w2 := bnx2 HB1.out G1.out
  exact (bnx2 hw2 HB5.out).grown G6.out.2 (by have := (bnx2 hw2 HB5.out).size; omega) (fun j hj => by injection hj with hj; omega)
end Go.Proofs.YtmbceiaeffnigaaGreatDoor
