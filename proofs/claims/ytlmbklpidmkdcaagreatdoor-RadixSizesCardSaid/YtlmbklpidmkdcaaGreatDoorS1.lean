/- The specification's shifts by whole words, and by one bit. -/
import Derived.Test.YtlmbklpidmkdcaaGreatDoorE8
namespace Go.Proofs.YtlmbklpidmkdcaaGreatDoor
open Go.RowKit

set_option maxHeartbeats 1000000 in
set_option maxRecDepth 100000 in
theorem cutz_calls (v : Value) (d0 : List Int) (z n : Nat) (w : World) (hr : SI w .u64 v (d0 ++ List.replicate z 0)) (hu : U32 d0) (hd : d0.length ≤ 2 * n) (hz : d0.length + z ≤ 2 * n + 2) (hn : n ≤ 400000) :
    Calls Tryz.prog 75 #[v, .int .i64 n] w (RetOwnT w 42 .u64 (joins (d0 ++ List.replicate (2 * n - d0.length) 0)) (.int .u64 0)) := by
  have HR := Lib.hid hr
  have HU := Lib.hid hu
  clear hr hu
  go_enter Tryz.func75, Tryz.ntmps75
  go_wp2_with (at_builtin; refine wpList_app (W0 := w) rfl (.tmp 7) (.tmp 8) 22 rfl w.heap.size 42 8 .u64 Tryz.underlying22 info64 (.slice none 0 0) _ [] (d0 ++ List.replicate z 0) rfl rfl (Own.nil _ _ _ _) HR.out (by simp; omega) (by omega) (Below.refl _ _) (Nat.le_refl _) ?_; intro v1 w1 h1 h2 h3 h4; clear h3 h4)
  have H1 : Own w.heap.size 42 w1 .u64 v1 (d0 ++ List.replicate z 0) := by simpa using h1
  replace H1 := Lib.hid H1
  have H2 := Lib.hid h2
  clear h1 h2
  go_loopw [6] (fun u wr => ∃ j : Nat, d0.length + j ≤ 2 * n + 2 ∧ Own w.heap.size 42 wr .u64 u (d0 ++ List.replicate j 0) ∧ Below w.heap.size w wr) (fun u wr => (2 * n + 2 - (match u with | .slice _ l _ => l | _ => 0)))
  case atStart => exact ⟨z, hz, H1.out, H2.out⟩
  case round =>
    obtain ⟨j, hj, ho, hb⟩ := hrel
    obtain ⟨A, c, rfl, hc⟩ := ho.slice
    have hl : (d0 ++ List.replicate j 0).length = d0.length + j := by simp
    rw [hl] at ho hc ⊢
    have HO := Lib.hid ho
    have HB := Lib.hid hb
    have HL := Lib.hid hl
    clear ho hb hl
    by_cases hlt : d0.length + j < 2 * n + 2
    · go_wp2_with (at_builtin; refine wpList_app1 (W0 := w) rfl (.tmp 16) (.tmp 17) 22 rfl w.heap.size 42 8 .u64 Tryz.underlying22 info64 _ (d0 ++ List.replicate j 0) 0 rfl rfl HO.out (by rw [HL.out]; omega) (by omega) HB.out HB.out.size ?_; intro v2 w2 h1 h2 h3 h4; clear h3 h4)
      have H1' := Lib.hid h1
      have H2' := Lib.hid h2
      obtain ⟨A2, c2, e2, hc2⟩ := h1.slice
      have hl2 : (d0 ++ List.replicate j 0 ++ [0]).length = d0.length + j + 1 := by simp; omega
      rw [hl2] at e2
      subst e2
      clear h1 h2 hl2 hc2
      go_wp2
      go_roundw
      case rel => exact ⟨j + 1, by omega, by have h := H1'.out; rw [List.append_assoc, ← List.replicate_succ'] at h; exact h, H2'.out⟩
      case measure => simp; omega
    · have hj2 : d0.length + j ≤ 2 * n + 2 := hj
      obtain ⟨g, cap, e, hg1, hg2, hg3⟩ := HO.out.form (by rw [HL.out]; omega)
      rw [HL.out] at e
      injection e with e1 e2 e3
      subst e1
      subst e3
      clear e2
      have hx0 : (d0 ++ List.replicate j 0)[2 * n]?.getD 0 = 0 := by
        rw [List.getElem?_append_right (by omega)]
        cases h : (List.replicate j (0 : Int))[2 * n - d0.length]? with
        | none => rfl
        | some x => have := List.mem_of_getElem? h; simp at this; simp [this.2]
      have hx1 : (d0 ++ List.replicate j 0)[2 * n + 1]?.getD 0 = 0 := by
        rw [List.getElem?_append_right (by omega)]
        cases h : (List.replicate j (0 : Int))[2 * n + 1 - d0.length]? with
        | none => rfl
        | some x => have := List.mem_of_getElem? h; simp at this; simp [this.2]
      have hc0 := (HO.out.cellAt (2 * n) (by rw [HL.out]; omega)).1
      have hc1 := (HO.out.cellAt (2 * n + 1) (by rw [HL.out]; omega)).1
      rw [hx0] at hc0
      rw [hx1] at hc1
      have htk : (d0 ++ List.replicate j 0).take (2 * n) = d0 ++ List.replicate (2 * n - d0.length) 0 := by
        rw [List.take_append, List.take_of_length_le hd, List.take_replicate, Nat.min_eq_left (by omega)]
      have hsi : SI wr.drew .u64 (.slice (some ⟨g, 0, none⟩) (2 * n) c) (d0 ++ List.replicate (2 * n - d0.length) 0) := by
        rw [← htk]
        exact (HO.out.si.drew).take (2 * n) (by rw [HL.out]; omega)
      have HS := Lib.hid hsi
      have hf0 : (2 * n + 1) < d0.length + j := by omega
      have hf1 : 2 * n < d0.length + j := by omega
      clear hsi htk hx0 hx1
      go_wp2
      have hw1 : IntKind.i64.wrap (2 * (n : Int)) = 2 * (n : Int) := IntWalk.i64_in _ (by omega)
      have hw2 : IntKind.i64.wrap (2 * (n : Int) + 1) = 2 * (n : Int) + 1 := IntWalk.i64_in _ (by omega)
      have hw3 : (2 * (n : Int)).toNat = 2 * n := by omega
      have hw4 : (2 * (n : Int) + 1).toNat = 2 * n + 1 := by omega
      have hw5 : 0 ≤ 2 * (n : Int) := by omega
      have hw6 : 0 ≤ 2 * (n : Int) + 1 := by omega
      have hw7 : 2 * n ≤ c := by omega
      have hw8 : 2 * (n : Int) ≤ (c : Int) := by omega
      have hf2 : 2 * (n : Int) < (d0.length : Int) + (j : Int) := by omega
      have hf3 : 2 * (n : Int) + 1 < (d0.length : Int) + (j : Int) := by omega
      go_region_held3 (fun w' => w'.cell? ⟨g, 2 * n, none⟩ = some (.int .u64 0) ∧ w'.cell? ⟨g, 2 * n + 1, none⟩ = some (.int .u64 0)) (first | go_keep | exact ⟨k0, k1⟩) ((go_at_call 97; refine (row_calls _ (d0 ++ List.replicate (2 * n - d0.length) 0) n _ HS.out (HU.out.app (U32.zeros _)) (by simp; omega) (by simp; omega)).mono ?_; rintro e w2 ⟨v2, rfl, g1, g2⟩; have k0 := (g2.cell (p := ⟨g, 2 * n, none⟩) hg2).trans hc0; have k1 := (g2.cell (p := ⟨g, 2 * n + 1, none⟩) hg2).trans hc1))
      all_goals clear hw1 hw2 hw3 hw4
      all_goals go_wp2
      all_goals go_ret2
      all_goals exact ⟨_, rfl, g1.base HB.out.size, HB.out.drew.trans (g2.mono HB.out.size)⟩

theorem bnx3 {a c d : World} (h : Below a.heap.size a c) (k : Below c.heap.size c d) : Below a.heap.size a d := h.trans (k.mono h.size)
/-- 1 as four half-words. -/
theorem four_one {zs : List Int} (hu : U32 zs) (hl : zs.length = 4) (hv : val 4294967296 zs = 1) : zs = [1] ++ List.replicate 3 0 := by
  refine val_inj 4294967296 zs _ (by simp [hl]) hu.mem (fun y hy => ?_) ?_
  · simp at hy
    rcases hy with rfl | rfl <;> decide
  · rw [hv]
    rfl

theorem nopanicT {P : Program} {f : Func} {K : Act → World → Prop} {w w' : World} {e : Nat} {xs : List Int} {r : Value} {c : _} {a : Act} (h : Exit.then K (bodyPost P f (RetOwnT w e .u64 xs r)) (.panic c) a w') : False := by
  simp [Exit.then, bodyPost, RetOwnT] at h

set_option maxHeartbeats 1000000 in
set_option maxRecDepth 100000 in
/-- The row 1, not shifted. -/
theorem left01_calls (v : Value) (w : World) (hr : SI w .u64 v [1]) :
    Calls Tryz.prog 44 #[v, .int .i64 0] w (RetOwnT w 42 .u64 [1] (.int .u64 0)) := by
  obtain ⟨A, c, rfl, _, _⟩ := hr.form
  have HR := Lib.hid hr
  have hu1 : U64 [(1 : Int)] := U64.one (by omega) (by omega)
  have HU := Lib.hid hu1
  have HW : Hid (U32 [(1 : Int) % 4294967296, 1 / 4294967296]) := (U32.one (x := 1 % 4294967296) (by omega) (by omega)).app (U32.one (x := 1 / 4294967296) (by omega) (by omega))
  clear hr hu1
  go_enter Tryz.func44, Tryz.ntmps44
  go_wp2
  refine wp_region_held (S := fun _ => True) (by kernel_rfl) ?_
  have hS : True := trivial
  refine held_take 0 (.slice A [(1 : Int)].length c) rfl (by kernel_rfl) (by kernel_rfl) (by kernel_rfl) (fun _ _ _ h => nopanicT h) (by rfl) (fun w' hSw => by go_simp) hS ?_
  (try simp only [Act.put, List.setIfInBounds_toArray, List.set_cons_zero, List.set_cons_succ])
  refine held_take 2 (.int .i64 0) rfl (by kernel_rfl) (by kernel_rfl) (by kernel_rfl) (fun _ _ _ h => nopanicT h) (by rfl) (fun w' hSw => by go_simp) hS ?_
  (try simp only [Act.put, List.setIfInBounds_toArray, List.set_cons_zero, List.set_cons_succ])
  refine held_take 3 (.int .u64 1) rfl (by kernel_rfl) (by kernel_rfl) (by kernel_rfl) (fun _ _ _ h => nopanicT h) (by rfl) (fun w' hSw => by go_simp; rfl) hS ?_
  (try simp only [Act.put, List.setIfInBounds_toArray, List.set_cons_zero, List.set_cons_succ])
  refine held_take 6 (.slice A [(1 : Int)].length c) rfl (by kernel_rfl) (by kernel_rfl) (by kernel_rfl) (fun _ _ _ h => nopanicT h) (by rfl) (fun w' hSw => by go_simp) hS ?_
  (try simp only [Act.put, List.setIfInBounds_toArray, List.set_cons_zero, List.set_cons_succ])
  refine held_take 7 (.int .i64 1) rfl (by kernel_rfl) (by kernel_rfl) (by kernel_rfl) (fun _ _ _ h => nopanicT h) (by rfl) (fun w' hSw => by go_simp) hS ?_
  (try simp only [Act.put, List.setIfInBounds_toArray, List.set_cons_zero, List.set_cons_succ])
  refine held_one 1 rfl (by kernel_rfl) (by rfl) (fun K hK => ?_)
  go_simp
  refine (digits01_calls _ [1] w.drew (SI.drew HR.out) HU.out (by simp)).mono ?_
  rintro e w1 ⟨v1, rfl, h1, h2⟩
  have H1 := Lib.hid h1; have H2 := Lib.hid (show Below w.heap.size w w1 from ⟨h2.os, h2.tape, h2.output, h2.size, h2.block⟩); clear h1 h2
  dsimp only
  refine hK.out _ _ trivial (fun hS => ?_)
  clear hK K
  (try simp only [Act.put, List.setIfInBounds_toArray, List.set_cons_zero, List.set_cons_succ])
  refine held_one 4 rfl (by kernel_rfl) (by rfl) (fun K hK => ?_)
  go_simp
  refine (word_calls 1 _ (by omega) (by omega)).mono ?_
  rintro e w2 ⟨v2, rfl, h1, h2⟩
  have H3 := Lib.hid (H1.out.si.below h2); have H4 := Lib.hid h1.si; have H5 := Lib.hid (bnx3 H2.out h2); clear h1 h2
  dsimp only
  refine hK.out _ _ trivial (fun hS => ?_)
  clear hK K
  (try simp only [Act.put, List.setIfInBounds_toArray, List.set_cons_zero, List.set_cons_succ])
  refine held_one 5 rfl (by kernel_rfl) (by rfl) (fun K hK => ?_)
  go_simp
  refine (times_calls v1 v2 (halves [1]) [1 % 4294967296, 1 / 4294967296] _ H3.out H4.out (halves_u32 _ HU.out) HW.out (by simp [halves]) (by simp)).mono ?_
  rintro e w3 ⟨zs, ⟨v3, rfl, h1, h2⟩, h3, h4, h5⟩
  obtain rfl := four_one h3 (by rw [h4]; rfl) (by rw [h5]; rfl); have H6 := Lib.hid h1.si; have H7 := Lib.hid (bnx3 H5.out h2); clear h1 h2 h3 h4 h5
  dsimp only
  refine hK.out _ _ trivial (fun hS => ?_)
  clear hK K
  (try simp only [Act.put, List.setIfInBounds_toArray, List.set_cons_zero, List.set_cons_succ])
  refine held_one 8 rfl (by kernel_rfl) (by rfl) (fun K hK => ?_)
  go_simp
  refine (cutz_calls v3 [1] 3 1 _ H6.out (U32.one (by omega) (by omega)) (by simp) (by simp) (by omega)).mono ?_
  rintro e w4 ⟨v4, rfl, h1, h2⟩
  have H8 : Hid (Own w3.heap.size 42 w4 .u64 v4 [1]) := h1; have H9 := Lib.hid (bnx3 H7.out h2); have HZ : Hid (w.heap.size ≤ w3.heap.size) := H7.out.size; clear h1 h2
  dsimp only
  refine hK.out _ _ trivial (fun hS => ?_)
  clear hK K
  (try simp only [Act.put, List.setIfInBounds_toArray, List.set_cons_zero, List.set_cons_succ])
  refine held_take 9 v4 rfl (by kernel_rfl) (by kernel_rfl) (by kernel_rfl) (fun _ _ _ h => nopanicT h) (by rfl) (fun w' hSw => by go_simp) hS ?_
  (try simp only [Act.put, List.setIfInBounds_toArray, List.set_cons_zero, List.set_cons_succ])
  refine held_take 10 (.int .u64 0) rfl (by kernel_rfl) (by kernel_rfl) (by kernel_rfl) (fun _ _ _ h => nopanicT h) (by rfl) (fun w' hSw => by go_simp) hS ?_
  (try simp only [Act.put, List.setIfInBounds_toArray, List.set_cons_zero, List.set_cons_succ])
  refine held_take 11 v4 rfl (by kernel_rfl) (by kernel_rfl) (by kernel_rfl) (fun _ _ _ h => nopanicT h) (by rfl) (fun w' hSw => by go_simp) hS ?_
  (try simp only [Act.put, List.setIfInBounds_toArray, List.set_cons_zero, List.set_cons_succ])
  refine held_take 12 (.int .u64 0) rfl (by kernel_rfl) (by kernel_rfl) (by kernel_rfl) (fun _ _ _ h => nopanicT h) (by rfl) (fun w' hSw => by go_simp) hS ?_
  (try simp only [Act.put, List.setIfInBounds_toArray, List.set_cons_zero, List.set_cons_succ])
  refine wpAnyH_done (by kernel_rfl) ?_ _
  go_simp
  go_wp2
  go_ret2
  exact ⟨_, rfl, H8.out.base HZ.out, H9.out⟩
end Go.Proofs.YtlmbklpidmkdcaaGreatDoor
