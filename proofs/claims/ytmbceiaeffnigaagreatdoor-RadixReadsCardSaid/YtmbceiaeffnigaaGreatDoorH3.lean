/- radix.FromDigits at digits. -/
import Derived.Test.YtmbceiaeffnigaaGreatDoorH2
namespace Go.Proofs.YtmbceiaeffnigaaGreatDoor
open Go.RowKit

theorem pre_digits {b : Nat} (hb2 : b ≤ 36) {L : List Int} (hd : Dig b L) : bytes (strOf (L.map chr).reverse) = (L.map chr).reverse ∧ Txt (strOf (L.map chr).reverse) b ∧ pre b (strOf (L.map chr).reverse) (strOf (L.map chr).reverse).size = val b L := by
  have hat : ∀ x ∈ L, 0 ≤ x ∧ x < (b : Int) := by
    intro x hx
    obtain ⟨j, hj, rfl⟩ := List.mem_iff_getElem.1 hx
    have := hd j hj
    rw [List.getElem?_eq_getElem hj] at this
    exact this
  have hmem : ∀ c ∈ (L.map chr).reverse, ∃ x ∈ L, c = chr x := by
    intro c hc
    rw [List.mem_reverse, List.mem_map] at hc
    obtain ⟨x, hx, rfl⟩ := hc
    exact ⟨x, hx, rfl⟩
  have hb : bytes (strOf (L.map chr).reverse) = (L.map chr).reverse := bytes_strOf (fun c hc => by
    obtain ⟨x, hx, rfl⟩ := hmem c hc
    have h1 := hat x hx
    have := chr_range h1.1 (by omega)
    omega)
  refine ⟨hb, fun j hj => ?_, ?_⟩
  · rw [hb]
    rw [strOf_size] at hj
    rw [List.getElem?_eq_getElem hj]
    obtain ⟨x, hx, he⟩ := hmem _ (List.getElem_mem hj)
    rw [Option.getD_some, he]
    have h1 := hat x hx
    rw [chr_dig h1.1 (by omega)]
    exact h1.2
  · unfold pre
    rw [hb, strOf_size, List.take_length, List.map_reverse, List.reverse_reverse, List.map_map]
    have h1 : L.map (dig10 ∘ chr) = L := by
      conv => rhs; rw [← List.map_id L]
      refine List.map_congr_left fun x hx => ?_
      have h1 := hat x hx
      exact chr_dig h1.1 (by omega)
    rw [h1]

set_option maxHeartbeats 1000000 in
set_option maxRecDepth 100000 in
theorem fromDigitsR_yes (v : Value) (L : List Int) (b : Nat) (w : World) (hr : SI w .i64 v L) (hb : 2 ≤ b) (hb2 : b ≤ 36) (hl : L.length ≤ 65536) (hd : Dig b L) (hw : (wordsOf (val b L)).length ≤ 4096) :
    Calls Tryz.prog 11 #[v, .int .i64 (b : Int)] w (RetNat w (val b L)) := by
  have HR := Lib.hid (hr.alloc (.cells #[.int .i64 (b : Int)] 3))
  obtain ⟨A, c, rfl, hc, hcell⟩ := hr.form
  have HC := Lib.hid hcell
  have hbb := isB_yes (b := (b : Int)) (by omega) (by omega)
  have HBB := Lib.hid hbb
  have HDF := Lib.hid (decide_eq_false (show ¬ ¬ Dig b L by simpa using hd))
  have HD := Lib.hid hd
  obtain ⟨p1, p2, p3⟩ := pre_digits hb2 hd
  obtain ⟨N, hN⟩ : ∃ N, N = val b L := ⟨_, rfl⟩
  rw [← hN] at hw p3 ⊢
  have hnum := fun W => numberR_calls (strOf (L.map chr).reverse) b W hb hb2 (by rw [strOf_size]; simpa using hl) p2
  rw [p3] at hnum
  have HNUM := Lib.hid hnum
  have HW := Lib.hid hw
  clear hr hbb hd hcell p1 p2 p3 hnum hw hN
  go_enter Tryz.func11, Tryz.ntmps11
  go_upto_region 5 with (first
    | (go_at_call 34; refine (isBaseR_calls _ _).mono ?_; rintro e w' ⟨rfl, rfl⟩; rw [HBB.out])
    | (go_at_call 38; refine (containsF_calls _ L b _ _ HR.out (by omega) (by simp [go_sem])).mono ?_; rintro e w' ⟨rfl, rfl⟩; rw [HDF.out]))
  obtain ⟨W0, hW0⟩ : ∃ W0, W0 = w.alloc (.cells #[.int .i64 (b : Int)] 3) := ⟨_, rfl⟩
  have hz0 : W0.heap.size = w.heap.size + 1 := by rw [hW0]; simp
  have hB0 : Below w.heap.size w W0 := by rw [hW0]; exact below_new _ _
  have hx0 : W0.cell? ⟨w.heap.size, 0, none⟩ = some (.int .i64 (b : Int)) := by rw [hW0]; simp [go_sem]
  rw [← hW0]
  have HZ0 := Lib.hid hz0
  have HB0 := Lib.hid hB0
  have HX0 := Lib.hid hx0
  clear hW0 hz0 hB0 hx0
  go_loopw [6, 24] (fun o i wr => ∃ k : Nat, k ≤ L.length ∧ i = .int .i64 (k : Int) ∧ Own W0.heap.size 5 wr .u8 o ((L.take k).map chr) ∧ Below W0.heap.size W0 wr) (fun _ i _ => L.length - (intOf i).toNat)
  case atStart => exact ⟨0, Nat.zero_le _, rfl, Own.nil _ _ _ _, Below.refl _ _⟩
  case round =>
    obtain ⟨k, hk, rfl, ho, hB⟩ := hrel
    have HO := Lib.hid ho
    have HB := Lib.hid hB
    have hlen : ((L.take k).map chr).length ≤ 65536 := by simp; omega
    by_cases hlt : k < L.length
    · obtain ⟨ad, e, hcl⟩ := HC.out k hlt
      subst e
      have hcl2 : wr.cell? (ad.add k) = some (.int .i64 (L[k]?.getD 0)) := (hB.cell (by rw [add_block]; have := World.block_lt_of_cell? w _ hcl; rw [add_block] at this; rw [HZ0.out]; omega)).trans ((HB0.out.cell (World.block_lt_of_cell? w _ hcl)).trans hcl)
      have hd := HD.out k hlt
      have htk : (L.take (k + 1)).map chr = (L.take k).map chr ++ [chr (L[k]?.getD 0)] := by rw [take_succ hlt, List.map_append]; rfl
      generalize L[k]?.getD 0 = x at *
      obtain ⟨d0, d1⟩ := hd
      have d2 : x < 36 := by omega
      have HLA := Lib.hid (letters_at x d0 d2)
      have HTK := Lib.hid htk
      clear hcl ho hB htk
      go_wp2_with (at_builtin; refine wpList_app1 (W0 := W0) rfl (.tmp 28) (.tmp 31) 64 rfl W0.heap.size 5 1 .u8 Tryz.underlying64 infoB _ ((L.take k).map chr) _ rfl rfl HO.out (by omega) (by omega) HB.out HB.out.size ?_; intro v5 w5 q1 q2 q3 q4; rw [HLA.out, ← HTK.out] at q1; have G1 := Lib.hid q1; have G2 := Lib.hid q2; clear q1 q2 q3 q4)
      go_roundw
      case rel => exact ⟨k + 1, by omega, by go_num, G1.out, G2.out⟩
      case measure => simp [intOf]; omega
    · have hkk : L.take k = L := List.take_of_length_le (by omega)
      rw [hkk] at HO hlen
      have hlt2 : decide ((k : Int) < (L.length : Int)) = false := decide_eq_false (by omega)
      clear hkk ho hB
      go_wp2_with (first
        | (go_at_call 40; refine (revB_calls _ _ _ _ HO.out (by omega)).mono ?_; rintro e w2 ⟨rfl, q1, q2, _⟩; have G1 := Lib.hid q1; have G2 := Lib.hid (HB.out.trans q2); have hconv := conv_bytes (P := Tryz.prog) 64 9 5 Tryz.underlying64 Tryz.underlying5 Tryz.underlying9 q1.si; have hb9 := (G2.out.cell (p := ⟨w.heap.size, 0, none⟩) (show w.heap.size < W0.heap.size by rw [HZ0.out]; omega)).trans HX0.out; clear q1 q2)
        | (go_at_call 42; refine (HNUM.out _).mono ?_; rintro e w3 ⟨v3, rfl, q2, q3⟩; obtain ⟨A3, c3, rfl, _, _⟩ := q2.form; have G3 := Lib.hid q2; have G4 := Lib.hid q3; clear q2 q3 hconv)
        | (go_at_call 41; refine (fitR_calls _ _ _ _ HW.out).mono ?_; rintro e w' ⟨rfl, rfl⟩))
      go_ret2
      exact ⟨_, rfl, G3.out, HB0.out.trans ((G2.out.trans (G4.out.mono G2.out.size)).mono HB0.out.size)⟩
end Go.Proofs.YtmbceiaeffnigaaGreatDoor
