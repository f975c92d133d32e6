/- The law's plain. -/
import Derived.Test.YtmbceiaeffnigaaGreatDoorK13
namespace Go.Proofs.YtmbceiaeffnigaaGreatDoor
open Go.RowKit

set_option maxHeartbeats 2000000 in
set_option maxRecDepth 100000 in
theorem plainL_calls (s : ByteArray) (b : Nat) (w : World) (hb : 2 ≤ b) (hb2 : b ≤ 36) :
    Calls Tryz.prog 32 #[.string s, .int .i64 (b : Int)] w fun e w' => ∃ t : ByteArray, e = .returned (.string t) ∧ t.size ≤ 300 ∧ Below w.heap.size w w' := by
  go_enter Tryz.func32, Tryz.ntmps32
  go_wp2
  go_loopw [5, 6] (fun ov iv wr => ∃ (k : Nat) (xs : List Int), k ≤ s.size ∧ k ≤ 300 ∧ iv = .int .i64 (k : Int) ∧ xs.length = k ∧ Own w.heap.size 5 wr .u8 ov xs ∧ Below w.heap.size w wr) (fun ov iv wr => 300 - (intOf iv).toNat)
  case atStart => exact ⟨0, [], Nat.zero_le _, Nat.zero_le _, rfl, rfl, Own.nil _ _ _ _, Below.refl _ _⟩
  case round =>
    obtain ⟨k, xs, hk, hk3, rfl, hxl, ho, hB⟩ := hrel
    have HO := Lib.hid ho
    have HB := Lib.hid hB
    have HXL := Lib.hid hxl
    by_cases hlt : k < s.size ∧ k < 300
    · obtain ⟨hlt1, hlt2⟩ := hlt
      clear ho hB hxl
      obtain ⟨q, hq⟩ : ∃ q, q = (s[k]'hlt1).toNat := ⟨_, rfl⟩
      have hq2 : q < 256 := by rw [hq]; exact (s[k]'hlt1).toNat_lt
      have hs0 : (s[k]'hlt1).toNat = q := hq.symm
      obtain ⟨d, hd⟩ : ∃ d, d = q % b := ⟨_, rfl⟩
      have hmod : (q : Int).tmod (b : Int) = (d : Int) := by rw [Int.tmod_eq_emod_of_nonneg (by omega), hd]; rfl
      have hd2 : d < 36 := by rw [hd]; exact Nat.lt_of_lt_of_le (Nat.mod_lt _ (by omega)) hb2
      have hb0 : ((b : Int) == 0) = false := beq_eq_false_iff_ne.2 (by omega)
      clear hq hd
      go_upto_region 6 with (fail)
      have hle : d < (⟨#[48, 49, 50, 51, 52, 53, 54, 55, 56, 57, 97, 98, 99, 100, 101, 102, 103, 104, 105, 106, 107, 108, 109, 110, 111, 112, 113, 114, 115, 116, 117, 118, 119, 120, 121, 122]⟩ : ByteArray).size := hd2
      have hx256 := ((⟨#[48, 49, 50, 51, 52, 53, 54, 55, 56, 57, 97, 98, 99, 100, 101, 102, 103, 104, 105, 106, 107, 108, 109, 110, 111, 112, 113, 114, 115, 116, 117, 118, 119, 120, 121, 122]⟩ : ByteArray)[d]'hle).toNat_lt
      generalize hx : ((⟨#[48, 49, 50, 51, 52, 53, 54, 55, 56, 57, 97, 98, 99, 100, 101, 102, 103, 104, 105, 106, 107, 108, 109, 110, 111, 112, 113, 114, 115, 116, 117, 118, 119, 120, 121, 122]⟩ : ByteArray)[d]'hle).toNat = x at hx256 ⊢
      clear hx
      by_cases h1 : 128 ≤ q
      · by_cases h2 : 97 ≤ x
        · have e1 : decide ((128 : Int) ≤ (q : Int)) = true := decide_eq_true (by omega)
          have e2 : decide ((97 : Int) ≤ (x : Int)) = true := decide_eq_true (by omega)
          go_wp2_with (at_builtin; refine wpList_app1 (W0 := w) rfl (.tmp 35) (.tmp 37) 64 rfl w.heap.size 5 1 .u8 Tryz.underlying64 infoB _ xs _ rfl rfl HO.out (by rw [HXL.out]; omega) (by omega) HB.out HB.out.size ?_; intro v' w4 h1 h2 h3 h4; have G1 := Lib.hid h1; have G2 := Lib.hid h2; clear h1 h2 h3 h4)
          go_roundw
          case rel => exact ⟨k + 1, _, by omega, by omega, by go_num, by rw [List.length_append, HXL.out]; rfl, G1.out, G2.out⟩
          case measure => simp [intOf]; omega
        · have e1 : decide ((128 : Int) ≤ (q : Int)) = true := decide_eq_true (by omega)
          have e2 : decide ((97 : Int) ≤ (x : Int)) = false := decide_eq_false (by omega)
          go_wp2_with (at_builtin; refine wpList_app1 (W0 := w) rfl (.tmp 35) (.tmp 37) 64 rfl w.heap.size 5 1 .u8 Tryz.underlying64 infoB _ xs _ rfl rfl HO.out (by rw [HXL.out]; omega) (by omega) HB.out HB.out.size ?_; intro v' w4 h1 h2 h3 h4; have G1 := Lib.hid h1; have G2 := Lib.hid h2; clear h1 h2 h3 h4)
          go_roundw
          case rel => exact ⟨k + 1, _, by omega, by omega, by go_num, by rw [List.length_append, HXL.out]; rfl, G1.out, G2.out⟩
          case measure => simp [intOf]; omega
      · have e1 : decide ((128 : Int) ≤ (q : Int)) = false := decide_eq_false (by omega)
        go_wp2_with (at_builtin; refine wpList_app1 (W0 := w) rfl (.tmp 35) (.tmp 37) 64 rfl w.heap.size 5 1 .u8 Tryz.underlying64 infoB _ xs _ rfl rfl HO.out (by rw [HXL.out]; omega) (by omega) HB.out HB.out.size ?_; intro v' w4 h1 h2 h3 h4; have G1 := Lib.hid h1; have G2 := Lib.hid h2; clear h1 h2 h3 h4)
        go_roundw
        case rel => exact ⟨k + 1, _, by omega, by omega, by go_num, by rw [List.length_append, HXL.out]; rfl, G1.out, G2.out⟩
        case measure => simp [intOf]; omega
    · have hbound : xs.length ≤ 300 := by omega
      have hconv := conv_bytes (P := Tryz.prog) 64 9 5 Tryz.underlying64 Tryz.underlying5 Tryz.underlying9 ho.si
      obtain ⟨oA, oc, rfl, _⟩ := ho.slice
      have hex : ¬ ((k : Int) < (s.size : Int) ∧ (k : Int) < 300) := by omega
      clear ho hB
      by_cases hk4 : k < s.size
      · have e1 : decide ((k : Int) < (s.size : Int)) = true := decide_eq_true (by omega)
        have e2 : decide ((k : Int) < 300) = false := decide_eq_false (by omega)
        have hz : ((xs.length : Int) == 0) = false := beq_eq_false_iff_ne.2 (by omega)
        clear hex hlt hxl
        go_wp2
        go_ret
        exact ⟨_, rfl, by rw [strOf_size]; exact hbound, HB.out⟩
      · have e1 : decide ((k : Int) < (s.size : Int)) = false := decide_eq_false (by omega)
        by_cases hx0 : xs.length = 0
        · have hz : ((xs.length : Int) == 0) = true := by rw [hx0]; rfl
          clear hex hlt hxl hx0
          go_wp2
          go_ret
          exact ⟨_, rfl, by decide, HB.out⟩
        · have hz : ((xs.length : Int) == 0) = false := beq_eq_false_iff_ne.2 (by omega)
          clear hex hlt hxl
          go_wp2
          go_ret
          exact ⟨_, rfl, by rw [strOf_size]; exact hbound, HB.out⟩
end Go.Proofs.YtmbceiaeffnigaaGreatDoor
