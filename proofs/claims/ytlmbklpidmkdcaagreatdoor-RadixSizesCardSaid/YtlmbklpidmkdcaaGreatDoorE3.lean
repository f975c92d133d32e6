/- strings.IndexRune at the runes beyond ASCII, in the text of the digits. -/
import Derived.Test.YtlmbklpidmkdcaaGreatDoorE2
import Derived.Laws.Runes
import Derived.Laws.RangeAny
import Derived.Deep.QuietTactic
import Derived.BigQuiet
namespace Go.Proofs.YtlmbklpidmkdcaaGreatDoor
open Go.RowKit

def lets : ByteArray := ⟨#[48, 49, 50, 51, 52, 53, 54, 55, 56, 57, 97, 98, 99, 100, 101, 102, 103, 104, 105, 106, 107, 108, 109, 110, 111, 112, 113, 114, 115, 116, 117, 118, 119, 120, 121, 122]⟩
theorem lets_ascii : ∀ b ∈ lets.data.toList, b.toNat < 128 := by decide +kernel
theorem lets_cut (a e : Nat) (c : Nat) (h0 : 128 ≤ c) (h1 : c < 256) : Lib.indexByte (lets.extract a e).data.toList c.toUInt8 = -1 := by
  rw [← Lib.firstIdx_eq]
  refine firstIdx_ascii lets a e _ lets_ascii ?_
  show 128 ≤ (UInt8.ofNat c).toNat
  simp; omega

set_option maxHeartbeats 1000000 in
set_option maxRecDepth 100000 in
theorem indexRune_bad (r : Int) (w : World) (h0 : 128 ≤ r) (hr : r ≠ 65533) (hv : Lib.validRune r = false) :
    Calls Tryz.prog 80 #[.string lets, .int .i32 r] w (RetB w (.int .i64 (-1))) := by
  have t1 : (r == 65533) = false := beq_eq_false_iff_ne.2 hr
  have HV := Lib.hid hv
  clear hv hr
  go_enter Tryz.func80, Tryz.ntmps80
  go_wp2_with (go_at_call 100; refine (Tryz.utf8_ValidRune r _).mono ?_; rintro e w' ⟨rfl, rfl⟩; rw [HV.out])
  go_ret
  exact ⟨rfl, Below.refl _ _⟩

set_option maxHeartbeats 1000000 in
set_option maxRecDepth 100000 in
theorem indexRune_err (w : World) :
    Calls Tryz.prog 80 #[.string lets, .int .i32 65533] w (RetB w (.int .i64 (-1))) := by
  go_enter Tryz.func80, Tryz.ntmps80
  go_wp2
  go_loopg [] 36 (fun m wr => ∃ k : Nat, m + k = 36 ∧ Below w.heap.size w wr ∧ wr.heap[w.heap.size]? = some (.stringIter lets k))
  case atStart => exact ⟨0, rfl, below_new _ _, World.iter_heap _ _ _⟩
  case round =>
    obtain ⟨k, hk, hB, hi⟩ := hrel
    have HB := Lib.hid hB
    have HI := Lib.hid hi
    by_cases hlt : k < 36
    · have hlt2 : k < lets.size := hlt
      have ha : (lets[k]'hlt2).toNat < 128 := lets_ascii _ (Array.getElem_mem_toList (xs := lets.data) hlt2)
      obtain ⟨c, hc⟩ : ∃ c : Nat, c = (lets[k]'hlt2).toNat := ⟨_, rfl⟩
      obtain ⟨W1, hW1⟩ : ∃ W1, W1 = wr.iterAt w.heap.size lets (k + 1) := ⟨_, rfl⟩
      have hnx : ∀ ty, (Instr.next (.pointer (some ⟨w.heap.size, 0, none⟩)) true ty).run Tryz.prog wr = .ok (.tuple #[.bool true, .int .i64 (k : Int), .int .i32 (c : Int)]) W1 := fun ty => by
        rw [hc, hW1]
        exact Lib.run_next_ascii_at _ _ _ _ _ hi hlt2 ha
      have t2 : ((c : Int) == 65533) = false := beq_eq_false_iff_ne.2 (by omega)
      have HW := Lib.hid hW1
      clear hB hi hc ha hW1
      go_wp2
      go_roundg (gk - 1)
      case rel => exact ⟨k + 1, by omega, by rw [HW.out]; exact Lib.below_iterAt HB.out (Nat.le_refl _) _ _, by rw [HW.out]; exact Lib.iterAt_heap _ _ _ _ _ HI.out⟩
      case measure => omega
    · have hnx : ∀ ty, (Instr.next (.pointer (some ⟨w.heap.size, 0, none⟩)) true ty).run Tryz.prog wr = .ok (.tuple #[.bool false]) wr := fun ty => Lib.run_next_end_at _ _ _ _ _ hi hlt
      clear hB hi
      go_wp2
      go_ret
      exact ⟨rfl, HB.out⟩

theorem enc_get (a : ByteArray) (k : Nat) (hk : a.size = k + 1) (h : ∀ h : a.size - 1 < a.size, 128 ≤ (a[a.size - 1]'h).toNat) : ∃ (h : k < a.size) (q : Nat), (a[k]'h).toNat = q ∧ 128 ≤ q ∧ q < 256 := by
  have h1 : k < a.size := by omega
  refine ⟨h1, _, rfl, ?_, UInt8.toNat_lt _⟩
  have h2 := h (by omega)
  have e : a.size - 1 = k := by omega
  simp only [e] at h2
  exact h2

set_option maxHeartbeats 1000000 in
set_option maxRecDepth 100000 in
theorem indexRune_valid (r : Int) (w : World) (h0 : 128 ≤ r) (hr : r ≠ 65533) (hv : Lib.validRune r = true) (k : Nat) (hk : k = 1 ∨ k = 2 ∨ k = 3) (hs : (Utf8.encode r).size = k + 1) :
    Calls Tryz.prog 80 #[.string lets, .int .i32 r] w (RetB w (.int .i64 (-1))) := by
  have t1 : (r == 65533) = false := beq_eq_false_iff_ne.2 hr
  have he := (encode_facts r (by rw [validRune_eq]; exact hv) h0).2.2
  obtain ⟨hlt, q, hq, hq1, hq2⟩ := enc_get _ k hs he
  generalize hen : Utf8.encode r = enc at *
  have HV := Lib.hid hv
  have HQ := Lib.hid hq
  have hkl : k < lets.size := by show k < 36; omega
  have t2 : ((((lets[k]'hkl).toNat : Nat) : Int) != (q : Int)) = true := by
    have := lets_ascii _ (Array.getElem_mem_toList (xs := lets.data) hkl)
    have h : (lets[k]'hkl).toNat < 128 := this
    simp; omega
  have hib : ∀ W, Calls Tryz.prog 99 #[.string (lets.extract (k + 1) 36), .int .u8 (q : Int)] W fun e w' => e = .returned (.int .i64 (-1)) ∧ w' = W := fun W => by
    have h1 := Tryz.strings_IndexByte (lets.extract (k + 1) 36) (q : Int) W
    rw [Int.toNat_natCast, lets_cut (k + 1) 36 q hq1 hq2] at h1
    exact h1
  have HIB := Lib.hid hib
  have hls : lets.size = 36 := rfl
  have v2 : IntKind.i64.wrap 2 = 2 := rfl
  have v3 : IntKind.i64.wrap 3 = 3 := rfl
  have v4 : IntKind.i64.wrap 4 = 4 := rfl
  clear hv hr he hib
  rcases hk with rfl | rfl | rfl
  all_goals
    go_enter Tryz.func80, Tryz.ntmps80
    go_wp2_with (go_at_call 100; refine (Tryz.utf8_ValidRune r _).mono ?_; rintro e w' ⟨rfl, rfl⟩; rw [HV.out])
    go_step3
    go_wp2
    refine wp_loop_rounds 1 ?_
    rw [rounds_succ]
    go_wp2
    go_step3
    go_wp2
    go_quiet (fail)
    go_wp2
    go_quiet ((go_at_call 99; exact (HIB.out _).mono (fun e w1 h => ⟨h.1, _, h.2⟩)))
    go_wp2
    rw [Exit.noGoto_ret]
    go_ret
    exact ⟨rfl, below_drewN (Below.refl _ _) _⟩

theorem indexRune_high (r : Int) (w : World) (h0 : 128 ≤ r) : Calls Tryz.prog 80 #[.string lets, .int .i32 r] w (RetB w (.int .i64 (-1))) := by
  by_cases hr : r = 65533
  · subst hr; exact indexRune_err w
  · cases hv : Lib.validRune r with
    | false => exact indexRune_bad r w h0 hr hv
    | true =>
      obtain ⟨e1, e2, _⟩ := encode_facts r (by rw [validRune_eq]; exact hv) h0
      exact indexRune_valid r w h0 hr hv ((Utf8.encode r).size - 1) (by omega) (by omega)

set_option maxHeartbeats 1000000 in
theorem valueR_high (c b : Int) (w : World) (h0 : 128 ≤ c) (hb : 2 ≤ b) :
    Calls Tryz.prog 48 #[.int .i32 c, .int .i64 b] w (RetB w (.int .i64 (-1))) := by
  have h1 : 90 < c := by omega
  have hcall := fun w => indexRune_high c w h0
  have HC := Lib.hid hcall
  clear hcall
  go_enter Tryz.func48, Tryz.ntmps48
  go_wp2_with (go_at_call 80; refine (HC.out _).mono ?_; rintro e w' ⟨rfl, hB⟩; have HB := Lib.hid hB; clear hB)
  go_ret
  exact ⟨rfl, HB.out⟩
/-- What a character of a text is worth: the reference's digit, or none. -/
def valD (c b : Int) : Int := if dig10 c < b then dig10 c else -1
theorem valueR_calls (c b : Int) (w : World) (h0 : 0 ≤ c) (hb : 2 ≤ b) (hb2 : b ≤ 36) :
    Calls Tryz.prog 48 #[.int .i32 c, .int .i64 b] w (RetB w (.int .i64 (valD c b))) := by
  by_cases hc : c < 128
  · refine (valueR_ascii c b w h0 hc hb hb2).mono ?_
    rintro e w' ⟨rfl, rfl⟩
    exact ⟨by rw [valC_of h0 hb2]; rfl, Below.refl _ _⟩
  · have h2 : ¬ dig10 c < b := fun h => by have := dig10_lt c hb2 h; omega
    unfold valD
    rw [if_neg h2]
    exact valueR_high c b w (by omega) hb
end Go.Proofs.YtlmbklpidmkdcaaGreatDoor
