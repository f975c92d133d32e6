/- nat.length, Len, tooLong, fit. -/
import Derived.Test.YtmbceiaeffnigaaGreatDoorK3
namespace Go.Proofs.YtmbceiaeffnigaaGreatDoor
open Go.RowKit

theorem bitLen_le {x k : Nat} (h : x < 2 ^ k) (hk : k ≤ 64) : Lib.bitLen x ≤ k := by
  by_cases h0 : x = 0
  · subst h0
    have h1 : Lib.bitLen 0 = 0 := by decide +kernel
    omega
  · have h1 := (bitLen_spec k x h hk h0).1
    have h2 : 2 ^ Lib.bitLen x < 2 ^ (k + 1) := by rw [Nat.pow_succ]; omega
    have := (Nat.pow_lt_pow_iff_right (a := 2) (by omega)).1 h2
    omega
/-- How many bits: not more than the words have; of one small word not more than 6. -/
def RetBits (w : World) (xs : List Int) (en : Ending) (w' : World) : Prop := ∃ m : Int, en = .returned (.int .i64 m) ∧ 0 ≤ m ∧ m ≤ 64 * xs.length ∧ (xs.length = 1 → xs[0]?.getD 0 < 64 → m ≤ 6) ∧ w' = w
set_option maxHeartbeats 1000000 in
theorem natLength_calls (v : Value) (xs : List Int) (w : World) (hr : SI w .u64 v xs) (hu : U64 xs) (hn : xs.length ≤ 100000) : Calls Tryz.prog 115 #[v] w (RetBits w xs) := by
  obtain ⟨A, c, rfl, hc, hcell⟩ := hr.form
  by_cases h0 : xs.length = 0
  · rw [h0]
    have HL := Lib.hid h0
    clear hr hu hcell hc h0
    go_enter Tryz.func115, Tryz.ntmps115
    go_wp2
    go_ret
    exact ⟨0, rfl, by omega, by omega, fun h => absurd (HL.out.symm.trans h) (by omega), rfl⟩
  · obtain ⟨ad, e, hcl⟩ := hcell (xs.length - 1) (by omega)
    subst e
    have hx := hu.at (xs.length - 1)
    obtain ⟨x, hxx⟩ : ∃ x, x = xs[xs.length - 1]?.getD 0 := ⟨_, rfl⟩
    rw [← hxx] at hcl hx
    have hb1 : (xs.length : Int) - 1 = ((xs.length - 1 : Nat) : Int) := by omega
    have hb2 : xs.length - 1 < xs.length := by omega
    have hz : ((xs.length : Int) == 0) = false := beq_eq_false_iff_ne.2 (by omega)
    obtain ⟨L, hL⟩ : ∃ L, L = Lib.bitLen x.toNat := ⟨_, rfl⟩
    have hL1 : L ≤ 64 := by rw [hL]; exact bitLen_le (by omega) (by omega)
    have hL2 : x < 64 → L ≤ 6 := fun h => by rw [hL]; exact bitLen_le (by omega) (by omega)
    have HLL := Lib.hid hL
    have HX := Lib.hid (And.intro hx hxx)
    have HL2 := Lib.hid hL2
    clear hr hu hcell hc hx hxx hL hL2
    go_enter Tryz.func115, Tryz.ntmps115
    go_wp2_with (go_at_call 134; refine (Tryz.bits_LeadingZeros64 x _ HX.out.1.1 (by have := HX.out.1.2; omega)).mono ?_; rintro e w' ⟨rfl, rfl⟩; rw [← HLL.out])
    go_ret
    refine ⟨_, rfl, by omega, by omega, fun h1 h2 => ?_, rfl⟩
    have h3 := HX.out.2
    rw [h1] at h3
    have h4 : x < 64 := by rw [h3]; exact h2
    have := HL2.out h4
    omega
theorem natLen_calls (v : Value) (xs : List Int) (w : World) (hr : SI w .u64 v xs) (hu : U64 xs) (hn : xs.length ≤ 100000) : Calls Tryz.prog 183 #[v] w fun e w' => ∃ m : Int, e = .returned (.int .i64 m) ∧ 0 ≤ m ∧ m ≤ 64 * xs.length ∧ w' = w := by
  obtain ⟨A, c, rfl, hc, _⟩ := hr.form
  have HT := Lib.hid (trim_calls A xs.length c xs w hr (by omega))
  have hl : (cut xs).length ≤ xs.length := by rw [cut_length]; exact tlen_le _ _
  have hs := si_cut hr
  have HC := Lib.hid (natLength_calls _ (cut xs) w hs (hu.take _) (by omega))
  have HL := Lib.hid hl
  clear hr hu hs hl
  go_enter Tryz.func183, Tryz.ntmps183
  go_wp2_with (first
    | (go_at_call 97; refine HT.out.mono ?_; rintro e w' ⟨rfl, rfl⟩)
    | (go_at_call 115; refine HC.out.mono ?_; rintro e w1 ⟨m, rfl, h1, h2, _, rfl⟩; have H2 := Lib.hid (And.intro h1 h2); clear h1 h2))
  go_ret
  exact ⟨m, rfl, H2.out.1, by have := H2.out.2; have := HL.out; omega, rfl⟩
theorem tooLong_calls (a b : Int) (w : World) (ha : 0 ≤ a) (hb : 0 ≤ b) (h : a + b ≤ 262144) : Calls Tryz.prog 182 #[.int .i64 a, .int .i64 b] w (RetV w (.bool false)) := by
  rcases (show a = 0 ∨ 0 < a by omega) with rfl | h1
  · go_enter Tryz.func182, Tryz.ntmps182
    go_wp2
    go_ret
    exact ⟨rfl, rfl⟩
  · rcases (show b = 0 ∨ 0 < b by omega) with rfl | h2
    · go_enter Tryz.func182, Tryz.ntmps182
      go_wp2
      go_ret
      exact ⟨rfl, rfl⟩
    · go_enter Tryz.func182, Tryz.ntmps182
      go_wp2
      go_ret
      exact ⟨ret_of (by show Value.bool (decide (262144 < a + b - 1)) = _; rw [decide_eq_false (by omega)]), rfl⟩
theorem fitN_calls (A : Option Addr) (n c : Nat) (xs : List Int) (w : World) (hr : SI w .u64 (.slice A n c) xs) (hn : xs.length ≤ 4096) : Calls Tryz.prog 117 #[.slice A n c] w (RetV w (.tuple #[.slice A (tlen xs xs.length) c, .int .i64 0])) := by
  have HT := Lib.hid (trim_calls A n c xs w hr (by omega))
  have hl := tlen_le xs xs.length
  have hl2 : tlen xs xs.length ≤ 4096 := by omega
  generalize tlen xs xs.length = t at *
  clear hr hl
  go_enter Tryz.func117, Tryz.ntmps117
  go_wp2_with (go_at_call 97; refine HT.out.mono ?_; rintro e w' ⟨rfl, rfl⟩)
  go_ret2
  exact ⟨rfl, rfl⟩
end Go.Proofs.YtmbceiaeffnigaaGreatDoor
