/- The specification's IsZero: by the length in bits. -/
import Derived.Test.YtmbceiaeffnigaaGreatDoorJ3
namespace Go.Proofs.YtmbceiaeffnigaaGreatDoor
open Go.RowKit

theorem bit_none {w i : Nat} (h : w % 2 ^ i = 0) (hb : w / 2 ^ i % 2 = 0) : w % 2 ^ (i + 1) = 0 := by
  rw [Nat.pow_succ, Nat.mod_mul, h, hb, Nat.mul_zero]
/-- What Count returns: of a word that is not 0 fewer than 64 leading zeros. -/
def RetCount (w : World) (x : Nat) (en : Ending) (w' : World) : Prop := ∃ l t o : Int, en = .returned (.tuple #[.int .i64 l, .int .i64 t, .int .i64 o]) ∧ 0 ≤ l ∧ l ≤ 64 ∧ (x ≠ 0 → l ≤ 63) ∧ w' = w

set_option maxHeartbeats 1000000 in
set_option maxRecDepth 100000 in
theorem count01_calls (x : Nat) (w : World) (hx : x < 18446744073709551616) : Calls Tryz.prog 85 #[.int .u64 (x : Int)] w (RetCount w x) := by
  have HXL := Lib.hid hx
  clear hx
  go_enter Tryz.func85, Tryz.ntmps85
  go_wp2
  go_loop [5, 6, 7, 8] (fun lv tv ov iv => ∃ (i : Nat) (l t o : Int), iv = .int .i64 (i : Int) ∧ lv = .int .i64 l ∧ tv = .int .i64 t ∧ ov = .int .i64 o ∧ i ≤ 64 ∧ 0 ≤ l ∧ l ≤ 64 ∧ 0 ≤ t ∧ t ≤ 64 ∧ 0 ≤ o ∧ o ≤ i ∧ (l ≤ 63 ∨ x % 2 ^ i = 0)) (fun lv tv ov iv => 64 - (intOf iv).toNat)
  case atStart => exact ⟨0, 64, 64, 0, rfl, rfl, rfl, rfl, by omega, by omega, by omega, by omega, by omega, by omega, by omega, .inr (by rw [Nat.pow_zero, Nat.mod_one])⟩
  case round =>
    obtain ⟨i, l, t, o, rfl, rfl, rfl, rfl, hi, hl0, hl1, ht0, ht1, ho0, ho1, hp⟩ := hrel
    have HP := Lib.hid hp
    clear hp
    by_cases hlt : i < 64
    · have hbit : ((x : Int) / 2 ^ i).tmod 2 = ((x / 2 ^ i % 2 : Nat) : Int) := by
        have e1 : (x : Int) / 2 ^ i = ((x / 2 ^ i : Nat) : Int) := by
          rw [Int.natCast_ediv, Int.natCast_pow]
          rfl
        rw [e1, Int.tmod_eq_emod_of_nonneg (Int.natCast_nonneg _)]
        rfl
      rcases (show x / 2 ^ i % 2 = 0 ∨ x / 2 ^ i % 2 = 1 by omega) with hr | hr
      · have hp2 : l ≤ 63 ∨ x % 2 ^ (i + 1) = 0 := HP.out.elim .inl (fun h => .inr (bit_none h hr))
        have HP2 := Lib.hid hp2
        rw [hr] at hbit
        clear hp2 hr
        go_wp2
        go_round
        case rel => exact ⟨i + 1, l, t, o, by go_num, rfl, rfl, rfl, by omega, hl0, hl1, ht0, ht1, ho0, by omega, HP2.out⟩
        case measure => simp [intOf]; omega
      · rw [hr] at hbit
        clear hr
        go_wp2
        go_round
        case rel => exact ⟨i + 1, 63 - i, min t i, o + 1, by go_num, rfl, rfl, rfl, by omega, by omega, by omega, by omega, by omega, by omega, by omega, .inl (by omega)⟩
        case measure => simp [intOf]; omega
    · obtain rfl : i = 64 := by omega
      go_wp2
      go_ret3
      refine ⟨l, t, o, rfl, hl0, hl1, fun h0 => ?_, rfl⟩
      rcases HP.out with h | h
      · exact h
      · rw [Nat.mod_eq_of_lt HXL.out] at h
        exact absurd h h0

set_option maxHeartbeats 1000000 in
set_option maxRecDepth 100000 in
theorem len02_calls (u : Value) (xs : List Int) (w : World) (hr : SI w .u64 u xs) (hu : U64 xs) (hn : xs.length ≤ 100000) :
    Calls Tryz.prog 56 #[u] w fun e w' => ∃ n : Int, e = .returned (.int .i64 n) ∧ (n == 0) = decide (val 18446744073709551616 xs = 0) ∧ w' = w := by
  obtain ⟨A, c, rfl, hc, hcx⟩ := hr.form
  have HX := Lib.hid hcx
  have HU := Lib.hid hu
  clear hr hcx hu
  go_enter Tryz.func56, Tryz.ntmps56
  go_wp2
  go_loop [3] (fun iv => ∃ k : Nat, iv = .int .i64 ((k : Int) - 1) ∧ k ≤ xs.length ∧ ∀ j, k ≤ j → j < xs.length → xs[j]?.getD 0 = 0) (fun iv => (intOf iv + 1).toNat)
  case atStart => exact ⟨xs.length, by go_num, Nat.le_refl _, fun j h1 h2 => absurd h1 (by omega)⟩
  case round =>
    obtain ⟨k, rfl, hk, hz⟩ := hrel
    have HZ := Lib.hid hz
    clear hz
    by_cases hlt : 0 < k
    · obtain ⟨m, rfl⟩ : ∃ m, k = m + 1 := ⟨k - 1, by omega⟩
      obtain ⟨ad, e, hcl⟩ := HX.out m (by omega)
      subst e
      have x0 := HU.out.at m
      obtain ⟨x, hx⟩ : ∃ x, x = xs[m]?.getD 0 := ⟨_, rfl⟩
      rw [← hx] at hcl x0
      have HXX := Lib.hid hx
      have hml : m < xs.length := by omega
      clear hx
      rw [show (((m + 1 : Nat) : Int) - 1) = (m : Int) by omega]
      by_cases h0 : x = 0
      · subst h0
        go_wp2
        go_round
        case rel => exact ⟨m, by go_num, by omega, fun j h1 h2 => by
          by_cases e : j = m
          · rw [e]; exact HXX.out.symm
          · exact HZ.out j (by omega) h2⟩
        case measure => simp [intOf]
      · have hx0 : (x == 0) = false := beq_eq_false_iff_ne.2 h0
        obtain ⟨y, rfl⟩ : ∃ y : Nat, x = (y : Int) := ⟨x.toNat, by omega⟩
        have HC := Lib.hid (count01_calls y w (by omega))
        have hnz : val 18446744073709551616 xs ≠ 0 := by
          intro h
          have h1 := val_take_drop 18446744073709551616 xs m (by omega)
          rw [val_drop, ← HXX.out, h] at h1
          have h2 : 0 < 18446744073709551616 ^ m * ((y : Int).toNat + 18446744073709551616 * val 18446744073709551616 (xs.drop (m + 1))) := Nat.mul_pos (Nat.pow_pos (by omega)) (by omega)
          omega
        have HNZ := Lib.hid hnz
        clear hnz x0
        go_wp2_with (go_at_call 85; refine HC.out.mono ?_; rintro e w1 ⟨l, t, o, rfl, hl0, hl1, hl2, rfl⟩; have hl3 : l ≤ 63 := hl2 (by omega); clear hl2)
        go_ret
        refine ⟨_, rfl, ?_, rfl⟩
        rw [decide_eq_false HNZ.out]
        exact beq_eq_false_iff_ne.2 (by omega)
    · obtain rfl : k = 0 := by omega
      have hv : val 18446744073709551616 xs = 0 := val_zeros _ xs (fun j hj => HZ.out j (by omega) hj)
      have HV := Lib.hid hv
      clear hv
      rw [show (((0 : Nat) : Int) - 1) = -1 by omega]
      go_wp2
      go_ret
      exact ⟨0, rfl, by rw [decide_eq_true HV.out]; rfl, rfl⟩

theorem iszero_calls (u : Value) (xs : List Int) (w : World) (hr : SI w .u64 u xs) (hu : U64 xs) (hn : xs.length ≤ 100000) :
    Calls Tryz.prog 25 #[u] w (RetV w (.bool (decide (val 18446744073709551616 xs = 0)))) := by
  have HC := Lib.hid (len02_calls u xs w hr hu hn)
  clear hr hu
  go_enter Tryz.func25, Tryz.ntmps25
  go_wp2_with (go_at_call 56; refine HC.out.mono ?_; rintro e w1 ⟨n, rfl, h1, rfl⟩; have H1 := Lib.hid h1; clear h1)
  go_ret
  exact ⟨by rw [← H1.out]; rfl, rfl⟩
end Go.Proofs.YtmbceiaeffnigaaGreatDoor
