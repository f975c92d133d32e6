/- The reference's Parse at a text that is none of digits. -/
import Derived.Test.YtmbceiaeffnigaaGreatDoorD3
namespace Go.Proofs.YtmbceiaeffnigaaGreatDoor
open Go.RowKit

set_option maxHeartbeats 1000000 in
theorem parse10_no (s : ByteArray) (b : Nat) (w : World) (hb : 2 ≤ b) (hb2 : b ≤ 36) (hn : s.size ≤ 3000) (hd : ¬ ∀ j, j < s.size → dig10 ((bytes s)[j]?.getD 0) < (b : Int)) :
    Calls Tryz.prog 31 #[.string s, .int .i64 (b : Int)] w (RetB w (.tuple #[.slice none 0 0, .bool false])) := by
  have hbl := bytes_length s
  have HD := Lib.hid hd
  have HBL := Lib.hid hbl
  clear hd hbl
  go_enter Tryz.func31, Tryz.ntmps31
  go_wp2
  go_loopw [6, 7] (fun o i wr => ∃ m : Nat, m ≤ s.size ∧ i = .int .i64 ((m : Int) - 1) ∧ (∀ j, m ≤ j → j < s.size → dig10 ((bytes s)[j]?.getD 0) < (b : Int)) ∧ Own w.heap.size 3 wr .i64 o (txtD s m) ∧ Below w.heap.size w wr) (fun o i _ => (intOf i + 1).toNat)
  case atStart => exact ⟨s.size, Nat.le_refl _, rfl, fun j h1 h2 => absurd h2 (by omega), by unfold txtD; rw [List.drop_eq_nil_of_le (by rw [HBL.out]; exact Nat.le_refl _)]; exact Own.nil _ _ _ _, Below.refl _ _⟩
  case round =>
    obtain ⟨m, hm, rfl, hval, ho, hB⟩ := hrel
    have HO := Lib.hid ho
    have HB := Lib.hid hB
    have HVAL := Lib.hid hval
    clear hval
    by_cases h0 : 0 < m
    · obtain ⟨k, rfl⟩ : ∃ k, m = k + 1 := ⟨m - 1, by omega⟩
      rw [show (((k + 1 : Nat) : Int) - 1) = (k : Int) by omega]
      have hlt : k < s.size := by omega
      have hst := txtD_step s k (by rw [HBL.out]; exact hlt)
      have hat := bytes_at s k hlt
      have hrg := bytes_range s k
      obtain ⟨c, hc⟩ : ∃ c, c = (bytes s)[k]?.getD 0 := ⟨_, rfl⟩
      rw [← hc] at hst hat hrg
      have HC := Lib.hid hc
      obtain ⟨r0, r1⟩ := hrg
      have hd0 := dig10_pos c r0
      obtain ⟨d, hdd⟩ : ∃ d, d = dig10 c := ⟨_, rfl⟩
      rw [← hdd] at hst hd0
      have HDD := Lib.hid hdd
      have HAT := Lib.hid hat
      have HST := Lib.hid hst
      have hln : (txtD s (k + 1)).length ≤ 3000 := by unfold txtD; simp [HBL.out]; omega
      clear hst hat hdd ho hB hc
      by_cases hbad : (b : Int) ≤ d
      · go_wp2_with (go_at_call 65; rw [← HAT.out]; refine (digit10_calls _ _ r0 r1).mono ?_; rintro e w' ⟨rfl, rfl⟩; rw [← HDD.out])
        go_ret2
        exact ⟨rfl, HB.out⟩
      · go_wp2_with (first
          | (go_at_call 65; rw [← HAT.out]; refine (digit10_calls _ _ r0 r1).mono ?_; rintro e w' ⟨rfl, rfl⟩; rw [← HDD.out])
          | (at_builtin; refine wpList_app1 (W0 := w) rfl (.tmp 23) (.tmp 25) 24 rfl w.heap.size 3 8 .i64 Tryz.underlying24 infoI _ (txtD s (k + 1)) _ rfl rfl HO.out (by omega) (by omega) HB.out HB.out.size ?_; intro v5 w5 q1 q2 q3 q4; rw [← HST.out] at q1; have G1 := Lib.hid q1; have G2 := Lib.hid q2; clear q1 q2 q3 q4))
        go_roundw
        case rel =>
          refine ⟨k, by omega, rfl, fun j h1 h2 => ?_, G1.out, G2.out⟩
          by_cases e : j = k
          · subst e; rw [← HC.out, ← HDD.out]; omega
          · exact HVAL.out j (by omega) h2
        case measure => simp [intOf]
    · exact absurd (fun j hj => HVAL.out j (by omega) hj) HD.out
end Go.Proofs.YtmbceiaeffnigaaGreatDoor
