/- The reference's Digit. -/
import Derived.Test.YtmbceiaeffnigaaGreatDoorA
namespace Go.Proofs.YtmbceiaeffnigaaGreatDoor
open Go.RowKit

/-- The reference's digit; 99: none. -/
def dig10 (c : Int) : Int := if 48 ≤ c ∧ c ≤ 57 then c - 48 else if 97 ≤ c ∧ c ≤ 122 then c - 87 else if 65 ≤ c ∧ c ≤ 90 then c - 55 else 99
set_option maxHeartbeats 1000000 in
theorem digit10_calls (c : Int) (w : World) (h0 : 0 ≤ c) (h1 : c < 256) : Calls Tryz.prog 65 #[.int .u8 c] w (RetV w (.int .i64 (dig10 c))) := by
  obtain ⟨d, hd⟩ : ∃ d, d = dig10 c := ⟨_, rfl⟩
  rw [← hd]
  have HD := Lib.hid hd
  clear hd
  rcases (show c < 48 ∨ (48 ≤ c ∧ c ≤ 57) ∨ (57 < c ∧ c < 65) ∨ (65 ≤ c ∧ c ≤ 90) ∨ (90 < c ∧ c < 97) ∨ (97 ≤ c ∧ c ≤ 122) ∨ 122 < c by omega) with h | ⟨h, h'⟩ | ⟨h, h'⟩ | ⟨h, h'⟩ | ⟨h, h'⟩ | ⟨h, h'⟩ | h
  all_goals
    go_enter Tryz.func65, Tryz.ntmps65
    go_wp2
    go_ret
    refine ⟨ret_of ?_, rfl⟩
    rw [HD.out]
    unfold dig10
    repeat' split
    all_goals first | rfl | omega | (simp; omega)
end Go.Proofs.YtmbceiaeffnigaaGreatDoor
