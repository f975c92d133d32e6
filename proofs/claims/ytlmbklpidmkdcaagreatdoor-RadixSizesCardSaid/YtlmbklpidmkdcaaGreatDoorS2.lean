/- What is too large is refused before all else. -/
import Derived.Test.YtlmbklpidmkdcaaGreatDoorE8
namespace Go.Proofs.YtlmbklpidmkdcaaGreatDoor
open Go.RowKit

theorem largeR_yes (A : Option Addr) (n c : Nat) (w : World) (hn : 4096 < n) : Calls Tryz.prog 17 #[.slice A n c] w (RetV w (.bool true)) := by
  have hd : decide ((4096 : Int) < (n : Int)) = true := decide_eq_true (by omega)
  go_enter Tryz.func17, Tryz.ntmps17
  go_wp2
  go_ret
  exact ⟨ret_of (by first | rfl | (rw [hd]; rfl)), rfl⟩
theorem formatR_large (A : Option Addr) (n c : Nat) (b : Int) (w : World) (hn : 4096 < n) : Calls Tryz.prog 4 #[.slice A n c, .int .i64 b] w (RetB w (.tuple #[.string ⟨#[]⟩, .int .i64 2])) := by
  go_enter Tryz.func4, Tryz.ntmps4
  go_wp2_with (go_at_call 17; refine (largeR_yes _ _ _ _ hn).mono ?_; rintro e w' ⟨rfl, rfl⟩)
  go_ret2
  exact ⟨rfl, Below.refl _ _⟩
theorem parseR_large (s : ByteArray) (b : Int) (w : World) (hn : 65536 < s.size) : Calls Tryz.prog 5 #[.string s, .int .i64 b] w (RetB w (.tuple #[.slice none 0 0, .int .i64 2])) := by
  have hd : decide ((65536 : Int) < (s.size : Int)) = true := decide_eq_true (by omega)
  go_enter Tryz.func5, Tryz.ntmps5
  go_wp2
  go_ret2
  exact ⟨rfl, Below.refl _ _⟩
set_option maxHeartbeats 1000000 in
theorem fastR_large (A : Option Addr) (n c : Nat) (b l : Int) (w : World) (hn : 4096 < n) : Calls Tryz.prog 6 #[.slice A n c, .int .i64 b, .int .i64 l] w (RetB w (.tuple #[.string ⟨#[]⟩, .int .i64 2])) := by
  go_enter Tryz.func6, Tryz.ntmps6
  go_upto_region 1 with (fail)
  obtain ⟨w1, hw1⟩ : ∃ w1, w1 = (w.alloc (.cells #[.int .i64 b] 3)).alloc (.cells #[.int .i64 l] 3) := ⟨_, rfl⟩
  have B1 : Below w.heap.size w w1 := by rw [hw1]; exact (below_new _ _).trans ((below_new _ _).mono (by simp))
  rw [← hw1]
  clear hw1
  have HB1 := Lib.hid B1
  clear B1
  go_wp2_with (go_at_call 17; refine (largeR_yes _ _ _ _ hn).mono ?_; rintro e w' ⟨rfl, rfl⟩)
  go_ret2
  exact ⟨rfl, HB1.out⟩
set_option maxHeartbeats 1000000 in
theorem fastParseR_large (s : ByteArray) (b l : Int) (w : World) (hn : 65536 < s.size) : Calls Tryz.prog 7 #[.string s, .int .i64 b, .int .i64 l] w (RetB w (.tuple #[.slice none 0 0, .int .i64 2])) := by
  have hd : decide ((65536 : Int) < (s.size : Int)) = true := decide_eq_true (by omega)
  go_enter Tryz.func7, Tryz.ntmps7
  go_upto_region 1 with (fail)
  obtain ⟨w1, hw1⟩ : ∃ w1, w1 = (w.alloc (.cells #[.int .i64 b] 3)).alloc (.cells #[.int .i64 l] 3) := ⟨_, rfl⟩
  have B1 : Below w.heap.size w w1 := by rw [hw1]; exact (below_new _ _).trans ((below_new _ _).mono (by simp))
  rw [← hw1]
  clear hw1
  have HB1 := Lib.hid B1
  clear B1
  go_wp2
  go_ret2
  exact ⟨rfl, HB1.out⟩
theorem digitsD_large (A : Option Addr) (n c : Nat) (b : Int) (w : World) (hn : 4096 < n) : Calls Tryz.prog 8 #[.slice A n c, .int .i64 b] w (RetB w (.tuple #[.slice none 0 0, .int .i64 2])) := by
  go_enter Tryz.func8, Tryz.ntmps8
  go_wp2_with (go_at_call 17; refine (largeR_yes _ _ _ _ hn).mono ?_; rintro e w' ⟨rfl, rfl⟩)
  go_ret2
  exact ⟨rfl, Below.refl _ _⟩
theorem countR_large (A : Option Addr) (n c : Nat) (b : Int) (w : World) (hn : 4096 < n) : Calls Tryz.prog 9 #[.slice A n c, .int .i64 b] w (RetB w (.tuple #[.int .i64 0, .int .i64 2])) := by
  go_enter Tryz.func9, Tryz.ntmps9
  go_wp2_with (go_at_call 8; refine (digitsD_large _ _ _ _ _ hn).mono ?_; rintro e w1 ⟨rfl, q1⟩; have G1 := Lib.hid q1; clear q1)
  go_ret2
  exact ⟨rfl, G1.out⟩
theorem padR_large (A : Option Addr) (n c : Nat) (b l : Int) (w : World) (hn : 4096 < n) : Calls Tryz.prog 10 #[.slice A n c, .int .i64 b, .int .i64 l] w (RetB w (.tuple #[.string ⟨#[]⟩, .int .i64 2])) := by
  go_enter Tryz.func10, Tryz.ntmps10
  go_wp2_with (go_at_call 17; refine (largeR_yes _ _ _ _ hn).mono ?_; rintro e w' ⟨rfl, rfl⟩)
  go_ret2
  exact ⟨rfl, Below.refl _ _⟩
theorem groupR_large (s : ByteArray) (e : Int) (w : World) (hn : 65536 < s.size) : Calls Tryz.prog 11 #[.string s, .int .i64 e] w (RetB w (.tuple #[.string ⟨#[]⟩, .int .i64 2])) := by
  have hd : decide ((65536 : Int) < (s.size : Int)) = true := decide_eq_true (by omega)
  go_enter Tryz.func11, Tryz.ntmps11
  go_wp2
  go_ret2
  exact ⟨rfl, Below.refl _ _⟩
theorem sumR_large (A : Option Addr) (n c : Nat) (b : Int) (w : World) (hn : 4096 < n) : Calls Tryz.prog 12 #[.slice A n c, .int .i64 b] w (RetB w (.tuple #[.slice none 0 0, .int .i64 2])) := by
  go_enter Tryz.func12, Tryz.ntmps12
  go_wp2_with (go_at_call 8; refine (digitsD_large _ _ _ _ _ hn).mono ?_; rintro e w1 ⟨rfl, q1⟩; have G1 := Lib.hid q1; clear q1)
  go_ret2
  exact ⟨rfl, G1.out⟩
theorem tailR_large (A : Option Addr) (n c : Nat) (b : Int) (w : World) (hn : 4096 < n) : Calls Tryz.prog 13 #[.slice A n c, .int .i64 b] w (RetB w (.tuple #[.int .i64 0, .int .i64 2])) := by
  go_enter Tryz.func13, Tryz.ntmps13
  go_wp2_with (go_at_call 8; refine (digitsD_large _ _ _ _ _ hn).mono ?_; rintro e w1 ⟨rfl, q1⟩; have G1 := Lib.hid q1; clear q1)
  go_ret2
  exact ⟨rfl, G1.out⟩
end Go.Proofs.YtlmbklpidmkdcaaGreatDoor
