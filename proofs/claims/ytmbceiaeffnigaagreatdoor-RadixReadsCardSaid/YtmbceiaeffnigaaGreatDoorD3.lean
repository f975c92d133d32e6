/- The reference's Parse. -/
import Derived.Test.YtmbceiaeffnigaaGreatDoorD2
import Derived.Test.YtmbceiaeffnigaaGreatDoorA
namespace Go.Proofs.YtmbceiaeffnigaaGreatDoor
open Go.RowKit

/-- The digits of a text, the lowest first. -/
def txtD (s : ByteArray) (m : Nat) : List Int := (((bytes s).drop m).map dig10).reverse
theorem txtD_step (s : ByteArray) (k : Nat) (h : k < (bytes s).length) : txtD s k = txtD s (k + 1) ++ [dig10 ((bytes s)[k]?.getD 0)] := by
  unfold txtD
  rw [List.drop_eq_getElem_cons h, List.map_cons, List.reverse_cons, List.getElem?_eq_getElem h]
  rfl
theorem dig10_pos (c : Int) (h : 0 ≤ c) : 0 ≤ dig10 c := by unfold dig10; repeat' split
                                                            all_goals omega

set_option maxHeartbeats 1000000 in
theorem parse10_yes (s : ByteArray) (b : Nat) (w : World) (hb : 2 ≤ b) (hb2 : b ≤ 36) (hn : s.size ≤ 3000) (hd : ∀ j, j < s.size → dig10 ((bytes s)[j]?.getD 0) < (b : Int)) :
    Calls Tryz.prog 31 #[.string s, .int .i64 (b : Int)] w fun e w' => ∃ v', e = .returned (.tuple #[v', .bool (decide (0 < s.size))]) ∧ SI w' .u64 v' (wordsOf (val b (txtD s 0))) ∧ Below w.heap.size w w' := by
  have hbl := bytes_length s
  have HD := Lib.hid hd
  have HBL := Lib.hid hbl
  obtain ⟨bz, hbz⟩ : ∃ bz, bz = decide (0 < s.size) := ⟨_, rfl⟩
  rw [← hbz]
  have HBZ := Lib.hid hbz
  clear hd hbl hbz
  go_enter Tryz.func31, Tryz.ntmps31
  go_wp2
  go_loopw [6, 7] (fun o i wr => ∃ m : Nat, m ≤ s.size ∧ i = .int .i64 ((m : Int) - 1) ∧ Own w.heap.size 3 wr .i64 o (txtD s m) ∧ Below w.heap.size w wr) (fun o i _ => (intOf i + 1).toNat)
  case atStart => exact ⟨s.size, Nat.le_refl _, rfl, by unfold txtD; rw [List.drop_eq_nil_of_le (by rw [HBL.out]; exact Nat.le_refl _)]; exact Own.nil _ _ _ _, Below.refl _ _⟩
  case round =>
    obtain ⟨m, hm, rfl, ho, hB⟩ := hrel
    have HO := Lib.hid ho
    have HB := Lib.hid hB
    by_cases h0 : 0 < m
    · obtain ⟨k, rfl⟩ : ∃ k, m = k + 1 := ⟨m - 1, by omega⟩
      rw [show (((k + 1 : Nat) : Int) - 1) = (k : Int) by omega]
      have hlt : k < s.size := by omega
      have hst := txtD_step s k (by rw [HBL.out]; exact hlt)
      have hdk := HD.out k hlt
      have hat := bytes_at s k hlt
      have hrg := bytes_range s k
      generalize (bytes s)[k]?.getD 0 = c at *
      obtain ⟨r0, r1⟩ := hrg
      have hd0 := dig10_pos c r0
      generalize hdd : dig10 c = d at *
      have HDD := Lib.hid hdd
      have HAT := Lib.hid hat
      have HST := Lib.hid hst
      have hln : (txtD s (k + 1)).length ≤ 3000 := by unfold txtD; simp [HBL.out]; omega
      clear hst hat hdd ho hB
      go_wp2_with (first
        | (go_at_call 65; rw [← HAT.out]; refine (digit10_calls _ _ r0 r1).mono ?_; rintro e w' ⟨rfl, rfl⟩; rw [HDD.out])
        | (at_builtin; refine wpList_app1 (W0 := w) rfl (.tmp 23) (.tmp 25) 24 rfl w.heap.size 3 8 .i64 Tryz.underlying24 infoI _ (txtD s (k + 1)) _ rfl rfl HO.out (by omega) (by omega) HB.out HB.out.size ?_; intro v5 w5 q1 q2 q3 q4; rw [← HST.out] at q1; have G1 := Lib.hid q1; have G2 := Lib.hid q2; clear q1 q2 q3 q4))
      go_roundw
      case rel => exact ⟨k, by omega, rfl, G1.out, G2.out⟩
      case measure => simp [intOf]
    · obtain rfl : m = 0 := by omega
      rw [show (((0 : Nat) : Int) - 1) = -1 by omega]
      have hdg : Dig b (txtD s 0) := by
        intro j hj
        have hx : (txtD s 0)[j]?.getD 0 ∈ txtD s 0 := by rw [List.getElem?_eq_getElem hj]; exact List.getElem_mem hj
        obtain ⟨y, hy⟩ : ∃ y, y = (txtD s 0)[j]?.getD 0 := ⟨_, rfl⟩
        rw [← hy] at hx ⊢
        clear hy
        unfold txtD at hx
        rw [List.mem_reverse, List.mem_map, List.drop_zero] at hx
        obtain ⟨c, hc, he⟩ := hx
        obtain ⟨i, hi, rfl⟩ := List.mem_iff_getElem.1 hc
        rw [HBL.out] at hi
        have h1 := HD.out i hi
        have h2 := (bytes_range s i).1
        rw [List.getElem?_eq_getElem (by rw [HBL.out]; exact hi), Option.getD_some] at h1 h2
        have h3 := dig10_pos _ h2
        rw [← he]
        exact ⟨h3, h1⟩
      have HDG := Lib.hid hdg
      have hln : (txtD s 0).length ≤ 3000 := by unfold txtD; simp [HBL.out]; omega
      clear hdg ho hB
      go_wp2_with (go_at_call 19; refine (fromdigits10_calls _ (txtD s 0) b _ HO.out.si HDG.out hb hb2 hln).mono ?_; rintro e w5 ⟨v5, rfl, q1, q2⟩; have G1 := Lib.hid q1; have G2 := Lib.hid q2; clear q1 q2)
      go_ret2
      exact ⟨_, by rw [HBZ.out]; rfl, G1.out, HB.out.trans (G2.out.mono HB.out.size)⟩
end Go.Proofs.YtmbceiaeffnigaaGreatDoor
