/- radix.FromDigits. -/
import Derived.Test.YtmbceiaeffnigaaGreatDoorH1
import Derived.Test.YtmbceiaeffnigaaGreatDoorE4
namespace Go.Proofs.YtmbceiaeffnigaaGreatDoor
open Go.RowKit

theorem fd1_calls (d b : Int) (p : Nat) (w : World) (hp : w.cell? ⟨p, 0, none⟩ = some (.int .i64 b)) : Calls Tryz.prog 39 #[.int .i64 d, .pointer (some ⟨p, 0, none⟩)] w (RetV w (.bool (decide (d < 0) || decide (b ≤ d)))) := by
  by_cases h0 : d < 0
  · go_enter Tryz.func39, Tryz.ntmps39
    go_wp2
    go_ret
    exact ⟨ret_of (by rw [decide_eq_true h0]; rfl), rfl⟩
  · have h1 : decide (d < 0) = false := decide_eq_false h0
    go_enter Tryz.func39, Tryz.ntmps39
    go_wp2
    go_ret
    exact ⟨rfl, rfl⟩
theorem bad_no {d b : Int} (h0 : 0 ≤ d) (h1 : d < b) : (decide (d < 0) || decide (b ≤ d)) = false := by simp; omega
theorem bad_yes {d b : Int} (h : ¬ (0 ≤ d ∧ d < b)) : (decide (d < 0) || decide (b ≤ d)) = true := by simp; omega
instance (b : Nat) (L : List Int) : Decidable (Dig b L) := inferInstanceAs (Decidable (∀ j, j < L.length → _))

def IdxPost (w : World) (b : Nat) (L : List Int) (e : Ending) (w' : World) : Prop := ∃ i : Int, e = .returned (.int .i64 i) ∧ (Dig b L → i = -1) ∧ (¬ Dig b L → 0 ≤ i) ∧ w = w'
set_option maxHeartbeats 1000000 in
theorem idxF_calls (v : Value) (L : List Int) (b p : Nat) (w : World) (hr : SI w .i64 v L) (hn : L.length ≤ 1099511627776) (hp : w.cell? ⟨p, 0, none⟩ = some (.int .i64 (b : Int))) :
    Calls Tryz.prog 71 #[v, .func (.func 39) #[] #[.pointer (some ⟨p, 0, none⟩)]] w (IdxPost w b L) := by
  obtain ⟨A, c, rfl, hc, hcell⟩ := hr.form
  have HC := Lib.hid hcell
  have HP := Lib.hid hp
  clear hr hcell hp
  go_enter Tryz.func71, Tryz.ntmps71
  go_wp2
  go_loopw [8] (fun i wr => ∃ k : Nat, k ≤ L.length ∧ i = .int .i64 k ∧ (∀ j, j < k → 0 ≤ L[j]?.getD 0 ∧ L[j]?.getD 0 < (b : Int)) ∧ w = wr) (fun i _ => L.length - (intOf i).toNat)
  case atStart => exact ⟨0, Nat.zero_le _, rfl, fun j hj => absurd hj (by omega), rfl⟩
  case round =>
    obtain ⟨k, hk, rfl, hg, rfl⟩ := hrel
    have HG := Lib.hid hg
    clear hg
    by_cases hlt : k < L.length
    · obtain ⟨ad, e, hcl⟩ := HC.out k hlt
      subst e
      obtain ⟨x, hx⟩ : ∃ x, x = L[k]?.getD 0 := ⟨_, rfl⟩
      rw [← hx] at hcl
      have HX := Lib.hid hx
      clear hx
      by_cases hok : 0 ≤ x ∧ x < (b : Int)
      · have hbn := bad_no hok.1 hok.2
        have HBN := Lib.hid hbn
        clear hbn
        go_wp2_with (go_at_call 39; refine (fd1_calls x (b : Int) p _ HP.out).mono ?_; rintro e w' ⟨rfl, rfl⟩; rw [HBN.out])
        go_roundw
        case rel => exact ⟨k + 1, by omega, by go_num, fun j hj => by
                      rcases Nat.lt_succ_iff_lt_or_eq.1 hj with h | h
                      · exact HG.out j h
                      · subst h; rw [← HX.out]; exact hok, by first | trivial | rfl⟩
        case measure => simp [intOf]; omega
      · have hby := bad_yes hok
        have HBY := Lib.hid hby
        have hnd : ¬ Dig b L := fun h => hok (by rw [HX.out]; exact h k hlt)
        have HND := Lib.hid hnd
        clear hby hok hnd
        go_wp2_with (go_at_call 39; refine (fd1_calls x (b : Int) p _ HP.out).mono ?_; rintro e w' ⟨rfl, rfl⟩; rw [HBY.out])
        go_ret
        exact ⟨(k : Int), rfl, fun h => absurd h HND.out, fun _ => by omega, rfl⟩
    · have hd : Dig b L := fun j hj => HG.out j (by omega)
      have HD := Lib.hid hd
      clear hd
      go_wp2
      go_ret
      exact ⟨-1, rfl, fun _ => rfl, fun h => absurd HD.out h, rfl⟩
theorem containsF_calls (v : Value) (L : List Int) (b p : Nat) (w : World) (hr : SI w .i64 v L) (hn : L.length ≤ 1099511627776) (hp : w.cell? ⟨p, 0, none⟩ = some (.int .i64 (b : Int))) :
    Calls Tryz.prog 38 #[v, .func (.func 39) #[] #[.pointer (some ⟨p, 0, none⟩)]] w (RetV w (.bool (decide (¬ Dig b L)))) := by
  have HC := Lib.hid (idxF_calls v L b p w hr hn hp)
  by_cases hd : Dig b L
  · rw [decide_eq_false (by simpa using hd)]
    have HD := Lib.hid hd
    clear hr hd hp
    go_enter Tryz.func38, Tryz.ntmps38
    go_wp2_with (go_at_call 71; refine HC.out.mono ?_; rintro e w' ⟨i, rfl, hi, _, rfl⟩; have hi2 := hi HD.out; clear hi; subst hi2)
    go_ret
    exact ⟨rfl, rfl⟩
  · rw [decide_eq_true hd]
    have HD := Lib.hid hd
    clear hr hd hp
    go_enter Tryz.func38, Tryz.ntmps38
    go_wp2_with (go_at_call 71; refine HC.out.mono ?_; rintro e w' ⟨i, rfl, _, hi, rfl⟩; have hi2 := hi HD.out; clear hi)
    go_ret
    exact ⟨rfl, rfl⟩

theorem fromDigitsR_arg (v : Value) (L : List Int) (b : Int) (w : World) (hr : SI w .i64 v L) (hb : isB b = false) :
    Calls Tryz.prog 11 #[v, .int .i64 b] w (RetB w (.tuple #[.slice none 0 0, .int .i64 1])) := by
  obtain ⟨A, c, rfl, hc, _⟩ := hr.form
  have HBB := Lib.hid hb
  clear hr hb
  go_enter Tryz.func11, Tryz.ntmps11
  go_wp2_with (go_at_call 34; refine (isBaseR_calls _ _).mono ?_; rintro e w' ⟨rfl, rfl⟩; rw [HBB.out])
  go_ret2
  exact ⟨rfl, below_new _ _⟩
theorem fromDigitsR_long (v : Value) (L : List Int) (b : Nat) (w : World) (hr : SI w .i64 v L) (hb : 2 ≤ b) (hb2 : b ≤ 36) (hl : 65536 < L.length) :
    Calls Tryz.prog 11 #[v, .int .i64 (b : Int)] w (RetB w (.tuple #[.slice none 0 0, .int .i64 1])) := by
  obtain ⟨A, c, rfl, hc, _⟩ := hr.form
  have hbb := isB_yes (b := (b : Int)) (by omega) (by omega)
  have HBB := Lib.hid hbb
  have hll : decide ((65536 : Int) < (L.length : Int)) = true := decide_eq_true (by omega)
  clear hr hbb
  go_enter Tryz.func11, Tryz.ntmps11
  go_wp2_with (go_at_call 34; refine (isBaseR_calls _ _).mono ?_; rintro e w' ⟨rfl, rfl⟩; rw [HBB.out])
  go_ret2
  exact ⟨rfl, below_new _ _⟩
theorem fromDigitsR_bad (v : Value) (L : List Int) (b : Nat) (w : World) (hr : SI w .i64 v L) (hb : 2 ≤ b) (hb2 : b ≤ 36) (hl : L.length ≤ 65536) (hd : ¬ Dig b L) :
    Calls Tryz.prog 11 #[v, .int .i64 (b : Int)] w (RetB w (.tuple #[.slice none 0 0, .int .i64 1])) := by
  have HR := Lib.hid (hr.alloc (.cells #[.int .i64 (b : Int)] 3))
  obtain ⟨A, c, rfl, hc, _⟩ := hr.form
  have hbb := isB_yes (b := (b : Int)) (by omega) (by omega)
  have HBB := Lib.hid hbb
  have HD := Lib.hid (decide_eq_true hd)
  clear hr hbb hd
  go_enter Tryz.func11, Tryz.ntmps11
  go_wp2_with (first
    | (go_at_call 34; refine (isBaseR_calls _ _).mono ?_; rintro e w' ⟨rfl, rfl⟩; rw [HBB.out])
    | (go_at_call 38; refine (containsF_calls _ L b _ _ HR.out (by omega) (by simp [go_sem])).mono ?_; rintro e w' ⟨rfl, rfl⟩; rw [HD.out]))
  go_ret2
  exact ⟨rfl, below_new _ _⟩
end Go.Proofs.YtmbceiaeffnigaaGreatDoor
