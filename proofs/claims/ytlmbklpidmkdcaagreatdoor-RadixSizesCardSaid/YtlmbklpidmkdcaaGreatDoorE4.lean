/- radix.are, radix.Parse. -/
import Derived.Test.YtlmbklpidmkdcaaGreatDoorE3
namespace Go.Proofs.YtlmbklpidmkdcaaGreatDoor
open Go.RowKit

theorem dig10_high (c : Int) (h : 128 ≤ c) : dig10 c = 99 := by
  unfold dig10
  rw [if_neg (by omega), if_neg (by omega), if_neg (by omega)]
/-- The rune that begins at a byte. -/
theorem rune_at (s : ByteArray) (k : Nat) (h : k < s.size) : ∃ (r : Int) (n : Nat), (∀ (P : Program) (w : World) (K : Nat) (ty : TypeId), w.heap[K]? = some (.stringIter s k) → (Instr.next (.pointer (some ⟨K, 0, none⟩)) true ty).run P w = .ok (.tuple #[.bool true, .int .i64 (k : Int), .int .i32 r]) (w.iterAt K s (k + n))) ∧ 0 ≤ r ∧ dig10 r = dig10 ((bytes s)[k]?.getD 0) ∧ (((bytes s)[k]?.getD 0) < 128 → r = (bytes s)[k]?.getD 0 ∧ n = 1) ∧ (128 ≤ ((bytes s)[k]?.getD 0) → 128 ≤ r) := by
  rw [bytes_at s k h]
  by_cases ha : (s[k]'h).toNat < 128
  · exact ⟨_, _, fun P w K ty hi => Lib.run_next_ascii_at w K s k ty hi h ha, by omega, rfl, fun _ => ⟨rfl, rfl⟩, fun h1 => by omega⟩
  · have h1 := decode_high s k h (by omega)
    refine ⟨(Utf8.decode s k).1, (Utf8.decode s k).2, fun P w K ty hi => Lib.run_next_any_at w K s k ty hi h, by omega, ?_, fun h2 => by omega, fun _ => by omega⟩
    rw [dig10_high _ (by omega), dig10_high _ (by omega)]

theorem toList_empty (s : ByteArray) : s.toList.isEmpty = decide (s.size = 0) := by
  have he : (⟨#[]⟩ : ByteArray).toList = [] := by
    unfold ByteArray.toList
    unfold ByteArray.toList.loop
    simp [ByteArray.size]
  have h := bytes_beq s ⟨#[]⟩
  rw [he] at h
  by_cases h0 : s.size = 0
  · have : s = ⟨#[]⟩ := ByteArray.ext (Array.eq_empty_of_size_eq_zero h0)
    rw [this, he]; rfl
  · rw [decide_eq_false h0]
    rw [decide_eq_false (fun e => h0 (by rw [e]; rfl))] at h
    cases hl : s.toList with
    | nil =>
      rw [hl] at h
      exact absurd h (by decide)
    | cons x xs => rfl
instance (s : ByteArray) (b : Nat) : Decidable (Txt s b) := inferInstanceAs (Decidable (∀ j, j < s.size → _))
/-- The text is not empty, and of digits alone. -/
def areB (s : ByteArray) (b : Nat) : Bool := decide (0 < s.size ∧ Txt s b)

set_option maxHeartbeats 1000000 in
set_option maxRecDepth 100000 in
theorem areR_calls (s : ByteArray) (b : Nat) (w : World) (hb : 2 ≤ b) (hb2 : b ≤ 36) :
    Calls Tryz.prog 21 #[.string s, .int .i64 (b : Int)] w (RetB w (.bool (areB s b))) := by
  obtain ⟨A, hA⟩ : ∃ A, A = areB s b := ⟨_, rfl⟩
  rw [← hA]
  have HA := Lib.hid hA
  clear hA
  go_enter Tryz.func21, Tryz.ntmps21
  go_wp2
  go_loopg [] s.size (fun m wr => ∃ k : Nat, m + k = s.size ∧ (∀ j, j < k → dig10 ((bytes s)[j]?.getD 0) < (b : Int)) ∧ Below w.heap.size w wr ∧ wr.heap[w.heap.size]? = some (.stringIter s k))
  case atStart => exact ⟨0, rfl, fun j hj => absurd hj (by omega), below_new _ _, World.iter_heap _ _ _⟩
  case round =>
    obtain ⟨k, hk, hd, hB, hi⟩ := hrel
    have HD := Lib.hid hd
    have HB := Lib.hid hB
    have HI := Lib.hid hi
    clear hd hB
    by_cases hlt : k < s.size
    · obtain ⟨r, n, hnx0, hr0, hrd, hr1, hr2⟩ := rune_at s k hlt
      obtain ⟨W1, hW1⟩ : ∃ W1, W1 = wr.iterAt w.heap.size s (k + n) := ⟨_, rfl⟩
      have hnx : ∀ ty, (Instr.next (.pointer (some ⟨w.heap.size, 0, none⟩)) true ty).run Tryz.prog wr = .ok (.tuple #[.bool true, .int .i64 (k : Int), .int .i32 r]) W1 := fun ty => by
        rw [hnx0 _ _ _ _ hi, hW1]
      have hB1 : Below w.heap.size w W1 := by rw [hW1]; exact Lib.below_iterAt HB.out (Nat.le_refl _) _ _
      have HB1 := Lib.hid hB1
      have HW1 := Lib.hid hW1
      have HRD := Lib.hid hrd
      have HR1 := Lib.hid hr1
      clear hW1 hB1 hi hnx0 hr1 hr2
      by_cases hg : dig10 r < (b : Int)
      · have hv : valD r (b : Int) = dig10 r := by unfold valD; rw [if_pos hg]
        have hp := dig10_pos _ hr0
        have hgb : dig10 ((bytes s)[k]?.getD 0) < (b : Int) := hrd ▸ hg
        obtain ⟨d, hdd⟩ : ∃ d, d = dig10 r := ⟨_, rfl⟩
        rw [← hdd] at hp hv
        have HV := Lib.hid hv
        have HG := Lib.hid hgb
        clear hv hdd hrd hg hgb
        go_wp2_with (go_at_call 48; refine (valueR_calls r (b : Int) _ hr0 (by omega) (by omega)).mono ?_; rintro e w' ⟨rfl, q1⟩; rw [HV.out]; have G1 := Lib.hid q1; clear q1)
        go_roundg (gk - 1)
        case rel =>
          have hn1 := (HR1.out (dig10_lt _ (b := (b : Int)) (by omega) HG.out).1).2
          refine ⟨k + 1, by omega, fun j hj => ?_, HB1.out.trans (G1.out.mono HB1.out.size), ?_⟩
          · by_cases e : j = k
            · subst e; exact HG.out
            · exact HD.out j (by omega)
          · rw [G1.out.block _ (by rw [HW1.out, Lib.iterAt_size]; exact (Array.getElem?_eq_some_iff.1 HI.out).1), HW1.out, hn1]
            exact Lib.iterAt_heap _ _ _ _ _ HI.out
        case measure => omega
      · have hv : valD r (b : Int) = -1 := by unfold valD; rw [if_neg hg]
        have hno : A = false := by
          rw [HA.out]
          unfold areB
          exact decide_eq_false (fun h => hg (by rw [HRD.out]; exact h.2 k hlt))
        have HV := Lib.hid hv
        have HNO := Lib.hid hno
        clear hv hrd hg hno
        go_wp2_with (go_at_call 48; refine (valueR_calls r (b : Int) _ hr0 (by omega) (by omega)).mono ?_; rintro e w' ⟨rfl, q1⟩; rw [HV.out]; have G1 := Lib.hid q1; clear q1)
        go_ret
        exact ⟨by rw [HNO.out]; rfl, HB1.out.trans (G1.out.mono HB1.out.size)⟩
    · have hnx : ∀ ty, (Instr.next (.pointer (some ⟨w.heap.size, 0, none⟩)) true ty).run Tryz.prog wr = .ok (.tuple #[.bool false]) wr := fun ty => Lib.run_next_end_at _ _ _ _ _ hi hlt
      have hkk : k = s.size := by omega
      have hA : A = !s.toList.isEmpty := by
        rw [HA.out, toList_empty]
        unfold areB
        rw [← decide_not]
        refine decide_eq_decide.2 ⟨fun h => by omega, fun h => ⟨by omega, fun j hj => HD.out j (by omega)⟩⟩
      have HA2 := Lib.hid hA
      clear hi hkk hA
      go_wp2
      go_ret
      refine ⟨?_, HB.out⟩
      simp
      rw [HA2.out]
      simp

def RetNat (w : World) (n : Nat) (e : Ending) (w' : World) : Prop := ∃ v', e = .returned (.tuple #[v', .int .i64 0]) ∧ SI w' .u64 v' (wordsOf n) ∧ Below w.heap.size w w'
set_option maxHeartbeats 1000000 in
theorem parseR_yes (s : ByteArray) (b : Nat) (w : World) (hb : 2 ≤ b) (hb2 : b ≤ 36) (hn : s.size ≤ 65536) (hw : (wordsOf (pre b s s.size)).length ≤ 4096) (h : areB s b = true) :
    Calls Tryz.prog 5 #[.string s, .int .i64 (b : Int)] w (RetNat w (pre b s s.size)) := by
  have ht : Txt s b := (of_decide_eq_true h).2
  have hbb := isB_yes (b := (b : Int)) (by omega) (by omega)
  have H := Lib.hid h
  have HBB := Lib.hid hbb
  obtain ⟨N, hN⟩ : ∃ N, N = pre b s s.size := ⟨_, rfl⟩
  rw [← hN] at hw ⊢
  have HN := Lib.hid hN
  have HT := Lib.hid ht
  have HW := Lib.hid hw
  clear h hbb hN ht hw
  go_enter Tryz.func5, Tryz.ntmps5
  go_wp2_with (first
    | (go_at_call 18; refine (isBaseR_calls _ _).mono ?_; rintro e w' ⟨rfl, rfl⟩; rw [HBB.out])
    | (go_at_call 21; refine (areR_calls s b _ hb hb2).mono ?_; rintro e w1 ⟨rfl, q1⟩; rw [H.out]; have G1 := Lib.hid q1; clear q1)
    | (go_at_call 23; refine (numberR_calls s b _ hb hb2 hn HT.out).mono ?_; rintro e w2 ⟨v2, rfl, q2, q3⟩; rw [← HN.out] at q2; obtain ⟨A, c, rfl, _, _⟩ := q2.form; have G2 := Lib.hid q2; have G3 := Lib.hid q3; clear q2 q3)
    | (go_at_call 22; refine (fitR_calls _ _ _ _ HW.out).mono ?_; rintro e w' ⟨rfl, rfl⟩))
  go_ret2
  exact ⟨_, rfl, G2.out, G1.out.trans (G3.out.mono G1.out.size)⟩
theorem parseR_form (s : ByteArray) (b : Nat) (w : World) (hb : 2 ≤ b) (hb2 : b ≤ 36) (hn : s.size ≤ 65536) (h : areB s b = false) :
    Calls Tryz.prog 5 #[.string s, .int .i64 (b : Int)] w (RetB w (.tuple #[.slice none 0 0, .int .i64 6])) := by
  have hbb := isB_yes (b := (b : Int)) (by omega) (by omega)
  have H := Lib.hid h
  have HBB := Lib.hid hbb
  clear h hbb
  go_enter Tryz.func5, Tryz.ntmps5
  go_wp2_with (first
    | (go_at_call 18; refine (isBaseR_calls _ _).mono ?_; rintro e w' ⟨rfl, rfl⟩; rw [HBB.out])
    | (go_at_call 21; refine (areR_calls s b _ hb hb2).mono ?_; rintro e w1 ⟨rfl, q1⟩; rw [H.out]; have G1 := Lib.hid q1; clear q1))
  go_ret2
  exact ⟨rfl, G1.out⟩
theorem parseR_arg (s : ByteArray) (b : Int) (w : World) (hn : s.size ≤ 65536) (hb : isB b = false) :
    Calls Tryz.prog 5 #[.string s, .int .i64 b] w (RetB w (.tuple #[.slice none 0 0, .int .i64 1])) := by
  have HBB := Lib.hid hb
  clear hb
  go_enter Tryz.func5, Tryz.ntmps5
  go_wp2_with (go_at_call 18; refine (isBaseR_calls _ _).mono ?_; rintro e w' ⟨rfl, rfl⟩; rw [HBB.out])
  go_ret2
  exact ⟨rfl, Below.refl _ _⟩
end Go.Proofs.YtlmbklpidmkdcaaGreatDoor
