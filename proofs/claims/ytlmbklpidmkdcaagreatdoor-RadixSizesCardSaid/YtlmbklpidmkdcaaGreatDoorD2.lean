/- The reference's FromDigits. -/
import Derived.Test.YtlmbklpidmkdcaaGreatDoorD1
import Derived.Test.YtlmbklpidmkdcaaGreatDoorA
import Derived.Deep.RegionHeld3
import Derived.Deep.DeepCutAuto
import Derived.Deep.CutBlock
namespace Go.Proofs.YtlmbklpidmkdcaaGreatDoor
open Go.RowKit

theorem val_words {b : Nat} (hb : b ≤ 36) : ∀ (L : List Int), Dig b L → (wordsOf (val b L)).length ≤ L.length := by
  intro L hL
  refine wordsOf_len _ _ ?_
  have h0 : ∀ x ∈ L, x.toNat < 18446744073709551616 := by
    intro x hx
    obtain ⟨j, hj, rfl⟩ := List.mem_iff_getElem.1 hx
    have := hL j hj
    rw [List.getElem?_eq_getElem hj] at this
    simp at this
    omega
  have h1 : ∀ x ∈ L, x.toNat < b ∨ b = 0 := by
    intro x hx
    obtain ⟨j, hj, rfl⟩ := List.mem_iff_getElem.1 hx
    have := hL j hj
    rw [List.getElem?_eq_getElem hj] at this
    simp at this
    omega
  rcases Nat.eq_zero_or_pos b with hb0 | hb0
  · subst hb0
    cases L with
    | nil => simp [val]
    | cons x xs => have := hL 0 (by simp); simp at this; omega
  · refine Nat.lt_of_lt_of_le (val_lt b hb0 L (fun x hx => (h1 x hx).resolve_right (by omega))) (Nat.pow_le_pow_left (by omega) _)

end Go.Proofs.YtlmbklpidmkdcaaGreatDoor
