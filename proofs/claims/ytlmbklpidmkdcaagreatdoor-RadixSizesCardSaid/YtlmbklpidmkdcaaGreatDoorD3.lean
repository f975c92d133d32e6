/- The reference's Parse. -/
import Derived.Test.YtlmbklpidmkdcaaGreatDoorD2
import Derived.Test.YtlmbklpidmkdcaaGreatDoorA
namespace Go.Proofs.YtlmbklpidmkdcaaGreatDoor
open Go.RowKit

/-- The digits of a text, the lowest first. -/
def txtD (s : ByteArray) (m : Nat) : List Int := (((bytes s).drop m).map dig10).reverse
theorem txtD_step (s : ByteArray) (k : Nat) (h : k < (bytes s).length) : txtD s k = txtD s (k + 1) ++ [dig10 ((bytes s)[k]?.getD 0)] := by
  unfold txtD
  rw [List.drop_eq_getElem_cons h, List.map_cons, List.reverse_cons, List.getElem?_eq_getElem h]
  rfl
theorem dig10_pos (c : Int) (h : 0 ≤ c) : 0 ≤ dig10 c := by unfold dig10; repeat' split
                                                            all_goals omega

end Go.Proofs.YtlmbklpidmkdcaaGreatDoor
