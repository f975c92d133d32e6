/- The reference's Digit. -/
import Derived.Test.YtlmbklpidmkdcaaGreatDoorA
namespace Go.Proofs.YtlmbklpidmkdcaaGreatDoor
open Go.RowKit

/-- The reference's digit; 99: none. -/
def dig10 (c : Int) : Int := if 48 ≤ c ∧ c ≤ 57 then c - 48 else if 97 ≤ c ∧ c ≤ 122 then c - 87 else if 65 ≤ c ∧ c ≤ 90 then c - 55 else 99
end Go.Proofs.YtlmbklpidmkdcaaGreatDoor
