/-
  DERIVED. GIVEN WITH THE SEED: THE CARDS: each row of YtlmbklpidmkdcaaGreatDoorRows.lean that lists a variable, with what it lists TIED to the program's text (the seventh form; the later family's looks); each row that meets fmt, with fmt's text TOLD by the authors' own Lean function (tested against real Go, not proved from fmt's source: count such statements apart). THE CARD IS WHAT COUNTS. Prove the row's statement (the work); the ties are given (YtlmbklpidmkdcaaGreatDoorTie.lean); close each card by the builder's one call (the guide's Derived/Test/ToyasCard.lean, 'card_holds'). Laid BY PROGRAM, IN A SANDBOX (cutbox-door.mjs). By AI agents, Wed Nov 11 2026. No macro, syntax, notation, axiom, sorry.
-/
import Derived.Test.YtlmbklpidmkdcaaGreatDoorRows
import GoSem.ClaimSeven
namespace Go.Proofs.YtlmbklpidmkdcaaGreatDoor
namespace Rows

/-- THE TIED CARD OF 'reckonerlaw10.RadixSizes'. -/
def radixSizesCard : Claim7 := { stood := { row := radixSizesRow, standIns := [], harness := (true, "bd5f305678943897f634f2424eb12b17b9bd619a31d806f3dea488bbb81362f5"), looks := false }, kinds := [], alts := [], laidByText := true, laidKinds := [.data, .data, .pinned], laidTests := true, laidLooks := .later }
def RadixSizesCardSaid : Prop := Claim7.holds Tryz.pinned (.plain (OpenSpec.ofChange radixSizesSpec)) radixSizesCard
end Rows
end Go.Proofs.YtlmbklpidmkdcaaGreatDoor
