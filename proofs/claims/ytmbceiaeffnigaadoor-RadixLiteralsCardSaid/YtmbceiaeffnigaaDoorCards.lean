/-
  DERIVED. GIVEN WITH THE SEED: THE CARDS: each row of YtmbceiaeffnigaaDoorRows.lean that lists a variable, with what it lists TIED to the program's text (the seventh form; the later family's looks); each row that meets fmt, with fmt's text TOLD by the authors' own Lean function (tested against real Go, not proved from fmt's source: count such statements apart). THE CARD IS WHAT COUNTS. Prove the row's statement (the work); the ties are given (YtmbceiaeffnigaaDoorTie.lean); close each card by the builder's one call (the guide's Derived/Test/ToyasCard.lean, 'card_holds'). Laid BY PROGRAM, IN A SANDBOX (cutbox-door.mjs). By AI agents, Wed Nov 11 2026. No macro, syntax, notation, axiom, sorry.
-/
import Derived.Test.YtmbceiaeffnigaaDoorRows
import GoSem.ClaimSeven
namespace Go.Proofs.YtmbceiaeffnigaaDoor
namespace Rows

/-- THE TIED CARD OF 'reckonerlaw10.RadixShapes'. -/
def radixShapesCard : Claim7 := { stood := { row := radixShapesRow, standIns := [], harness := (true, "83b772cdfef1b9c08ecc84d620b69b23c82c785a47722bfd1252942b84043c35"), looks := false }, kinds := [], alts := [], laidByText := true, laidKinds := [.data], laidTests := true, laidLooks := .later }
def RadixShapesCardSaid : Prop := Claim7.holds Tryd.pinned (.plain (OpenSpec.ofChange radixShapesSpec)) radixShapesCard

/-- THE TIED CARD OF 'reckonerlaw10.RadixOrders'. -/
def radixOrdersCard : Claim7 := { stood := { row := radixOrdersRow, standIns := [], harness := (true, "83b772cdfef1b9c08ecc84d620b69b23c82c785a47722bfd1252942b84043c35"), looks := false }, kinds := [], alts := [], laidByText := true, laidKinds := [.data], laidTests := true, laidLooks := .later }
def RadixOrdersCardSaid : Prop := Claim7.holds Tryd.pinned (.plain (OpenSpec.ofChange radixOrdersSpec)) radixOrdersCard

/-- THE TIED CARD OF 'reckonerlaw10.RadixLiterals'. -/
def radixLiteralsCard : Claim7 := { stood := { row := radixLiteralsRow, standIns := [], harness := (true, "83b772cdfef1b9c08ecc84d620b69b23c82c785a47722bfd1252942b84043c35"), looks := false }, kinds := [], alts := [], laidByText := true, laidKinds := [.data], laidTests := true, laidLooks := .later }
def RadixLiteralsCardSaid : Prop := Claim7.holds Tryd.pinned (.plain (OpenSpec.ofChange radixLiteralsSpec)) radixLiteralsCard

/-- THE SECOND FORM's CARD OF 'reckonerlaw10.RadixShapes'. -/
def radixShapesUptoCard : Claim7 := { stood := { row := radixShapesUptoRow, standIns := [], harness := (true, "83b772cdfef1b9c08ecc84d620b69b23c82c785a47722bfd1252942b84043c35"), looks := false }, kinds := [], alts := [], laidByText := true, laidKinds := [.data], laidTests := true, laidLooks := .later }
def RadixShapesUptoCardSaid : Prop := Claim7.holds Tryd.pinned (.plain (OpenSpec.upto radixShapesSpec)) radixShapesUptoCard

/-- THE SECOND FORM's CARD OF 'reckonerlaw10.RadixOrders'. -/
def radixOrdersUptoCard : Claim7 := { stood := { row := radixOrdersUptoRow, standIns := [], harness := (true, "83b772cdfef1b9c08ecc84d620b69b23c82c785a47722bfd1252942b84043c35"), looks := false }, kinds := [], alts := [], laidByText := true, laidKinds := [.data], laidTests := true, laidLooks := .later }
def RadixOrdersUptoCardSaid : Prop := Claim7.holds Tryd.pinned (.plain (OpenSpec.upto radixOrdersSpec)) radixOrdersUptoCard

/-- THE SECOND FORM's CARD OF 'reckonerlaw10.RadixLiterals'. -/
def radixLiteralsUptoCard : Claim7 := { stood := { row := radixLiteralsUptoRow, standIns := [], harness := (true, "83b772cdfef1b9c08ecc84d620b69b23c82c785a47722bfd1252942b84043c35"), looks := false }, kinds := [], alts := [], laidByText := true, laidKinds := [.data], laidTests := true, laidLooks := .later }
def RadixLiteralsUptoCardSaid : Prop := Claim7.holds Tryd.pinned (.plain (OpenSpec.upto radixLiteralsSpec)) radixLiteralsUptoCard
end Rows
end Go.Proofs.YtmbceiaeffnigaaDoor
