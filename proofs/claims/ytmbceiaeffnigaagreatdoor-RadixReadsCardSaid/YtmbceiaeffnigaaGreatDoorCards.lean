/-
  DERIVED. GIVEN WITH THE SEED: THE CARDS: each row of YtmbceiaeffnigaaGreatDoorRows.lean that lists a variable, with what it lists TIED to the program's text (the seventh form; the later family's looks); each row that meets fmt, with fmt's text TOLD by the authors' own Lean function (tested against real Go, not proved from fmt's source: count such statements apart). THE CARD IS WHAT COUNTS. Prove the row's statement (the work); the ties are given (YtmbceiaeffnigaaGreatDoorTie.lean); close each card by the builder's one call (the guide's Derived/Test/ToyasCard.lean, 'card_holds'). Laid BY PROGRAM, IN A SANDBOX (cutbox-door.mjs). By AI agents, Wed Nov 11 2026. No macro, syntax, notation, axiom, sorry.
-/
import Derived.Test.YtmbceiaeffnigaaGreatDoorRows
import GoSem.ClaimSeven
namespace Go.Proofs.YtmbceiaeffnigaaGreatDoor
namespace Rows

/-- THE TIED CARD OF 'reckonerlaw10.RadixDigits'. -/
def radixDigitsCard : Claim7 := { stood := { row := radixDigitsRow, standIns := [], harness := (true, "332cfd9523bfe785bbe83cf2171c0e5819506b995d51c5d283645955ed4b2403"), looks := false }, kinds := [], alts := [], laidByText := true, laidKinds := [.data], laidTests := true, laidLooks := .later }
def RadixDigitsCardSaid : Prop := Claim7.holds Tryz.pinned (.plain (OpenSpec.ofChange radixDigitsSpec)) radixDigitsCard

/-- THE TIED CARD OF 'reckonerlaw10.RadixCasts'. -/
def radixCastsCard : Claim7 := { stood := { row := radixCastsRow, standIns := [], harness := (true, "332cfd9523bfe785bbe83cf2171c0e5819506b995d51c5d283645955ed4b2403"), looks := false }, kinds := [], alts := [], laidByText := true, laidKinds := [.data], laidTests := true, laidLooks := .later }
def RadixCastsCardSaid : Prop := Claim7.holds Tryz.pinned (.plain (OpenSpec.ofChange radixCastsSpec)) radixCastsCard

/-- THE TIED CARD OF 'reckonerlaw10.RadixReads'. -/
def radixReadsCard : Claim7 := { stood := { row := radixReadsRow, standIns := [], harness := (true, "332cfd9523bfe785bbe83cf2171c0e5819506b995d51c5d283645955ed4b2403"), looks := false }, kinds := [], alts := [], laidByText := true, laidKinds := [.data, .data, .pinned], laidTests := true, laidLooks := .later }
def RadixReadsCardSaid : Prop := Claim7.holds Tryz.pinned (.plain (OpenSpec.ofChange radixReadsSpec)) radixReadsCard

/-- THE SECOND FORM's CARD OF 'reckonerlaw10.RadixDigits'. -/
def radixDigitsUptoCard : Claim7 := { stood := { row := radixDigitsUptoRow, standIns := [], harness := (true, "332cfd9523bfe785bbe83cf2171c0e5819506b995d51c5d283645955ed4b2403"), looks := false }, kinds := [], alts := [], laidByText := true, laidKinds := [.data], laidTests := true, laidLooks := .later }
def RadixDigitsUptoCardSaid : Prop := Claim7.holds Tryz.pinned (.plain (OpenSpec.upto radixDigitsSpec)) radixDigitsUptoCard

/-- THE SECOND FORM's CARD OF 'reckonerlaw10.RadixCasts'. -/
def radixCastsUptoCard : Claim7 := { stood := { row := radixCastsUptoRow, standIns := [], harness := (true, "332cfd9523bfe785bbe83cf2171c0e5819506b995d51c5d283645955ed4b2403"), looks := false }, kinds := [], alts := [], laidByText := true, laidKinds := [.data], laidTests := true, laidLooks := .later }
def RadixCastsUptoCardSaid : Prop := Claim7.holds Tryz.pinned (.plain (OpenSpec.upto radixCastsSpec)) radixCastsUptoCard

/-- THE SECOND FORM's CARD OF 'reckonerlaw10.RadixReads'. -/
def radixReadsUptoCard : Claim7 := { stood := { row := radixReadsUptoRow, standIns := [], harness := (true, "332cfd9523bfe785bbe83cf2171c0e5819506b995d51c5d283645955ed4b2403"), looks := false }, kinds := [], alts := [], laidByText := true, laidKinds := [.data, .data, .pinned], laidTests := true, laidLooks := .later }
def RadixReadsUptoCardSaid : Prop := Claim7.holds Tryz.pinned (.plain (OpenSpec.upto radixReadsSpec)) radixReadsUptoCard
end Rows
end Go.Proofs.YtmbceiaeffnigaaGreatDoor
