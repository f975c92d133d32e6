/-
  NARROWER THAN 'FOR EVERY INPUT', by the rows' own cells (each row's printed sentence says how): RadixShapes: laid · RadixOrders: laid · RadixLiterals: laid.
  DERIVED. THE GIVEN ROWS OF THIS SEAT. 3 by the template 'for every input the law returns true; each argument reads behind the call as it read before'; 0 by the template 'total and deterministic' (their statements: YtmbceiaeffnigaaDoorTotals.lean).
  GIVEN WITH THE SEED: the statements are not yours to turn. If you find one false, say at which input.
  Laid BY PROGRAM, IN A SANDBOX (cutbox-rows.mjs): the forced cells as the released guide's own fill.sh prints them over the translation 24989d25a616e604… (all of the seat's roots in one cut). By AI agents, Wed Nov 11 2026. No macro, syntax, notation, axiom, sorry.
-/
import Derived.Test.YtmbceiaeffnigaaDoorChecked
import GoSem.Claim
import GoSem.ClaimJoined
import GoSem.ClaimMapViews
import Derived.JoinedTies
import Derived.KernelRfl
namespace Go.Proofs.YtmbceiaeffnigaaDoor
/- THE CELL 'sum', in the pinned program and in every row, IS THE sha256 OF THE DUMP (.gsa) THAT YtmbceiaeffnigaaDoorProg.lean LOADS. Nothing in Lean hashes anything: it is a label: what it is worth is what the hold of that sum in a sandbox is worth. -/
noncomputable def Tryd.pinned : Pinned := { name := "ytmbceiaeffnigaadoor", sum := "24989d25a616e604a061cf35ab7843f93744ee498b088080eb91f91cc48b55b0", checked := Tryd.checked }
namespace Rows
def none {H : Type} : Left H := { results := [], args := [] }

/- WHAT THE LISTED PACKAGE-LEVEL VARIABLES READ AS WHEN THE CALL BEGINS. Each datum BY PROGRAM (the guide's laid-datum.mjs) off the statement by which the dump's own 'gosem.cut.vars' lays the variable. In a bare row this is a premise. The card (YtmbceiaeffnigaaDoorCards.lean) ties it to the program's text. -/
def laid_reckoner_radix_none {H : Type} : DataW H := .agg [.lit (.int .i64 0), .lit (.string [])]

/-- 'reckonerlaw10.RadixShapes': WHATEVER THE INPUT: true; the input reads as it did. -/
def radixShapesSpec : ChangeSpec := { name := "radixShapes", fn := fun _ => fun
  | [d1, d2, d3] => { results := [.lit (.bool true)], args := [d1, d2, d3] }
  | _ => none }
def radixShapesRow : OpenClaim := { program := "ytmbceiaeffnigaadoor", sum := "24989d25a616e604a061cf35ab7843f93744ee498b088080eb91f91cc48b55b0", func := "reckoner/reckonerlaw10.RadixShapes", spec := "radixShapes", inPlace := ["internal/abi.NoEscape", "internal/bytealg.MakeNoZero", "internal/bytealg.IndexByteString", "internal/bytealg.IndexString", "math/bits.Add64"], unfollowed := true, recurses := true, named := ["math/bits.divideError", "math/bits.overflowError", "reckoner/radix.none", "internal/bytealg.MaxLen"], apart := false, laid := [("reckoner/radix.none", laid_reckoner_radix_none)] }
def RadixShapesSaid : Prop := radixShapesRow.holds Tryd.pinned (OpenSpec.ofChange radixShapesSpec)

/-- ITS FALSE NEIGHBOUR: 'it returns false'. Refute it at one input. -/
def radixShapesWrong : ChangeSpec := { name := "radixShapes", fn := fun _ => fun
  | [d1, d2, d3] => { results := [.lit (.bool false)], args := [d1, d2, d3] }
  | _ => none }
def RadixShapesWrongFalsely : Prop := radixShapesRow.holds Tryd.pinned (OpenSpec.ofChange radixShapesWrong)

/-- 'reckonerlaw10.RadixOrders': WHATEVER THE INPUT: true; the input reads as it did. -/
def radixOrdersSpec : ChangeSpec := { name := "radixOrders", fn := fun _ => fun
  | [d1, d2, d3] => { results := [.lit (.bool true)], args := [d1, d2, d3] }
  | _ => none }
def radixOrdersRow : OpenClaim := { program := "ytmbceiaeffnigaadoor", sum := "24989d25a616e604a061cf35ab7843f93744ee498b088080eb91f91cc48b55b0", func := "reckoner/reckonerlaw10.RadixOrders", spec := "radixOrders", inPlace := ["internal/abi.NoEscape", "internal/bytealg.MakeNoZero", "internal/bytealg.IndexByteString", "internal/bytealg.IndexString", "math/bits.Add64"], unfollowed := true, recurses := true, named := ["math/bits.divideError", "math/bits.overflowError", "reckoner/radix.none", "internal/bytealg.MaxLen"], apart := false, laid := [("reckoner/radix.none", laid_reckoner_radix_none)] }
def RadixOrdersSaid : Prop := radixOrdersRow.holds Tryd.pinned (OpenSpec.ofChange radixOrdersSpec)

/-- ITS FALSE NEIGHBOUR: 'it returns false'. Refute it at one input. -/
def radixOrdersWrong : ChangeSpec := { name := "radixOrders", fn := fun _ => fun
  | [d1, d2, d3] => { results := [.lit (.bool false)], args := [d1, d2, d3] }
  | _ => none }
def RadixOrdersWrongFalsely : Prop := radixOrdersRow.holds Tryd.pinned (OpenSpec.ofChange radixOrdersWrong)

/-- 'reckonerlaw10.RadixLiterals': WHATEVER THE INPUT: true; the input reads as it did. -/
def radixLiteralsSpec : ChangeSpec := { name := "radixLiterals", fn := fun _ => fun
  | [d] => { results := [.lit (.bool true)], args := [d] }
  | _ => none }
def radixLiteralsRow : OpenClaim := { program := "ytmbceiaeffnigaadoor", sum := "24989d25a616e604a061cf35ab7843f93744ee498b088080eb91f91cc48b55b0", func := "reckoner/reckonerlaw10.RadixLiterals", spec := "radixLiterals", inPlace := ["internal/bytealg.IndexByteString", "internal/bytealg.IndexString", "math/bits.Add64", "internal/abi.NoEscape", "internal/bytealg.MakeNoZero"], unfollowed := true, recurses := true, named := ["reckoner/radix.none", "math/bits.divideError", "math/bits.overflowError", "internal/bytealg.MaxLen"], apart := false, laid := [("reckoner/radix.none", laid_reckoner_radix_none)] }
def RadixLiteralsSaid : Prop := radixLiteralsRow.holds Tryd.pinned (OpenSpec.ofChange radixLiteralsSpec)

/-- ITS FALSE NEIGHBOUR: 'it returns false'. Refute it at one input. -/
def radixLiteralsWrong : ChangeSpec := { name := "radixLiterals", fn := fun _ => fun
  | [d] => { results := [.lit (.bool false)], args := [d] }
  | _ => none }
def RadixLiteralsWrongFalsely : Prop := radixLiteralsRow.holds Tryd.pinned (OpenSpec.ofChange radixLiteralsWrong)

/- THE SECOND FORM. 'bulk': how many values and letters a reading holds, each counted each time it is reached (what is shared counts as often as it is met; a slice's spare places count too). A statement '..UptoSaid' is the law's where the arguments, and the package variables that the reading takes, are together of bulk at most 1048576: NARROWER than '..Said'. Prove '..Said' where nothing that the law and all that it calls make is longer than what came in: it says more and counts as full. Else prove '..UptoSaid'. A law counts once. -/
mutual
def uptoBulk {H : Type} : DataW H → Nat
  | .lit (.string bytes) => bytes.length + 1
  | .lit _ => 1
  | .nil => 1
  | .ptr d => uptoBulk d + 1
  | .slice elems spare => uptoBulkAll elems + uptoBulkAll spare + 1
  | .agg parts => uptoBulkAll parts + 1
  | .iface _ d => uptoBulk d + 1
  | .map entries => uptoBulkEntries entries + 1
  | .held _ => 1
def uptoBulkAll {H : Type} : List (DataW H) → Nat
  | [] => 0
  | d :: r => uptoBulk d + uptoBulkAll r
def uptoBulkEntries {H : Type} : List (Lit × DataW H) → Nat
  | [] => 0
  | x :: r => uptoBulkEntry x + uptoBulkEntries r
def uptoBulkEntry {H : Type} : Lit × DataW H → Nat
  | (.string bytes, d) => bytes.length + uptoBulk d + 1
  | (_, d) => uptoBulk d + 1
 end
def uptoSmall : (H : Type) → List (DataW H) → Bool := fun _ ds => decide (uptoBulkAll ds ≤ 1048576)
def OpenSpec.upto (s : _root_.Go.ChangeSpec) : _root_.Go.OpenSpec := { _root_.Go.OpenSpec.ofChange s with cond := some uptoSmall }

/-- 'reckonerlaw10.RadixShapes', WHERE WHAT IT READS IS OF BULK AT MOST 1048576: true; the input reads as it did. -/
def radixShapesUptoRow : OpenClaim := { program := "ytmbceiaeffnigaadoor", sum := "24989d25a616e604a061cf35ab7843f93744ee498b088080eb91f91cc48b55b0", func := "reckoner/reckonerlaw10.RadixShapes", spec := "radixShapes", inPlace := ["internal/abi.NoEscape", "internal/bytealg.MakeNoZero", "internal/bytealg.IndexByteString", "internal/bytealg.IndexString", "math/bits.Add64"], unfollowed := true, recurses := true, named := ["math/bits.divideError", "math/bits.overflowError", "reckoner/radix.none", "internal/bytealg.MaxLen"], apart := false, laid := [("reckoner/radix.none", laid_reckoner_radix_none)], narrowed := true }
def RadixShapesUptoSaid : Prop := radixShapesUptoRow.holds Tryd.pinned (OpenSpec.upto radixShapesSpec)

/-- 'reckonerlaw10.RadixOrders', WHERE WHAT IT READS IS OF BULK AT MOST 1048576: true; the input reads as it did. -/
def radixOrdersUptoRow : OpenClaim := { program := "ytmbceiaeffnigaadoor", sum := "24989d25a616e604a061cf35ab7843f93744ee498b088080eb91f91cc48b55b0", func := "reckoner/reckonerlaw10.RadixOrders", spec := "radixOrders", inPlace := ["internal/abi.NoEscape", "internal/bytealg.MakeNoZero", "internal/bytealg.IndexByteString", "internal/bytealg.IndexString", "math/bits.Add64"], unfollowed := true, recurses := true, named := ["math/bits.divideError", "math/bits.overflowError", "reckoner/radix.none", "internal/bytealg.MaxLen"], apart := false, laid := [("reckoner/radix.none", laid_reckoner_radix_none)], narrowed := true }
def RadixOrdersUptoSaid : Prop := radixOrdersUptoRow.holds Tryd.pinned (OpenSpec.upto radixOrdersSpec)

/-- 'reckonerlaw10.RadixLiterals', WHERE WHAT IT READS IS OF BULK AT MOST 1048576: true; the input reads as it did. -/
def radixLiteralsUptoRow : OpenClaim := { program := "ytmbceiaeffnigaadoor", sum := "24989d25a616e604a061cf35ab7843f93744ee498b088080eb91f91cc48b55b0", func := "reckoner/reckonerlaw10.RadixLiterals", spec := "radixLiterals", inPlace := ["internal/bytealg.IndexByteString", "internal/bytealg.IndexString", "math/bits.Add64", "internal/abi.NoEscape", "internal/bytealg.MakeNoZero"], unfollowed := true, recurses := true, named := ["reckoner/radix.none", "math/bits.divideError", "math/bits.overflowError", "internal/bytealg.MaxLen"], apart := false, laid := [("reckoner/radix.none", laid_reckoner_radix_none)], narrowed := true }
def RadixLiteralsUptoSaid : Prop := radixLiteralsUptoRow.holds Tryd.pinned (OpenSpec.upto radixLiteralsSpec)

end Rows
end Go.Proofs.YtmbceiaeffnigaaDoor
