/- Equality of the program's two structs. -/
import Derived.Test.YtmbceiaeffnigaaDoorD3
import Derived.Laws.StructEq
namespace Go.Proofs.YtmbceiaeffnigaaDoor
open Go.RowKit

theorem chunk_eql (w : World) (p j p' j' : Int) :
    (binOp .eql 98 (.agg #[.int .u64 p, .int .i64 j]) (.agg #[.int .u64 p', .int .i64 j'])).run Tryd.prog w = .ok (.bool (p == p' && j == j')) w := by
  have hu : Tryd.prog.underlying 98 = some (.struct (Tryd.prog.fieldsOf 98)) := by kernel_rfl
  have hp : Tryd.prog.stoodInHeld 98 = false := by kernel_rfl
  rw [run_eql_struct, run_equalIn_agg w _ _ _ _ hu hp]
  by_cases h1 : p = p' <;> by_cases h2 : j = j' <;> simp [go_sem, h1, h2]
theorem chunk_guard (w : World) (x y : Operand) (xs ys : Array Value) : (eqGuard .eql 98 x y (.agg xs) (.agg ys)).run Tryd.prog w = .ok () w :=
  run_eqGuard_agg w _ _ _ _ _ _ (by kernel_rfl)
theorem bytes_beq (a b : ByteArray) : (a.toList == b.toList) = decide (a = b) := by
  by_cases h : a = b
  · subst h; simp
  · have : ¬ a.toList = b.toList := fun e => h (by
      have h1 := beq_toListBytes a b
      rw [e] at h1
      have h2 : (a.data == b.data) = true := by rw [show (a.data == b.data) = (a == b) from rfl, h1]; simp
      exact ByteArray.ext (by simpa using h2))
    simp [this, h]
theorem parts_eql (w : World) (p p' : Int) (s s' : ByteArray) :
    (binOp .eql 61 (.agg #[.int .i64 p, .string s]) (.agg #[.int .i64 p', .string s'])).run Tryd.prog w = .ok (.bool (p == p' && decide (s = s'))) w := by
  have hu : Tryd.prog.underlying 61 = some (.struct (Tryd.prog.fieldsOf 61)) := by kernel_rfl
  have hp : Tryd.prog.stoodInHeld 61 = false := by kernel_rfl
  rw [run_eql_struct, run_equalIn_agg w _ _ _ _ hu hp]
  by_cases h1 : p = p' <;> by_cases h2 : s = s' <;> simp [go_sem, h1, h2, bytes_beq]
theorem parts_neq (w : World) (p p' : Int) (s s' : ByteArray) :
    (binOp .neq 61 (.agg #[.int .i64 p, .string s]) (.agg #[.int .i64 p', .string s'])).run Tryd.prog w = .ok (.bool (!(p == p' && decide (s = s')))) w := by
  have hu : Tryd.prog.underlying 61 = some (.struct (Tryd.prog.fieldsOf 61)) := by kernel_rfl
  have hp : Tryd.prog.stoodInHeld 61 = false := by kernel_rfl
  rw [run_neq_struct, run_equalIn_agg w _ _ _ _ hu hp]
  by_cases h1 : p = p' <;> by_cases h2 : s = s' <;> simp [go_sem, h1, h2, bytes_beq]
theorem parts_guard (w : World) (op : BinOp) (x y : Operand) (xs ys : Array Value) : (eqGuard op 61 x y (.agg xs) (.agg ys)).run Tryd.prog w = .ok () w :=
  run_eqGuard_agg w _ _ _ _ _ _ (by kernel_rfl)
end Go.Proofs.YtmbceiaeffnigaaDoor
