/- Equality of the program's two structs. -/
import Derived.Test.YtlmbklpidmkdcaaGreatDoorD3
import Derived.Laws.StructEq
namespace Go.Proofs.YtlmbklpidmkdcaaGreatDoor
open Go.RowKit

theorem chunk_eql (w : World) (p j p' j' : Int) :
    (binOp .eql 55 (.agg #[.int .u64 p, .int .i64 j]) (.agg #[.int .u64 p', .int .i64 j'])).run Tryz.prog w = .ok (.bool (p == p' && j == j')) w := by
  have hu : Tryz.prog.underlying 55 = some (.struct (Tryz.prog.fieldsOf 55)) := by kernel_rfl
  have hp : Tryz.prog.stoodInHeld 55 = false := by kernel_rfl
  rw [run_eql_struct, run_equalIn_agg w _ _ _ _ hu hp]
  by_cases h1 : p = p' <;> by_cases h2 : j = j' <;> simp [go_sem, h1, h2]
theorem chunk_guard (w : World) (x y : Operand) (xs ys : Array Value) : (eqGuard .eql 55 x y (.agg xs) (.agg ys)).run Tryz.prog w = .ok () w :=
  run_eqGuard_agg w _ _ _ _ _ _ (by kernel_rfl)
theorem bytes_beq (a b : ByteArray) : (a.toList == b.toList) = decide (a = b) := by
  by_cases h : a = b
  · subst h; simp
  · have : ¬ a.toList = b.toList := fun e => h (by
      have h1 := beq_toListBytes a b
      rw [e] at h1
      have h2 : (a.data == b.data) = true := by rw [show (a.data == b.data) = (a == b) from rfl, h1]; simp
      exact ByteArray.ext (by simpa using h2))
    simp [this, h]
theorem parts_eql (w : World) (p p' : Int) (s s' : ByteArray) :
    (binOp .eql 123 (.agg #[.int .i64 p, .string s]) (.agg #[.int .i64 p', .string s'])).run Tryz.prog w = .ok (.bool (p == p' && decide (s = s'))) w := by
  have hu : Tryz.prog.underlying 123 = some (.struct (Tryz.prog.fieldsOf 123)) := by kernel_rfl
  have hp : Tryz.prog.stoodInHeld 123 = false := by kernel_rfl
  rw [run_eql_struct, run_equalIn_agg w _ _ _ _ hu hp]
  by_cases h1 : p = p' <;> by_cases h2 : s = s' <;> simp [go_sem, h1, h2, bytes_beq]
theorem parts_neq (w : World) (p p' : Int) (s s' : ByteArray) :
    (binOp .neq 123 (.agg #[.int .i64 p, .string s]) (.agg #[.int .i64 p', .string s'])).run Tryz.prog w = .ok (.bool (!(p == p' && decide (s = s')))) w := by
  have hu : Tryz.prog.underlying 123 = some (.struct (Tryz.prog.fieldsOf 123)) := by kernel_rfl
  have hp : Tryz.prog.stoodInHeld 123 = false := by kernel_rfl
  rw [run_neq_struct, run_equalIn_agg w _ _ _ _ hu hp]
  by_cases h1 : p = p' <;> by_cases h2 : s = s' <;> simp [go_sem, h1, h2, bytes_beq]
theorem parts_guard (w : World) (op : BinOp) (x y : Operand) (xs ys : Array Value) : (eqGuard op 123 x y (.agg xs) (.agg ys)).run Tryz.prog w = .ok () w :=
  run_eqGuard_agg w _ _ _ _ _ _ (by kernel_rfl)
end Go.Proofs.YtlmbklpidmkdcaaGreatDoor
