/-
  Package bits: Key: the bytes of a row of numbers; what a number that may not be ends in.
-/
import Derived.Test.YtfhleelechbdmaaDoorBase
import Derived.Defers
import Derived.Deep.DeepMust
import Derived.Recover
import Derived.WalkSmall
import Derived.RangeFuncBox
namespace Go.Proofs.YtfhleelechbdmaaDoor
open Go.RowKit
set_option maxHeartbeats 400000

/-- The closure that recovers, behind a panic with a number of the errors' type. -/
theorem assert_errno (n : Int) (w : World) : (Instr.typeAssert (.iface 62 (.int .i64 n)) 20 62 true).run Tryd.prog w = .ok (.tuple #[.int .i64 n, .bool true]) w := by kernel_rfl
def keyNums (xs : List Int) : List Int := xs.flatMap fun x => [x / 256, x % 256]
theorem keyNums_snoc (xs : List Int) (x : Int) : keyNums (xs ++ [x]) = keyNums xs ++ [x / 256, x % 256] := by simp [keyNums]
theorem keyNums_length (xs : List Int) : (keyNums xs).length = 2 * xs.length := by
  induction xs with
  | nil => rfl
  | cons x xs ih => rw [keyNums, List.flatMap_cons, List.length_append]; show 2 + (keyNums xs).length = _; rw [ih, List.length_cons]; omega
def small (x : Int) : Bool := decide (0 ≤ x) && decide (x < 65536)
theorem small_iff (x : Int) : small x = true ↔ 0 ≤ x ∧ x < 65536 := by simp [small]

theorem Tryd.infoByte : (Tryd.prog.info? 5).map (fun i => (i.zero, i.size, i.bytes)) = some (some (.int .u8 0), 1, 1) := by kernel_rfl

end Go.Proofs.YtfhleelechbdmaaDoor
