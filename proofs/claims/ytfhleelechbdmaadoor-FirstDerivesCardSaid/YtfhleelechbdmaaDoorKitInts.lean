/-
  The statements' own helpers on lists of numbers: SameInts, Pick, mark, LentInts, KeptInts.
-/
import Derived.Test.YtfhleelechbdmaaDoorBase
import Derived.Deep.DeepAppendRoom
import Derived.Maps.AppendAt
import Derived.WalkSmall
namespace Go.Proofs.YtfhleelechbdmaaDoor
open Go.RowKit
set_option maxHeartbeats 400000

def sameI (xs ys : List Int) : Bool := decide (xs = ys)
/-- A place's mark. -/
def markOf (i : Int) : Int := 8000024 + i
def marks (k : Nat) : List Int := (List.range k).map fun j : Nat => markOf j
theorem marks_succ (k : Nat) : marks (k + 1) = marks k ++ [markOf k] := by simp [marks, List.range_succ]
theorem marks_length (k : Nat) : (marks k).length = k := by simp [marks]

theorem Tryd.infoInt' : (Tryd.prog.info? 3).map (fun i => (i.zero, i.size, i.bytes)) = some (some (.int .i64 0), 1, 8) := by kernel_rfl

/-- What LentInts answers: its list, the marks behind its end. -/
def Lent (w : World) (B : Nat) (v : Value) (xs : List Int) : Prop :=
  ∃ g cap, v = .slice (some ⟨g, 0, none⟩) xs.length cap ∧ B ≤ g ∧ xs.length + 12 ≤ cap ∧ cap ≤ maxLen ∧ Cells w g 0 ((xs ++ marks 12).map (Value.int .i64))

end Go.Proofs.YtfhleelechbdmaaDoor
