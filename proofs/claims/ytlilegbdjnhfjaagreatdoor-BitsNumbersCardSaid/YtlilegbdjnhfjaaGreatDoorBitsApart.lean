/-
  What bits.Key answers, for the seats without BitsApart.
-/
import Derived.Test.YtlilegbdjnhfjaaGreatDoorBits5
namespace Go.Proofs.YtlilegbdjnhfjaaGreatDoor
open Go.RowKit
set_option maxHeartbeats 400000

def keyS (xs : List Int) : ByteArray := if xs.all small = true then strOfNums (keyNums xs) else ⟨#[]⟩
def keyE (xs : List Int) : Int := if xs.all small = true then 0 else 2
theorem key_any (v : Value) (xs : List Int) (w : World) (h : Ints w v xs) :
    Calls Tryz.prog 17 #[v] w fun e w' => e = .returned (.tuple #[.string (keyS xs), .int .i64 (keyE xs)]) ∧ Below w.heap.size w w' := by
  obtain ⟨a, cap, rfl, h1, h2⟩ := h.parts
  by_cases hs : xs.all small = true
  · have e1 : keyS xs = strOfNums (keyNums xs) := by unfold keyS; rw [if_pos hs]
    have e2 : keyE xs = 0 := by unfold keyE; rw [if_pos hs]
    rw [e1, e2]
    exact key_ok a cap xs w h1 h2 (List.all_eq_true.1 hs)
  · have e1 : keyS xs = ⟨#[]⟩ := by unfold keyS; rw [if_neg hs]
    have e2 : keyE xs = 2 := by unfold keyE; rw [if_neg hs]
    rw [e1, e2]
    exact key_bad a cap xs w h1 h2 (fun h => hs (List.all_eq_true.2 h))

end Go.Proofs.YtlilegbdjnhfjaaGreatDoor
