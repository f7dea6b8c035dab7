/-
  Rows of truths.
-/
import Derived.Test.YtehaoiimhgkckaaGramK
namespace Go.Proofs.Ytehaoiimhgkckaa
open Go.RowKit
set_option maxHeartbeats 400000

/-- A block of truths. -/
def boolsObj (L : List Bool) : Obj := .cells (L.map Value.bool).toArray 4 (0, 0)
def allE (L : List Bool) (R : List Int) : Bool := R.all fun x => L.getD x.toNat false
theorem bools_cell {w : World} {b : Nat} {L : List Bool} (h : w.heap[b]? = some (boolsObj L)) (i : Nat) (hi : i < L.length) : w.cell? ⟨b, i, none⟩ = some (.bool L[i]) :=
  obj_cell h i (by simp [hi])
theorem own_obj {w : World} {B e g n : Nat} {xs : List Value} (h : w.ownsRow B e 1 (.slice (some ⟨g, 0, none⟩) n n) n xs) : w.heap[g]? = some (.cells xs.toArray e (0, 0)) := by
  obtain ⟨h1, h2⟩ := h
  rcases h2 with ⟨h2, _⟩ | ⟨g', cap, cur, h2, _, hg, _, _, hc, ht⟩
  · cases h2
  · simp only [Value.slice.injEq, Option.some.injEq, Addr.mk.injEq] at h2
    obtain ⟨⟨rfl, -⟩, -, rfl⟩ := h2
    rw [hg]
    have : cur.toList = xs := by rw [← ht, List.take_of_length_le (by simp; omega)]
    rw [← this]
theorem bools_set {w : World} {b : Nat} {L : List Bool} (h : w.heap[b]? = some (boolsObj L)) (i : Nat) (x : Bool) : (w.setCell ⟨b, i, none⟩ (.bool x)).heap[b]? = some (boolsObj (L.set i x)) := by
  have := setCell_obj (i := i) h (.bool x)
  rw [this]
  unfold boolsObj
  simp [List.map_set]
end Go.Proofs.Ytehaoiimhgkckaa
