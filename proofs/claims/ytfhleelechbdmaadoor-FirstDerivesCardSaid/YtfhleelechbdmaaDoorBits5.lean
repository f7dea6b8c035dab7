/-
  The chapter's examples hold: awake answers true.
-/
import Derived.Test.YtfhleelechbdmaaDoorBits4
namespace Go.Proofs.YtfhleelechbdmaaDoor
open Go.RowKit
set_option maxHeartbeats 400000

theorem ints_alloc (w : World) (xs : List Int) (t : TypeId) (h : ∀ x ∈ xs, -9223372036854775808 ≤ x ∧ x ≤ 9223372036854775807) (hl : xs.length ≤ 100) :
    Ints (w.alloc (.cells (xs.map (Value.int .i64)).toArray t)) (.slice (some ⟨w.heap.size, 0, none⟩) xs.length xs.length) xs :=
  ⟨h, by omega, _, _, rfl, Nat.le_refl _, by unfold maxLen; omega, .inr ⟨_, _, rfl, fun i hi => by
    rw [World.cell?_alloc_at _ _ _ _ rfl]
    simp at hi
    simp [hi]⟩⟩
theorem Ints.parts {w : World} {v : Value} {xs : List Int} (h : Ints w v xs) : ∃ a cap, v = .slice a xs.length cap ∧ xs.length ≤ 17592186044416 ∧ (xs = [] ∨ ∃ b o, a = some ⟨b, o, none⟩ ∧ Cells w b o (xs.map (Value.int .i64))) := by
  obtain ⟨_, h1, a, cap, rfl, _, _, h2⟩ := h
  exact ⟨a, cap, rfl, h1, h2⟩
theorem ints_of_own {w : World} {B : Nat} {e : TypeId} {v : Value} {xs : List Int} (h : w.ownsRow B e 1 v xs.length (xs.map (Value.int .i64))) (h0 : ∀ x ∈ xs, -9223372036854775808 ≤ x ∧ x ≤ 9223372036854775807) (hl : xs.length ≤ 17592186044416) : Ints w v xs := by
  obtain ⟨a, cap, rfl, h1, h2, h3⟩ := own_as_cells h
  refine ⟨h0, hl, a, cap, rfl, h1, h2, ?_⟩
  rcases h3 with h3 | ⟨g, rfl, _, hc⟩
  · exact .inl (by simpa using h3)
  · exact .inr ⟨g, 0, rfl, hc⟩

theorem elems_8 : elems [8] = [3] := by decide +kernel

end Go.Proofs.YtfhleelechbdmaaDoor
