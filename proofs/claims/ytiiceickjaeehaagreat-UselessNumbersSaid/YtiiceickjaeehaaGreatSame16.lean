/-
  The statement's own helper same, of rows of truths that are one.
-/
import Derived.Test.YtiiceickjaeehaaGreatRef16c
namespace Go.Proofs.YtiiceickjaeehaaGreat
open Go.RowKit
set_option maxHeartbeats 400000

/-- A row of truths. -/
def IsBools (w : World) (v : Value) (L : List Bool) : Prop := ∃ a, v = .slice a L.length L.length ∧ (L = [] ∨ ∃ b, a = some ⟨b, 0, none⟩ ∧ w.heap[b]? = some (boolsObj L))
theorem IsBools.fr {w w' : World} {v : Value} {L : List Bool} (h : IsBools w v L) (k : Fr nothing w w') : IsBools w' v L := by
  obtain ⟨a, h1, h2⟩ := h
  refine ⟨a, h1, ?_⟩
  rcases h2 with h2 | ⟨b, h2, h3⟩
  · exact .inl h2
  · exact .inr ⟨b, h2, k.obj h3 fun e => e⟩
def ansL (c : Bool) (L : List Bool) : List Bool := if c then L else []
theorem AnsB.bools {w w' : World} {v : Value} {c : Bool} {L : List Bool} (h : AnsB w w' v c L) : IsBools w' v (ansL c L) ∧ Below w.heap.size w w' := by
  rcases h with ⟨rfl, b, rfl, _, h1, h2⟩ | ⟨rfl, rfl, h2⟩
  · exact ⟨⟨_, rfl, .inr ⟨b, rfl, h1⟩⟩, h2⟩
  · exact ⟨⟨none, rfl, .inl rfl⟩, h2⟩
theorem same16_any (u v : Value) (L : List Bool) (hl : L.length ≤ 1000000) (w : World) (hu : IsBools w u L) (hv : IsBools w v L) :
    Calls Tryz.prog 11 #[u, v] w fun e w' => e = .returned (.bool true) ∧ Below w.heap.size w w' := by
  obtain ⟨a, rfl, ha⟩ := hu
  obtain ⟨b, rfl, hb⟩ := hv
  have HA := Lib.hid (And.intro ha hb)
  clear ha hb
  go_enter Tryz.func11, Tryz.ntmps11
  go_wp2
  go_loopw [5] (fun i wr => ∃ k n : Nat, k ≤ L.length ∧ i = .int .i64 k ∧ wr = w.drewN n) (fun i _ => L.length - (intOf i).toNat)
  case atStart => exact ⟨0, 0, Nat.zero_le _, rfl, rfl⟩
  case round =>
    obtain ⟨k, n, hk, rfl, rfl⟩ := hrel
    by_cases hlt : k < L.length
    · obtain ⟨a1, rfl, ha⟩ : ∃ a1, a = some ⟨a1, 0, none⟩ ∧ w.heap[a1]? = some (boolsObj L) := by
        rcases HA.out.1 with h | h
        · rw [h] at hlt; simp at hlt
        · exact h
      obtain ⟨b1, rfl, hb⟩ : ∃ b1, b = some ⟨b1, 0, none⟩ ∧ w.heap[b1]? = some (boolsObj L) := by
        rcases HA.out.2 with h | h
        · rw [h] at hlt; simp at hlt
        · exact h
      have h1 := bools_cell ha k hlt
      have h2 := bools_cell hb k hlt
      generalize L[k] = c at h1 h2
      clear ha hb
      cases c
      all_goals
        go_wp2_with fail
        go_quiet (fail)
        go_wp2
        go_roundw
        case rel => exact ⟨k + 1, _, by omega, by simp, rfl⟩
        case measure => simp [intOf]; omega
    · obtain rfl : k = L.length := by omega
      clear hlt
      go_wp2
      go_ret
      exact ⟨rfl, below_drewN (Below.refl _ _) _⟩
end Go.Proofs.YtiiceickjaeehaaGreat
