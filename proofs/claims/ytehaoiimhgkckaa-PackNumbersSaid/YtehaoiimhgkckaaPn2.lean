/-
  PackNumbers: the invariant of its packed rows' laying.
-/
import Derived.Test.YtehaoiimhgkckaaPn1
namespace Go.Proofs.Ytehaoiimhgkckaa
open Go.RowKit
set_option maxHeartbeats 400000

theorem waits_all {ops : Array Oper} {j m : Nat} (h : ((List.range m).all fun k => waitsB .any ops 1 j k) = true) (k : Nat) (hk : k < m) : waitsB .any ops 1 j k = true := List.all_eq_true.1 h k (List.mem_range.2 hk)
/-- The facts on what the operations yield, as long as nothing is stored. -/
def RN (nb i : Nat) (x : Int) (k : Nat) (v : Value) (w : World) : Prop := match k with
  | 0 | 5 | 17 | 23 => v = .slice (some ⟨nb, 0, none⟩) 11 11
  | 1 | 6 | 18 | 24 => v = .int .i64 i
  | 2 | 7 | 19 | 25 => v = .pointer (some ⟨nb, i, none⟩)
  | 3 | 8 | 20 | 26 => v = .int .i64 x
  | 4 => SI w v 3 [x, 2, -1]
  | 9 => SI w v 3 [0, x, 1]
  | 10 => SI w v 5 [0, 1, 0, 2, 1]
  | 11 => v = acV ⟨1, 5⟩
  | 12 => v = acV ⟨2, 6⟩
  | 13 => v = acV ⟨3, 0⟩
  | 14 => v = acV ⟨1, 7⟩
  | 15 => v = acV ⟨1, 8⟩
  | 16 => SA w v
  | 21 => SI w v 3 [1, x, 0]
  | 22 => SI w v 5 [2, 0, 1, 2, 0]
  | 27 => SI w v 5 [5, 6, 7, x, 9]
  | _ => True
theorem RN.fr {nb i : Nat} {x : Int} {k : Nat} {v : Value} {w w' : World} (h : RN nb i x k v w) (f : Fr nothing w w') : RN nb i x k v w' := by
  unfold RN at h ⊢
  split at h
  all_goals first
    | exact h
    | exact SI.fr h f fun _ e => e.elim
    | exact SA.fr h f fun _ e => e.elim
/-- What is built of the seven. -/
def R28 (x : Int) (v : Value) (w : World) : Prop := ∃ dv bv cv nv gb gc gn, v = .agg #[dv, bv, cv, nv, gb, gc, gn] ∧ S7 w x dv bv cv nv gb gc gn
structure InvN (nb i : Nat) (x : Int) (w1 : World) (σ : Nat → Option Value) (w : World) : Prop where
  late : σ 30 = none ∨ ∀ k, k < 30 → σ k ≠ none
  all : σ 30 = none → ∀ k v, σ k = some v → RN nb i x k v w
  p28 : ∀ v, σ 28 = some v → R28 x v w
  p29 : ∀ v, σ 29 = some v → ∃ b, v = .pointer (some ⟨b, 0, none⟩) ∧ w1.heap.size ≤ b ∧ ((σ 30 = none ∧ w.heap[b]? = some (outO nilS nilS nilS nilS nilS nilS nilS)) ∨ (σ 30 ≠ none ∧ ∃ dv bv cv nv gb gc gn, σ 28 = some (.agg #[dv, bv, cv, nv, gb, gc, gn]) ∧ w.heap[b]? = some (outO dv bv cv nv gb gc gn)))
  old : Fr nothing w1 w
theorem InvN.step {nb i : Nat} {x : Int} {w1 : World} {σ : Nat → Option Value} {w w' : World} (h : InvN nb i x w1 σ w) (f : Fr nothing w w') (j : Nat) (v : Value) (hn : σ j = none) (h29 : j ≠ 29) (h30 : j ≠ 30) (hR : σ 30 = none → RN nb i x j v w') (h28 : j = 28 → R28 x v w') : InvN nb i x w1 (updS σ j v) w' := by
  have e30 : updS σ j v 30 = σ 30 := updS_other (fun e => h30 e.symm)
  have e29 : updS σ j v 29 = σ 29 := updS_other (fun e => h29 e.symm)
  have hl : updS σ j v 30 = none ∨ ∀ k, k < 30 → updS σ j v k ≠ none := by
    rw [e30]
    refine h.late.imp id fun hk k hkk => ?_
    by_cases e : k = j
    · subst e
      exact absurd hn (hk k hkk)
    · rw [updS_other e]
      exact hk k hkk
  refine ⟨hl, fun h0 k u hk => ?_, fun u hu => ?_, fun u hu => ?_, h.old.trans f⟩
  · rw [e30] at h0
    by_cases e : k = j
    · subst e
      rw [updS_same] at hk
      obtain rfl := Option.some.inj hk
      exact hR h0
    · rw [updS_other e] at hk
      exact (h.all h0 k u hk).fr f
  · by_cases e : 28 = j
    · subst e
      rw [updS_same] at hu
      obtain rfl := Option.some.inj hu
      exact h28 rfl
    · rw [updS_other e] at hu
      obtain ⟨dv, bv, cv, nv, gb, gc, gn, h1, h2⟩ := h.p28 u hu
      exact ⟨dv, bv, cv, nv, gb, gc, gn, h1, h2.fr f fun _ e => e.elim⟩
  · rw [e29] at hu
    obtain ⟨b, h1, h2, h3⟩ := h.p29 u hu
    refine ⟨b, h1, h2, ?_⟩
    rw [e30]
    rcases h3 with ⟨h3, h4⟩ | ⟨h3, dv, bv, cv, nv, gb, gc, gn, h4, h5⟩
    · exact .inl ⟨h3, f.obj h4 fun e => e⟩
    · refine .inr ⟨h3, dv, bv, cv, nv, gb, gc, gn, ?_, f.obj h5 fun e => e⟩
      have : (28 : Nat) ≠ j := fun e => by subst e; rw [hn] at h4; cases h4
      rw [updS_other this]
      exact h4
end Go.Proofs.Ytehaoiimhgkckaa
