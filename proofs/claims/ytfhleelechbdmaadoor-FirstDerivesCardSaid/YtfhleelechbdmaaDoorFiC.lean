/-
  Package first: First.
-/
import Derived.Test.YtfhleelechbdmaaDoorFiB
namespace Go.Proofs.YtfhleelechbdmaaDoor
open Go.RowKit
set_option maxHeartbeats 400000

theorem Tryd.infoIntsF : (Tryd.prog.info? 26).map (fun i => (i.zero, i.size, i.bytes)) = some (some (.slice none 0 0), 1, 24) := by kernel_rfl
/-- A list of numbers of its own, in new memory. -/
def RowI (w : World) (B : Nat) (v : Value) (xs : List Nat) : Prop := w.ownsRow B 3 1 v xs.length (xs.map fun x : Nat => Value.int .i64 (x : Int))
theorem own_keep {w w' : World} {ch : Nat → Prop} {B e size n : Nat} {v : Value} {xs : List Value} (h : w.ownsRow B e size v n xs) (k : Fr ch w w') (hc : ∀ g, v.ownBlock = some g → ¬ ch g) : w'.ownsRow B e size v n xs := by
  obtain ⟨h1, h2⟩ := h
  refine ⟨h1, ?_⟩
  rcases h2 with h2 | ⟨g, cap, cur, rfl, hb, hg, rest⟩
  · exact .inl h2
  · exact .inr ⟨g, cap, cur, rfl, hb, k.obj hg (hc g rfl), rest⟩
theorem own_down {w : World} {B B' e size n : Nat} {v : Value} {xs : List Value} (h : w.ownsRow B e size v n xs) (hb : B' ≤ B) : w.ownsRow B' e size v n xs := by
  obtain ⟨h1, h2⟩ := h
  refine ⟨h1, ?_⟩
  rcases h2 with h2 | ⟨g, cap, cur, hv, hg, rest⟩
  · exact .inl h2
  · exact .inr ⟨g, cap, cur, hv, Nat.le_trans hb hg, rest⟩
theorem own_above {w : World} {B e size n : Nat} {v : Value} {xs : List Value} (h : w.ownsRow B e size v n xs) (g : Nat) (hg : v.ownBlock = some g) : B ≤ g := by
  obtain ⟨_, h2⟩ := h
  rcases h2 with ⟨h2, _⟩ | ⟨g', cap, cur, rfl, hb, _⟩
  · rw [h2] at hg; cases hg
  · cases hg; exact hb
/-- The lists that First has told so far. -/
structure OutM (w : World) (B : Nat) (r : Value) (vs : List Value) (S : List (List Bool)) : Prop where
  own : w.ownsRow B 26 1 r vs.length vs
  rows : ∀ i u, vs[i]? = some u → RowI w B u (trues (rowAt S i))
theorem OutM.keep {w w' : World} {B : Nat} {r : Value} {vs : List Value} {S : List (List Bool)} (h : OutM w B r vs S) (k : Fr nothing w w') : OutM w' B r vs S :=
  ⟨own_keep h.own k fun _ _ e => e, fun i u hu => own_keep (h.rows i u hu) k fun _ _ e => e⟩
theorem OutM.next {w1 w2 : World} {B : Nat} {r r' u : Value} {vs : List Value} {S : List (List Bool)} (h : OutM w1 B r vs S) (hu : RowI w1 B u (trues (rowAt S vs.length))) (ho : w2.ownsRow B 26 1 r' (vs.length + 1) (vs ++ [u])) (hg : w1.grownBy w2 r.ownBlock) : OutM w2 B r' (vs ++ [u]) S := by
  have hF : Fr (fun g => r.ownBlock = some g) w1 w2 := Fr.grown hg
  have hk : ∀ x xs, RowI w1 B x xs → RowI w2 B x xs := fun x xs hx => own_keep hx hF fun g h1 h2 => own_apart hx h.own (by decide) g h1 h2
  refine ⟨by rw [List.length_append]; exact ho, fun i x hx => ?_⟩
  by_cases e : i < vs.length
  · rw [List.getElem?_append_left e] at hx
    exact hk _ _ (h.rows i x hx)
  · have hi := (List.getElem?_eq_some_iff.1 hx).1
    simp only [List.length_append, List.length_cons, List.length_nil] at hi
    obtain rfl : i = vs.length := by omega
    rw [List.getElem?_append_right (Nat.le_refl _), Nat.sub_self] at hx
    simp only [List.getElem?_cons_zero, Option.some.injEq] at hx
    subst hx
    exact hk _ _ hu
end Go.Proofs.YtfhleelechbdmaaDoor
