/-
  Items, plain: what ItemsWhole goes by.
-/
import Derived.Test.YtgmkpncpcikecaaItT
namespace Go.Proofs.Ytgmkpncpcikecaa
set_option maxHeartbeats 400000

theorem come_det {c d d' : Nat} {es : List (Int × Int)} (h : Come c es d) (k : Come c es d') : d = d' := by
  induction h generalizing d' with
  | nil => cases k; rfl
  | @old c j d s r hlt h ih =>
    generalize he : (s, (j : Int)) :: r = es at k
    cases k with
    | nil => cases he
    | @old _ j' _ _ _ hlt' k' =>
      simp only [List.cons.injEq, Prod.mk.injEq] at he
      obtain ⟨_, rfl⟩ := he
      exact ih k'
    | @new _ _ _ _ k' =>
      simp only [List.cons.injEq, Prod.mk.injEq] at he
      omega
  | @new c d s r h ih =>
    generalize he : (s, (c : Int)) :: r = es at k
    cases k with
    | nil => cases he
    | @old _ j' _ _ _ hlt' k' =>
      simp only [List.cons.injEq, Prod.mk.injEq] at he
      omega
    | @new _ _ _ _ k' =>
      simp only [List.cons.injEq, Prod.mk.injEq] at he
      obtain ⟨_, rfl⟩ := he
      exact ih k'
theorem come_split {c d : Nat} : ∀ {a b : List (Int × Int)}, Come c (a ++ b) d → ∃ m, Come c a m ∧ Come m b d
  | [], b, h => ⟨c, .nil, h⟩
  | x :: a, b, h => by
    rw [List.cons_append] at h
    cases h with
    | old hlt h =>
      obtain ⟨m, h1, h2⟩ := come_split h
      exact ⟨m, .old hlt h1, h2⟩
    | new h =>
      obtain ⟨m, h1, h2⟩ := come_split h
      exact ⟨m, .new h1, h2⟩
theorem come_cons {c d : Nat} {x : Int × Int} {r : List (Int × Int)} (h : Come c (x :: r) d) : ∃ j : Nat, x.2 = (j : Int) ∧ (j < c ∧ Come c r d ∨ j = c ∧ Come (c + 1) r d) := by
  cases h with
  | old hlt h => exact ⟨_, rfl, .inl ⟨hlt, h⟩⟩
  | new h => exact ⟨_, rfl, .inr ⟨rfl, h⟩⟩
theorem edges_cons {G : Gram} {L : List It} {ks : List (List It)} {s : Int} {r : List Int} {es : List (Int × Int)} (h : EdgesIs G L ks (s :: r) es) :
    (onI G L s = [] ∧ EdgesIs G L ks r es) ∨ (onI G L s ≠ [] ∧ ∃ (j : Nat) (t : List (Int × Int)), es = (s, (j : Int)) :: t ∧ ks[j]? = some (onI G L s) ∧ EdgesIs G L ks r t) := by
  cases h with
  | skip h1 h2 => exact .inl ⟨h1, h2⟩
  | edge h1 h2 h3 => exact .inr ⟨h1, _, _, rfl, h2, h3⟩
theorem edges_end {G : Gram} {L : List It} {ks : List (List It)} {es : List (Int × Int)} (h : EdgesIs G L ks [] es) : es = [] := by
  cases h
  rfl
theorem symsI_len (G : Gram) : (symsI G).length = G.syms.length := by simp [symsI]
theorem symsI_drop {G : Gram} {k : Nat} (h : k < G.syms.length) : (symsI G).drop k = (k : Int) :: (symsI G).drop (k + 1) := by
  rw [List.drop_eq_getElem_cons (by rw [symsI_len]; exact h)]
  simp [symsI]
/-- How far a state's symbols have been gone through: a edges so far, c states come to, d at the end. -/
structure EdgAt (G : Gram) (L : List It) (ks : List (List It)) (es : List (Int × Int)) (d : Nat) (s a c : Nat) : Prop where
  le : a ≤ es.length
  edges : EdgesIs G L ks ((symsI G).drop s) (es.drop a)
  come : Come c (es.drop a) d
theorem EdgAt.step {G : Gram} {L : List It} {ks : List (List It)} {es : List (Int × Int)} {d s a c : Nat} (h : EdgAt G L ks es d s a c) (hs : s < G.syms.length) :
    (onI G L s = [] ∧ EdgAt G L ks es d (s + 1) a c) ∨ (onI G L s ≠ [] ∧ ∃ (j : Nat) (ha : a < es.length), es[a] = ((s : Int), (j : Int)) ∧ ks[j]? = some (onI G L s) ∧ (j < c ∧ EdgAt G L ks es d (s + 1) (a + 1) c ∨ j = c ∧ EdgAt G L ks es d (s + 1) (a + 1) (c + 1))) := by
  have hE := h.edges
  rw [symsI_drop hs] at hE
  rcases edges_cons hE with ⟨h1, h2⟩ | ⟨h1, j, t, h2, h3, h4⟩
  · exact .inl ⟨h1, h.le, h2, h.come⟩
  · have ha : a < es.length := by
      rcases Nat.lt_or_ge a es.length with h5 | h5
      · exact h5
      · rw [List.drop_eq_nil_of_le h5] at h2; cases h2
    rw [List.drop_eq_getElem_cons ha] at h2
    simp only [List.cons.injEq] at h2
    obtain ⟨h2, rfl⟩ := h2
    have hc := h.come
    rw [List.drop_eq_getElem_cons ha, h2] at hc
    obtain ⟨j', e, hor⟩ := come_cons hc
    simp only at e
    obtain rfl : j = j' := by omega
    refine .inr ⟨h1, j, ha, h2, h3, ?_⟩
    rcases hor with ⟨h5, h6⟩ | ⟨h5, h6⟩
    · exact .inl ⟨h5, ha, h4, h6⟩
    · exact .inr ⟨h5, ha, h4, h6⟩
theorem EdgAt.done {G : Gram} {L : List It} {ks : List (List It)} {es : List (Int × Int)} {d a c : Nat} (h : EdgAt G L ks es d G.syms.length a c) : a = es.length ∧ c = d := by
  have h1 := h.edges
  rw [List.drop_eq_nil_of_le (by rw [symsI_len]; exact Nat.le_refl _)] at h1
  have h2 := edges_end h1
  have h3 := h.come
  rw [h2] at h3
  have h4 : es.length ≤ a := by
    have := congrArg List.length h2
    simp only [List.length_drop, List.length_nil] at this
    omega
  cases h3
  exact ⟨Nat.le_antisymm h.le h4, rfl⟩
/-- How far the states have been gone through. -/
structure StsAt (gs : List (List (Int × Int))) (n i c : Nat) : Prop where
  le : i ≤ gs.length
  done : Come 1 (gs.take i).flatten c
  left : Come c (gs.drop i).flatten n
theorem StsAt.start {G : Gram} {ks : List (List It)} {gs : List (List (Int × Int))} (h : ColOk G ks.length ks gs) : StsAt gs ks.length 0 1 := ⟨Nat.zero_le _, .nil, h.come⟩
theorem StsAt.step {G : Gram} {ks : List (List It)} {gs : List (List (Int × Int))} (ho : ColOk G ks.length ks gs) {i c : Nat} (h : StsAt gs ks.length i c) (hi : i < gs.length) :
    i < c ∧ ∃ d, EdgAt G (cloL G (ks.getD i [])) ks gs[i] d 0 0 c ∧ StsAt gs ks.length (i + 1) d := by
  obtain ⟨c', h1, h2⟩ := ho.ahead i hi
  obtain rfl := come_det h.done h1
  refine ⟨h2, ?_⟩
  have hl := h.left
  rw [List.drop_eq_getElem_cons hi, List.flatten_cons] at hl
  obtain ⟨d, h3, h4⟩ := come_split hl
  obtain ⟨k, hk, hE⟩ := ho.edges i hi
  refine ⟨d, ⟨Nat.zero_le _, ?_, by simpa using h3⟩, ⟨hi, ?_, h4⟩⟩
  · rw [List.getD_eq_getElem?_getD, hk, Option.getD_some]
    simpa using hE
  · rw [List.take_add_one, List.getElem?_eq_getElem hi, List.flatten_append]
    exact come_app h.done (by simpa using h3)
end Go.Proofs.Ytgmkpncpcikecaa
