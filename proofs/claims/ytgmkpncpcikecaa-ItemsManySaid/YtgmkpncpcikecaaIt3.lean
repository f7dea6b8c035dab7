/-
  Items, plain: what holds of the states.
-/
import Derived.Test.YtgmkpncpcikecaaIt2
namespace Go.Proofs.Ytgmkpncpcikecaa
set_option maxHeartbeats 400000

/-- The edges of a closure, symbol by symbol: where something is gone on to, the state whose kernel it is. -/
inductive EdgesIs (G : Gram) (L : List It) (ks : List (List It)) : List Int → List (Int × Int) → Prop
  | nil : EdgesIs G L ks [] []
  | skip {s : Int} {r : List Int} {es : List (Int × Int)} : onI G L s = [] → EdgesIs G L ks r es → EdgesIs G L ks (s :: r) es
  | edge {s : Int} {j : Nat} {r : List Int} {es : List (Int × Int)} : onI G L s ≠ [] → ks[j]? = some (onI G L s) → EdgesIs G L ks r es → EdgesIs G L ks (s :: r) ((s, (j : Int)) :: es)
/-- Edges lead to states that are there, or to the next new one. -/
inductive Come : Nat → List (Int × Int) → Nat → Prop
  | nil {c : Nat} : Come c [] c
  | old {c j d : Nat} {s : Int} {r : List (Int × Int)} : j < c → Come c r d → Come c ((s, (j : Int)) :: r) d
  | new {c d : Nat} {s : Int} {r : List (Int × Int)} : Come (c + 1) r d → Come c ((s, (c : Int)) :: r) d
theorem come_le {c d : Nat} {es : List (Int × Int)} (h : Come c es d) : c ≤ d := by
  induction h with
  | nil => exact Nat.le_refl _
  | old _ _ ih => exact ih
  | new _ ih => omega
theorem edges_more {G : Gram} {L : List It} {ks t : List (List It)} {syms : List Int} {es : List (Int × Int)} (h : EdgesIs G L ks syms es) : EdgesIs G L (ks ++ t) syms es := by
  induction h with
  | nil => exact .nil
  | skip h _ ih => exact .skip h ih
  | edge h hj _ ih =>
    refine .edge h ?_ ih
    rw [List.getElem?_append_left (List.getElem?_eq_some_iff.1 hj).1]
    exact hj
theorem putK_spec {ks ks' : List (List It)} {k : List It} {j : Nat} (h : putK ks k = some (j, ks')) (hl : ks.length ≤ 256) : ks'[j]? = some k ∧ ks'.length ≤ 256 ∧ ((j < ks.length ∧ ks' = ks) ∨ (j = ks.length ∧ ks' = ks ++ [k] ∧ k ∉ ks)) := by
  unfold putK at h
  cases hf : ks.findIdx? fun x => decide (x = k) with
  | some i =>
    rw [hf] at h
    simp only [Option.some.injEq, Prod.mk.injEq] at h
    obtain ⟨rfl, rfl⟩ := h
    obtain ⟨hi, h1, _⟩ := List.findIdx?_eq_some_iff_getElem.1 hf
    have h1 := of_decide_eq_true h1
    exact ⟨by rw [List.getElem?_eq_getElem hi, h1], hl, .inl ⟨hi, rfl⟩⟩
  | none =>
    rw [hf] at h
    simp only at h
    split at h
    · cases h
    · rename_i hne
      simp only [Option.some.injEq, Prod.mk.injEq] at h
      obtain ⟨rfl, rfl⟩ := h
      refine ⟨by simp, by simp; omega, .inr ⟨rfl, rfl, fun hk => ?_⟩⟩
      have := List.findIdx?_eq_none_iff.1 hf k hk
      simp at this
structure EdgesOut (G : Gram) (L : List It) (syms : List Int) (ks : List (List It)) (es ks' es' : _) : Prop where
  out : ∃ r, es' = es ++ r ∧ EdgesIs G L ks' syms r ∧ Come ks.length r ks'.length
  more : ∃ t, ks' = ks ++ t
  nodup : ks.Nodup → ks'.Nodup
  le : ks'.length ≤ 256
  new : ∀ k ∈ ks', k ∈ ks ∨ ∃ s, k = onI G L s ∧ k ≠ []
theorem edgesGo_spec {G : Gram} {L : List It} : ∀ (syms : List Int) (ks : List (List It)) (es : List (Int × Int)) {ks' : List (List It)} {es' : List (Int × Int)}, ks.length ≤ 256 → edgesGo G L syms ks es = some (ks', es') → EdgesOut G L syms ks es ks' es'
  | [], ks, es, ks', es', hl, h => by
    unfold edgesGo at h
    simp only [Option.some.injEq, Prod.mk.injEq] at h
    obtain ⟨rfl, rfl⟩ := h
    exact ⟨⟨[], by simp, .nil, .nil⟩, ⟨[], by simp⟩, id, hl, fun k hk => .inl hk⟩
  | s :: r, ks, es, ks', es', hl, h => by
    unfold edgesGo at h
    split at h
    · rename_i hs
      obtain ⟨⟨q, h1, h2, h3⟩, h4, h5, h6, h7⟩ := edgesGo_spec r ks es hl h
      exact ⟨⟨q, h1, .skip hs h2, h3⟩, h4, h5, h6, h7⟩
    · rename_i hs
      cases hp : putK ks (onI G L s) with
      | none => rw [hp] at h; cases h
      | some q =>
        obtain ⟨j, ks1⟩ := q
        rw [hp] at h
        simp only at h
        obtain ⟨hj, hl1, hc⟩ := putK_spec hp hl
        obtain ⟨⟨q, h1, h2, h3⟩, ⟨t, h4⟩, h5, h6, h7⟩ := edgesGo_spec r ks1 _ hl1 h
        have hj' : ks'[j]? = some (onI G L s) := by
          rw [h4, List.getElem?_append_left (List.getElem?_eq_some_iff.1 hj).1]
          exact hj
        rcases hc with ⟨hlt, rfl⟩ | ⟨rfl, rfl, hnew⟩
        · exact ⟨⟨(s, (j : Int)) :: q, by rw [h1]; simp, .edge hs hj' h2, .old hlt h3⟩, ⟨t, h4⟩, h5, h6, h7⟩
        · refine ⟨⟨(s, (ks.length : Int)) :: q, by rw [h1]; simp, .edge hs hj' h2, .new ?_⟩, ⟨onI G L s :: t, by rw [h4]; simp⟩, fun hn => h5 ?_, h6, fun k hk => ?_⟩
          · simpa using h3
          · refine List.nodup_append.2 ⟨hn, by simp, fun a ha b hb e => ?_⟩
            rw [List.mem_singleton] at hb
            subst hb e
            exact hnew ha
          · rcases h7 k hk with h7 | h7
            · rcases List.mem_append.1 h7 with h7 | h7
              · exact .inl h7
              · rw [List.mem_singleton] at h7
                exact .inr ⟨s, h7, by rw [h7]; exact hs⟩
            · exact .inr h7
/-- What holds of the states that have been gone through so far. -/
structure ColOk (G : Gram) (i : Nat) (ks : List (List It)) (gs : List (List (Int × Int))) : Prop where
  len : gs.length = i
  first : ks[0]? = some [(0, 0)]
  nodup : ks.Nodup
  le : ks.length ≤ 256
  edges : ∀ j (hj : j < gs.length), ∃ k, ks[j]? = some k ∧ EdgesIs G (cloL G k) ks (symsI G) gs[j]
  come : Come 1 gs.flatten ks.length
  ahead : ∀ j, j < gs.length → ∃ c, Come 1 (gs.take j).flatten c ∧ j < c
  ne : ∀ k ∈ ks, k ≠ []
  kin : ∀ k ∈ ks, k = [(0, 0)] ∨ ∃ K, ∃ s, k = onI G (cloL G K) s ∧ K ∈ ks
theorem come_app {c d e : Nat} {a b : List (Int × Int)} (h : Come c a d) (k : Come d b e) : Come c (a ++ b) e := by
  induction h with
  | nil => exact k
  | old h _ ih => exact .old h (ih k)
  | new _ ih => exact .new (ih k)
theorem colGo_ok {G : Gram} : ∀ (n i : Nat) (ks : List (List It)) (gs : List (List (Int × Int))) {ks' : List (List It)} {gs' : List (List (Int × Int))}, ColOk G i ks gs → colGo G n i ks gs = some (ks', gs') → ColOk G ks'.length ks' gs'
  | 0, _, _, _, _, _, _, h => by cases h
  | n + 1, i, ks, gs, ks', gs', ho, h => by
    unfold colGo at h
    cases hk : ks[i]? with
    | none =>
      rw [hk] at h
      simp only [Option.some.injEq, Prod.mk.injEq] at h
      obtain ⟨rfl, rfl⟩ := h
      have hle : ks.length ≤ i := List.getElem?_eq_none_iff.1 hk
      have hge : i ≤ ks.length := by
        rcases Nat.eq_zero_or_pos i with h0 | h0
        · omega
        · obtain ⟨k, h1, _⟩ := ho.edges (i - 1) (by rw [ho.len]; omega)
          have := (List.getElem?_eq_some_iff.1 h1).1
          omega
      obtain rfl : i = ks.length := by omega
      exact ho
    | some k =>
      rw [hk] at h
      simp only at h
      cases he : edgesGo G (cloL G k) (symsI G) ks [] with
      | none => rw [he] at h; cases h
      | some q =>
        obtain ⟨ks1, es⟩ := q
        rw [he] at h
        simp only at h
        obtain ⟨⟨r, h1, h2, h3⟩, ⟨t, h4⟩, h5, h6, h7⟩ := edgesGo_spec _ _ _ ho.le he
        rw [List.nil_append] at h1
        subst h1
        have hi := (List.getElem?_eq_some_iff.1 hk).1
        have pre : ∀ {j k}, ks[j]? = some k → ks1[j]? = some k := fun {j k} hj => by
          rw [h4, List.getElem?_append_left (List.getElem?_eq_some_iff.1 hj).1]
          exact hj
        refine colGo_ok n (i + 1) ks1 (gs ++ [es]) ⟨by rw [List.length_append, ho.len]; rfl, pre ho.first, h5 ho.nodup, h6, fun j hj => ?_, ?_, fun j hj => ?_, fun k' hk' => ?_, fun k' hk' => ?_⟩ h
        · by_cases e : j < gs.length
          · obtain ⟨k', g1, g2⟩ := ho.edges j e
            refine ⟨k', pre g1, ?_⟩
            rw [List.getElem_append_left e, h4]
            exact edges_more g2
          · have : j = gs.length := by
              simp only [List.length_append, List.length_cons, List.length_nil] at hj
              omega
            subst this
            refine ⟨k, pre (by rw [ho.len]; exact hk), ?_⟩
            simpa using h2
        · rw [List.flatten_append, List.flatten_cons, List.flatten_nil, List.append_nil]
          exact come_app ho.come h3
        · by_cases e : j < gs.length
          · obtain ⟨c, g1, g2⟩ := ho.ahead j e
            refine ⟨c, ?_, g2⟩
            rw [List.take_append_of_le_length (Nat.le_of_lt e)]
            exact g1
          · have : j = gs.length := by
              simp only [List.length_append, List.length_cons, List.length_nil] at hj
              omega
            subst this
            refine ⟨ks.length, ?_, by rw [ho.len]; exact hi⟩
            rw [List.take_append_of_le_length (Nat.le_refl _), List.take_length]
            exact ho.come
        · rcases h7 k' hk' with h8 | ⟨s, h8, h9⟩
          · exact ho.ne k' h8
          · exact h9
        · rcases h7 k' hk' with h8 | ⟨s, h8, h9⟩
          · rcases ho.kin k' h8 with h9 | ⟨K, s, g1, g2⟩
            · exact .inl h9
            · exact .inr ⟨K, s, g1, by rw [h4]; exact List.mem_append_left _ g2⟩
          · exact .inr ⟨k, s, h8, by rw [h4]; exact List.mem_append_left _ (List.mem_of_getElem? hk)⟩
theorem colI_ok {G : Gram} {ks : List (List It)} {gs : List (List (Int × Int))} (h : colI G = some (ks, gs)) : ColOk G ks.length ks gs :=
  colGo_ok (G := G) 257 0 [[(0, 0)]] [] ⟨rfl, rfl, by simp, by simp, fun j hj => by simp at hj, .nil, fun j hj => by simp at hj, by simp, by simp⟩ (show colGo G 257 0 [[(0, 0)]] [] = some (ks, gs) from h)
end Go.Proofs.Ytgmkpncpcikecaa
