/-
  The document's answer on useless: rounds over all productions, as many as there are symbols, and where they lead.
-/
import Derived.Test.YtiiceickjaeehaaGreatUse5
namespace Go.Proofs.YtiiceickjaeehaaGreat
open Go.RowKit
set_option maxHeartbeats 400000

def roundF (step : Step) (l : List Prd) (L : List Bool) : List Bool := l.foldl (fun L p => (step p L).2) L
def roundsF (step : Step) (l : List Prd) : Nat → List Bool → List Bool
  | 0, L => L
  | k + 1, L => roundF step l (roundsF step l k L)
def passTo (step : Step) (l : List Prd) (k : Nat) (L : List Bool) : List Bool := roundF step (l.take k) L
theorem passTo_succ (step : Step) (l : List Prd) (k : Nat) (L : List Bool) (h : k < l.length) : passTo step l (k + 1) L = (step l[k] (passTo step l k L)).2 := by
  unfold passTo roundF
  rw [List.take_add_one, List.getElem?_eq_getElem h, List.foldl_append]
  rfl
theorem passTo_all (step : Step) (l : List Prd) (L : List Bool) : passTo step l l.length L = roundF step l L := by
  unfold passTo
  rw [List.take_length]

theorem roundsF_succ (step : Step) (l : List Prd) (r : Nat) (L : List Bool) : roundsF step l (r + 1) L = passTo step l l.length (roundsF step l r L) := (passTo_all step l (roundsF step l r L)).symm
theorem round_sub {step : Step} {l : List Prd} {n : Nat} (hg : Good step l n) : ∀ (r : List Prd) (L : List Bool), (∀ p ∈ r, p ∈ l) → L.length = n →
    (roundF step r L).length = n ∧ ((∀ p ∈ r, (step p L).1 = false) ∧ roundF step r L = L ∨ (roundF step r L).count false < L.count false)
  | [], L, _, hL => ⟨hL, .inl ⟨fun _ h => (List.not_mem_nil h).elim, rfl⟩⟩
  | p :: r, L, hr, hL => by
    have hp := hr p (.head _)
    have hr' : ∀ q ∈ r, q ∈ l := fun q hq => hr q (.tail _ hq)
    have he : roundF step (p :: r) L = roundF step r (step p L).2 := rfl
    obtain ⟨h1, h2⟩ := round_sub hg r (step p L).2 hr' (hg.len p hp L hL)
    rw [he]
    refine ⟨h1, ?_⟩
    cases hc : (step p L).1 with
    | false =>
      rw [hg.stay p hp L hL hc] at h2 ⊢
      rcases h2 with ⟨h2, h3⟩ | h2
      · refine .inl ⟨fun q hq => ?_, h3⟩
        rcases List.mem_cons.1 hq with rfl | hq
        · exact hc
        · exact h2 q hq
      · exact .inr h2
    | true =>
      have h4 := hg.grow p hp L hL hc
      rcases h2 with ⟨_, h3⟩ | h2
      · rw [h3]; exact .inr h4
      · exact .inr (Nat.lt_trans h2 h4)
theorem path_sub {step : Step} {l : List Prd} {L0 : List Bool} : ∀ (r : List Prd) (L : List Bool), (∀ p ∈ r, p ∈ l) → Path step l L0 L → Path step l L0 (roundF step r L)
  | [], _, _, h => h
  | p :: r, _, hr, h => path_sub r _ (fun q hq => hr q (.tail _ hq)) (h.step (hr p (.head _)))
theorem rounds_law {step : Step} {l : List Prd} {n : Nat} (hg : Good step l n) {L0 : List Bool} (h0 : L0.length = n) : ∀ k : Nat,
    (roundsF step l k L0).length = n ∧ Path step l L0 (roundsF step l k L0) ∧ (Closed step l (roundsF step l k L0) ∨ (roundsF step l k L0).count false + k ≤ L0.count false)
  | 0 => ⟨h0, .refl, .inr (Nat.le_refl _)⟩
  | k + 1 => by
    obtain ⟨h1, h2, h3⟩ := rounds_law hg h0 k
    obtain ⟨h4, h5⟩ := round_sub hg l (roundsF step l k L0) (fun _ h => h) h1
    refine ⟨h4, path_sub l _ (fun _ h => h) h2, ?_⟩
    show Closed step l (roundF step l (roundsF step l k L0)) ∨ (roundF step l (roundsF step l k L0)).count false + (k + 1) ≤ _
    rcases h5 with ⟨h5, h6⟩ | h5
    · rw [h6]
      exact .inl h5
    · rcases h3 with h3 | h3
      · have h7 : roundF step l (roundsF step l k L0) = roundsF step l k L0 := by
          have : ∀ r : List Prd, (∀ p ∈ r, p ∈ l) → roundF step r (roundsF step l k L0) = roundsF step l k L0 := by
            intro r
            induction r with
            | nil => intro _; rfl
            | cons p r ih =>
              intro hr
              show roundF step r (step p (roundsF step l k L0)).2 = _
              rw [hg.stay p (hr p (.head _)) _ h1 (h3 p (hr p (.head _)))]
              exact ih fun q hq => hr q (.tail _ hq)
          exact this l fun _ h => h
        rw [h7]
        exact .inl h3
      · exact .inr (by omega)
theorem rounds_end {step : Step} {l : List Prd} {n : Nat} (hg : Good step l n) {L0 : List Bool} (h0 : L0.length = n) : Closed step l (roundsF step l n L0) ∧ Path step l L0 (roundsF step l n L0) := by
  obtain ⟨h1, h2, h3⟩ := rounds_law hg h0 n
  refine ⟨?_, h2⟩
  rcases h3 with h3 | h3
  · exact h3
  · have h4 : L0.count false ≤ n := h0 ▸ List.count_le_length
    intro p hp
    cases hc : (step p (roundsF step l n L0)).1 with
    | false => rfl
    | true =>
      have := hg.grow p hp _ h1 hc
      omega
theorem rounds_makes {G : Gram} (hin : InG G) : roundsF mkStep G.prods G.syms.length (initM G.syms.length G.terms.toNat) = makesL G := by
  have h := rounds_end (good_mk hin) (L0 := initM G.syms.length G.terms.toNat) (by simp [initM])
  exact makes_law hin h.2 h.1
theorem rounds_from {G : Gram} (hin : InG G) (ht : 0 ≤ G.terms ∧ G.terms < G.syms.length) (M : Prd → Bool) : roundsF (fromStep M) G.prods G.syms.length (initF G.syms.length G.terms.toNat) = fromL G M := by
  have h := rounds_end (good_from M hin) (L0 := initF G.syms.length G.terms.toNat) (by simp [initF])
  exact from_law hin ht h.2 h.1
theorem from_step (M : Prd → Bool) (p : Prd) (L : List Bool) : (fromStep M p L).2 = if (L.getD p.left.toNat false && M p) = true then setAll L p.right else L := by
  unfold fromStep
  split <;> rfl
/-- The document's step is the program's. -/
theorem mk_step (p : Prd) (L : List Bool) : (mkStep p L).2 = if allE L p.right then L.set p.left.toNat true else L := by
  unfold mkStep
  simp only
  cases h1 : L.getD p.left.toNat false with
  | true =>
    rw [Bool.true_or, set_same h1]
    split <;> rfl
  | false =>
    rw [Bool.not_false, Bool.true_and, Bool.false_or]
    split
    · rename_i e; rw [e]
    · rename_i e
      rw [Bool.not_eq_true] at e
      rw [e]
      refine List.ext_getElem (by simp) fun j h2 h3 => ?_
      rw [List.getElem_set]
      split
      · rename_i e2
        subst e2
        simpa [List.getD_eq_getElem?_getD, h3] using h1.symm
      · rfl
end Go.Proofs.YtiiceickjaeehaaGreat
