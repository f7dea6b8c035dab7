/-
  What a grammar that is right has.
-/
import Derived.Test.YtgmkpncpcikecaaSym3
namespace Go.Proofs.Ytgmkpncpcikecaa
open Go.RowKit
set_option maxHeartbeats 400000

theorem rightG_parts {G : Gram} (h : rightG G = true) : (1 ≤ G.terms ∧ G.terms ≤ 64 ∧ G.terms + 2 ≤ (G.syms.length : Int) ∧ (G.syms.length : Int) ≤ G.terms + 64 ∧ 1 ≤ G.prods.length ∧ G.prods.length ≤ 128) ∧
    symsG G.terms G.syms = true ∧ prodsG G.terms G.syms.length G.prods = true := by
  unfold rightG at h
  simp only [Bool.and_eq_true, Bool.not_eq_true', Bool.or_eq_false_iff, decide_eq_false_iff_not] at h
  obtain ⟨h1, h2, h3⟩ := h
  exact ⟨by omega, h2, h3⟩
theorem symsG_at {terms : Int} {l : List Sym} (h : symsG terms l = true) (k : Nat) (hk : k < l.length) : symOk terms (namesTo l k) k l[k] = true := by
  rw [symsG, List.all_eq_true] at h
  have := h k (List.mem_range.2 hk)
  rw [symAtOk, List.getElem?_eq_getElem hk] at this
  exact this
/-- A symbol of one that is right. -/
theorem right_sym {G : Gram} (h : rightG G = true) (k : Nat) (hk : k < G.syms.length) :
    0 ≤ G.syms[k].level ∧ G.syms[k].assoc ≤ 3 ∧ (G.syms[k].level = 0 ↔ G.syms[k].assoc = 0) ∧ (G.terms ≤ (k : Int) → G.syms[k].level ≤ 0) ∧ (k = 0 → G.syms[k].level = 0) := by
  have := symsG_at (rightG_parts h).2.1 k hk
  generalize G.syms[k] = s at *
  unfold symOk bareG at this
  simp only [Bool.and_eq_true, Bool.not_eq_true', Bool.or_eq_false_iff, Bool.and_eq_false_iff, decide_eq_false_iff_not, bne_eq_false_iff_eq, Bool.not_eq_false', decide_eq_true_eq] at this
  obtain ⟨_, ⟨h1, h2, h3⟩, h4, h5, _⟩ := this
  have h3' : s.level = 0 ↔ s.assoc = 0 := by
    by_cases e1 : s.level = 0 <;> by_cases e2 : s.assoc = 0 <;> simp [e1, e2] at h3 ⊢
  refine ⟨by omega, by omega, h3', fun hh => by omega, fun hh => ?_⟩
  subst hh
  rcases h5 with h5 | h5
  · simp at h5
  · exact h5.2.2.1
/-- A production of one that is right. -/
theorem right_prod {G : Gram} (h : rightG G = true) (k : Nat) (hk : k < G.prods.length) : (G.prods[k].prec = -1 ∨ (1 ≤ G.prods[k].prec ∧ G.prods[k].prec < G.terms)) := by
  obtain ⟨terms, syms, prods⟩ := G
  have := (rightG_parts h).2.2
  cases prods with
  | nil => simp at hk
  | cons p r =>
    simp only [prodsG, Bool.and_eq_true, List.all_eq_true] at this
    obtain ⟨h1, h2⟩ := this
    cases k with
    | zero =>
      unfold firstG at h1
      simp only [Bool.and_eq_true, decide_eq_true_eq] at h1
      exact .inl h1.2.2.2.2.1
    | succ k =>
      have hk' : k < r.length := by simpa using hk
      have h3 := h2 r[k] (List.getElem_mem _)
      simp only [List.getElem_cons_succ]
      generalize r[k] = p at *
      unfold prodG at h3
      simp only [Bool.and_eq_true, Bool.not_eq_true', Bool.or_eq_false_iff, Bool.and_eq_false_iff, decide_eq_false_iff_not, Bool.not_eq_false', decide_eq_true_eq] at h3
      obtain ⟨_, ⟨h4, _⟩, _⟩ := h3
      omega
end Go.Proofs.Ytgmkpncpcikecaa
