/-
  Package useless: what makes something, what is come to, by definition; the steps lead there.
-/
import Derived.Test.YtiiceickjaeehaaGreatUse4
namespace Go.Proofs.YtiiceickjaeehaaGreat
open Go.RowKit
set_option maxHeartbeats 400000

/-- What makes something. -/
inductive Mk (G : Gram) : Nat → Prop
  | term {s : Nat} : (s : Int) < G.terms → Mk G s
  | prod {p : Prd} : p ∈ G.prods → (∀ x ∈ p.right, Mk G x.toNat) → Mk G p.left.toNat
/-- What is come to over productions that may be gone. -/
inductive Rc (G : Gram) (M : Prd → Bool) : Nat → Prop
  | start : Rc G M G.terms.toNat
  | step {p : Prd} {x : Int} : p ∈ G.prods → Rc G M p.left.toNat → M p = true → x ∈ p.right → Rc G M x.toNat
open Classical in
noncomputable def makesL (G : Gram) : List Bool := (List.range G.syms.length).map fun s => decide (Mk G s)
open Classical in
noncomputable def fromL (G : Gram) (M : Prd → Bool) : List Bool := (List.range G.syms.length).map fun s => decide (Rc G M s)
def mayOf (L : List Bool) : Prd → Bool := fun p => allE L p.right
noncomputable def useL (G : Gram) : List Bool := fromL G (mayOf (makesL G))
noncomputable def outB (G : Gram) (s : Nat) : Bool := !(makesL G).getD s false || !(useL G).getD s false
/-- The nonterminals that can't be used. -/
noncomputable def findL (G : Gram) : List Int := ((List.range G.syms.length).filter fun (s : Nat) => decide (G.terms + 1 ≤ (s : Int)) && outB G s).map Int.ofNat

theorem makesL_len (G : Gram) : (makesL G).length = G.syms.length := by simp [makesL]
theorem fromL_len (G : Gram) (M : Prd → Bool) : (fromL G M).length = G.syms.length := by simp [fromL]
theorem makesL_iff {G : Gram} {s : Nat} (h : s < G.syms.length) : (makesL G).getD s false = true ↔ Mk G s := by
  simp [makesL, List.getD_eq_getElem?_getD, h]
theorem fromL_iff {G : Gram} {M : Prd → Bool} {s : Nat} (h : s < G.syms.length) : (fromL G M).getD s false = true ↔ Rc G M s := by
  simp [fromL, List.getD_eq_getElem?_getD, h]
theorem list_of_iff {L L' : List Bool} (hl : L.length = L'.length) (h : ∀ s, s < L.length → (L.getD s false = true ↔ L'.getD s false = true)) : L = L' := by
  refine List.ext_getElem hl fun i h1 h2 => ?_
  have := h i h1
  simp only [List.getD_eq_getElem?_getD, List.getElem?_eq_getElem h1, List.getElem?_eq_getElem h2, Option.getD_some] at this
  exact Bool.eq_iff_iff.2 this

def InG (G : Gram) : Prop := ∀ p ∈ G.prods, InN G.syms.length p
def initM (n : Nat) (k : Nat) : List Bool := (List.range n).map fun i => decide (i < k)
def initF (n : Nat) (k : Nat) : List Bool := (List.range n).map fun i => decide (i = k)
theorem allE_iff {L : List Bool} {R : List Int} : allE L R = true ↔ ∀ x ∈ R, L.getD x.toNat false = true := by unfold allE; rw [List.all_eq_true]
theorem getD_set {L : List Bool} {i j : Nat} {x : Bool} (hi : i < L.length) : (L.set i x).getD j false = if i = j then x else L.getD j false := by
  simp only [List.getD_eq_getElem?_getD, List.getElem?_set]
  by_cases e : i = j
  · subst e
    simp [hi]
  · simp [e]
theorem count_set_lt {L : List Bool} {i : Nat} (hi : i < L.length) (h : L.getD i false = false) : (L.set i true).count false < L.count false := by
  have h1 : L[i] = false := by simpa [List.getD_eq_getElem?_getD, hi] using h
  have h2 : 0 < L.count false := List.count_pos_iff.2 (h1 ▸ List.getElem_mem hi)
  rw [List.count_set hi, h1]
  simp
  omega
theorem count_set_le {L : List Bool} {i : Nat} : (L.set i true).count false ≤ L.count false := by
  rcases Nat.lt_or_ge i L.length with hi | hi
  · cases h : L.getD i false with
    | false => exact Nat.le_of_lt (count_set_lt hi h)
    | true =>
      have h1 : L[i] = true := by simpa [List.getD_eq_getElem?_getD, hi] using h
      rw [List.count_set hi, h1]
      simp
  · rw [List.set_eq_of_length_le hi]
    exact Nat.le_refl _
theorem set_same {L : List Bool} {i : Nat} (h : L.getD i false = true) : L.set i true = L := by
  rcases Nat.lt_or_ge i L.length with hi | hi
  · refine List.ext_getElem (by simp) fun j h1 h2 => ?_
    rw [List.getElem_set]
    split
    · rename_i e
      subst e
      simpa [List.getD_eq_getElem?_getD, hi] using h.symm
    · rfl
  · exact List.set_eq_of_length_le hi
theorem setAll_cons (L : List Bool) (x : Int) (R : List Int) : setAll L (x :: R) = setAll (L.set x.toNat true) R := rfl
theorem setAll_same : ∀ (R : List Int) (L : List Bool), allE L R = true → setAll L R = L
  | [], _, _ => rfl
  | x :: R, L, h => by
    have h1 := allE_iff.1 h
    rw [setAll_cons, set_same (h1 x (.head _))]
    exact setAll_same R L (allE_iff.2 fun y hy => h1 y (.tail _ hy))
theorem setAll_count_le : ∀ (R : List Int) (L : List Bool), (setAll L R).count false ≤ L.count false
  | [], _ => Nat.le_refl _
  | x :: R, L => by
    rw [setAll_cons]
    exact Nat.le_trans (setAll_count_le R _) count_set_le
theorem setAll_count_lt : ∀ (R : List Int) (L : List Bool), (∀ x ∈ R, x.toNat < L.length) → allE L R = false → (setAll L R).count false < L.count false
  | [], _, _, h => by cases h
  | x :: R, L, hR, h => by
    rw [setAll_cons]
    cases hx : L.getD x.toNat false with
    | false => exact Nat.lt_of_le_of_lt (setAll_count_le R _) (count_set_lt (hR x (.head _)) hx)
    | true =>
      rw [set_same hx]
      refine setAll_count_lt R L (fun y hy => hR y (.tail _ hy)) ?_
      unfold allE at h ⊢
      rw [List.all_cons, hx, Bool.true_and] at h
      exact h
theorem setAll_get : ∀ (R : List Int) (L : List Bool) (s : Nat), (∀ x ∈ R, x.toNat < L.length) → ((setAll L R).getD s false = true ↔ L.getD s false = true ∨ ∃ x ∈ R, x.toNat = s)
  | [], L, s, _ => by simp [setAll]
  | x :: R, L, s, hR => by
    rw [setAll_cons, setAll_get R _ s (fun y hy => by rw [List.length_set]; exact hR y (.tail _ hy)), getD_set (hR x (.head _))]
    by_cases e : x.toNat = s
    · simp [e]
    · simp [e]

theorem InN.left {n : Nat} {p : Prd} (h : InN n p) : p.left.toNat < n := by have := h.1; omega
theorem InN.right {n : Nat} {p : Prd} (h : InN n p) : ∀ x ∈ p.right, x.toNat < n := fun x hx => by have := h.2 x hx; omega
theorem good_mk {l : List Prd} {n : Nat} (h : ∀ p ∈ l, InN n p) : Good mkStep l n where
  len p hp L hL := by simp [mkStep, hL]
  stay p hp L hL hc := by
    simp only [mkStep] at hc ⊢
    rw [hc, Bool.or_false]
    have hl := (h p hp).left
    refine List.ext_getElem (by simp) fun j h1 h2 => ?_
    rw [List.getElem_set]
    split
    · rename_i e
      subst e
      simp [List.getD_eq_getElem?_getD, h2]
    · rfl
  grow p hp L hL hc := by
    simp only [mkStep] at hc ⊢
    rw [hc, Bool.or_true]
    rw [Bool.and_eq_true, Bool.not_eq_true'] at hc
    exact count_set_lt (hL ▸ (h p hp).left) hc.1
theorem good_from {l : List Prd} {n : Nat} (M : Prd → Bool) (h : ∀ p ∈ l, InN n p) : Good (fromStep M) l n where
  len p hp L hL := by
    unfold fromStep
    split
    · exact (setAll_length _ _).trans hL
    · exact hL
  stay p hp L hL hc := by
    unfold fromStep at hc ⊢
    split
    · rename_i e
      rw [if_pos e] at hc
      simp only [Bool.not_eq_false'] at hc
      exact setAll_same _ _ hc
    · rfl
  grow p hp L hL hc := by
    unfold fromStep at hc ⊢
    split
    · rename_i e
      rw [if_pos e] at hc
      simp only [Bool.not_eq_true'] at hc
      exact setAll_count_lt _ _ (fun x hx => hL ▸ (h p hp).right x hx) hc
    · rename_i e
      rw [if_neg e] at hc
      cases hc
theorem path_len {step : Step} {l : List Prd} {n : Nat} (hg : Good step l n) {L0 L : List Bool} (h0 : L0.length = n) (h : Path step l L0 L) : L.length = n := by
  induction h with
  | refl => exact h0
  | step _ hp ih => exact hg.len _ hp _ ih

/-- Where the steps of makes lead. -/
theorem makes_law {G : Gram} (hin : InG G) {L : List Bool} (hP : Path mkStep G.prods (initM G.syms.length G.terms.toNat) L) (hC : Closed mkStep G.prods L) : L = makesL G := by
  have hg := good_mk hin
  have hlen : L.length = G.syms.length := path_len hg (by simp [initM]) hP
  refine list_of_iff (hlen.trans (makesL_len G).symm) fun s hs => ?_
  rw [hlen] at hs
  rw [makesL_iff hs]
  constructor
  · clear hC hlen
    induction hP generalizing s with
    | refl =>
      intro h
      simp [initM, List.getD_eq_getElem?_getD, hs] at h
      exact .term (by omega)
    | step hP hp ih =>
      rename_i L p
      have hlen := path_len hg (by simp [initM]) hP
      intro h
      simp only [mkStep] at h
      rw [getD_set (by rw [hlen]; exact (hin p hp).left)] at h
      split at h
      · rename_i e
        cases h1 : L.getD p.left.toNat false with
        | true => exact e ▸ ih _ (hin p hp).left h1
        | false =>
          rw [h1] at h
          simp only [Bool.not_false, Bool.true_and, Bool.false_or] at h
          exact e ▸ .prod hp fun x hx => ih _ ((hin p hp).right x hx) (allE_iff.1 h x hx)
      · exact ih s hs h
  · intro h
    have hmono : ∀ s, (initM G.syms.length G.terms.toNat).getD s false = true → L.getD s false = true := by
      clear hC hlen
      induction hP with
      | refl => exact fun _ h => h
      | step hP hp ih =>
        rename_i L p
        have hlen := path_len hg (by simp [initM]) hP
        intro s h
        simp only [mkStep]
        rw [getD_set (by rw [hlen]; exact (hin p hp).left)]
        split
        · rename_i e
          rw [e, ih s h]
          rfl
        · exact ih s h
    induction h with
    | term h1 =>
      refine hmono _ ?_
      simp [initM, List.getD_eq_getElem?_getD, hs]
      omega
    | @prod p hp _ ih =>
      have h1 := hC p hp
      simp only [mkStep] at h1
      cases h2 : L.getD p.left.toNat false with
      | true => rfl
      | false =>
        rw [h2] at h1
        rw [Bool.not_false, Bool.true_and] at h1
        have := allE_iff.2 fun x hx => ih x hx ((hin p hp).right x hx)
        rw [h1] at this
        cases this
/-- Where the steps of from lead. -/
theorem from_law {G : Gram} (hin : InG G) (ht : 0 ≤ G.terms ∧ G.terms < G.syms.length) {M : Prd → Bool} {L : List Bool} (hP : Path (fromStep M) G.prods (initF G.syms.length G.terms.toNat) L) (hC : Closed (fromStep M) G.prods L) : L = fromL G M := by
  have hg := good_from M hin
  have hlen : L.length = G.syms.length := path_len hg (by simp [initF]) hP
  refine list_of_iff (hlen.trans (fromL_len G M).symm) fun s hs => ?_
  rw [hlen] at hs
  rw [fromL_iff hs]
  constructor
  · clear hC hlen
    induction hP generalizing s with
    | refl =>
      intro h
      simp [initF, List.getD_eq_getElem?_getD, hs] at h
      exact h ▸ .start
    | step hP hp ih =>
      rename_i L p
      have hlen := path_len hg (by simp [initF]) hP
      intro h
      unfold fromStep at h
      split at h
      · rename_i e
        rw [Bool.and_eq_true] at e
        rw [setAll_get _ _ _ (fun x hx => by rw [hlen]; exact (hin p hp).right x hx)] at h
        rcases h with h | ⟨x, hx, rfl⟩
        · exact ih s hs h
        · exact .step hp (ih _ (hin p hp).left e.1) e.2 hx
      · exact ih s hs h
  · intro h
    have hmono : ∀ s, (initF G.syms.length G.terms.toNat).getD s false = true → L.getD s false = true := by
      clear hC hlen
      induction hP with
      | refl => exact fun _ h => h
      | step hP hp ih =>
        rename_i L p
        have hlen := path_len hg (by simp [initF]) hP
        intro s h
        unfold fromStep
        split
        · rw [setAll_get _ _ _ (fun x hx => by rw [hlen]; exact (hin p hp).right x hx)]
          exact .inl (ih s h)
        · exact ih s h
    clear hs
    induction h with
    | start =>
      refine hmono _ ?_
      rw [initF, List.getD_eq_getElem?_getD, List.getElem?_map, List.getElem?_range (by omega)]
      simp
    | @step p x hp _ hm hx ih =>
      have h1 := hC p hp
      unfold fromStep at h1
      rw [ih, hm] at h1
      simp only [Bool.and_self, if_true, Bool.not_eq_false'] at h1
      exact allE_iff.1 h1 x hx
end Go.Proofs.YtiiceickjaeehaaGreat
