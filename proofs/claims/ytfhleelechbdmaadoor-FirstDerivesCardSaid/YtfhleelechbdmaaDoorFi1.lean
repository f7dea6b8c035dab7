/-
  Package first, plain: steps of productions on whatever state; what may vanish, what may be begun with, by definition; where the steps lead.
-/
import Derived.Test.YtfhleelechbdmaaDoorRight
import Derived.Test.YtfhleelechbdmaaDoorJoinsLaw
namespace Go.Proofs.YtfhleelechbdmaaDoor
set_option maxHeartbeats 400000

/-- Numbers of a production that fit n symbols. -/
def InN (n : Nat) (p : Prd) : Prop := (0 ≤ p.left ∧ p.left < n) ∧ ∀ x ∈ p.right, 0 ≤ x ∧ x < (n : Int)
def InG (G : Gram) : Prop := ∀ p ∈ G.prods, InN G.syms.length p
theorem InN.left {n : Nat} {p : Prd} (h : InN n p) : p.left.toNat < n := by have := h.1; omega
theorem InN.right {n : Nat} {p : Prd} (h : InN n p) : ∀ x ∈ p.right, x.toNat < n := fun x hx => by have := h.2 x hx; omega
theorem right_in {G : Gram} (h : rightG G = true) : InG G := by
  obtain ⟨h1, _, h3⟩ := rightG_parts h
  obtain ⟨terms, syms, prods⟩ := G
  simp only at h1 h3
  have hrow : ∀ l : List Int, rightSide terms syms.length l = true → ∀ x ∈ l, 0 ≤ x ∧ x < (syms.length : Int) := fun l hl x hx => by
    unfold rightSide rightRow at hl
    rw [Bool.and_eq_true, List.all_eq_true] at hl
    have := hl.1 x hx
    simp only [Bool.not_eq_true', Bool.or_eq_false_iff, decide_eq_false_iff_not] at this
    omega
  intro p hp
  simp only at hp ⊢
  cases prods with
  | nil => cases hp
  | cons q r =>
    simp only [prodsG, Bool.and_eq_true, List.all_eq_true] at h3
    rcases List.mem_cons.1 hp with rfl | hp
    · have := h3.1
      unfold firstG at this
      simp only [Bool.and_eq_true, decide_eq_true_eq] at this
      exact ⟨by omega, hrow _ this.2.2.1⟩
    · have := h3.2 p hp
      unfold prodG at this
      simp only [Bool.and_eq_true, Bool.not_eq_true', Bool.or_eq_false_iff, decide_eq_false_iff_not, Bool.not_eq_false'] at this
      exact ⟨by omega, hrow _ this.1.2.2⟩

/-- What steps do: none that tells of nothing new turns anything; each other one lets fewer be out. -/
structure GoodS {σ : Type} (step : Prd → σ → Bool × σ) (l : List Prd) (V : σ → Prop) (m : σ → Nat) : Prop where
  ok : ∀ p ∈ l, ∀ s, V s → V (step p s).2
  stay : ∀ p ∈ l, ∀ s, V s → (step p s).1 = false → (step p s).2 = s
  grow : ∀ p ∈ l, ∀ s, V s → (step p s).1 = true → m (step p s).2 < m s
inductive PathS {σ : Type} (step : Prd → σ → Bool × σ) (l : List Prd) (s0 : σ) : σ → Prop
  | refl : PathS step l s0 s0
  | step {s : σ} {p : Prd} : PathS step l s0 s → p ∈ l → PathS step l s0 (step p s).2
def ClosedS {σ : Type} (step : Prd → σ → Bool × σ) (l : List Prd) (s : σ) : Prop := ∀ p ∈ l, (step p s).1 = false
theorem path_ok {σ : Type} {step : Prd → σ → Bool × σ} {l : List Prd} {V : σ → Prop} {m : σ → Nat} (hg : GoodS step l V m) {s0 s : σ} (h0 : V s0) (h : PathS step l s0 s) : V s := by
  induction h with
  | refl => exact h0
  | step _ hp ih => exact hg.ok _ hp _ ih
theorem till_next {σ : Type} {step : Prd → σ → Bool × σ} {l : List Prd} {V : σ → Prop} {m : σ → Nat} (hg : GoodS step l V m) {s0 s1 s : σ} {k : Nat} {mb : Bool} (hlt : k < l.length) (hL : V s) (hP : PathS step l s0 s) (hm0 : mb = false → s = s1 ∧ ∀ j (hj : j < l.length), j < k → (step l[j] s1).1 = false)
    (hm1 : mb = true → m s < m s1) :
    V (step l[k] s).2 ∧ PathS step l s0 (step l[k] s).2 ∧ (((step l[k] s).1 || mb) = false → (step l[k] s).2 = s1 ∧ ∀ j (hj : j < l.length), j < k + 1 → (step l[j] s1).1 = false) ∧
      (((step l[k] s).1 || mb) = true → m (step l[k] s).2 < m s1) := by
  have hm := List.getElem_mem hlt
  refine ⟨hg.ok _ hm _ hL, hP.step hm, fun e => ?_, fun e => ?_⟩
  · rw [Bool.or_eq_false_iff] at e
    obtain ⟨e1, e2⟩ := e
    obtain ⟨h1, h2⟩ := hm0 e2
    refine ⟨(hg.stay _ hm _ hL e1).trans h1, fun j hj hjk => ?_⟩
    rcases Nat.lt_or_ge j k with h | h
    · exact h2 j hj h
    · obtain rfl : j = k := by omega
      rw [← h1]
      exact e1
  · cases hc : (step l[k] s).1 with
    | false =>
      rw [hg.stay _ hm _ hL hc]
      rw [hc, Bool.false_or] at e
      exact hm1 e
    | true =>
      have h1 := hg.grow _ hm _ hL hc
      cases mb with
      | false => rw [← (hm0 rfl).1]; exact h1
      | true => have := hm1 rfl; omega

/-- Which of some truths holds. -/
def atB (L : List Bool) (i : Nat) : Bool := L[i]?.getD false
def allE (L : List Bool) (R : List Int) : Bool := R.all fun x => atB L x.toNat
theorem allE_iff {L : List Bool} {R : List Int} : allE L R = true ↔ ∀ x ∈ R, atB L x.toNat = true := by unfold allE; rw [List.all_eq_true]
theorem atB_set {L : List Bool} {i j : Nat} {x : Bool} (hi : i < L.length) : atB (L.set i x) j = if i = j then x else atB L j := by
  unfold atB
  rw [List.getElem?_set]
  split
  · rename_i e
    subst e
    simp
  · rfl
theorem count_lt : ∀ (a b : List Bool), a.length = b.length → (∀ i, atB a i = true → atB b i = true) → (∃ i, atB a i = false ∧ atB b i = true) → b.count false < a.count false := by
  have le : ∀ (a b : List Bool), a.length = b.length → (∀ i, atB a i = true → atB b i = true) → b.count false ≤ a.count false := by
    intro a
    induction a with
    | nil => intro b hl _; cases b <;> simp_all
    | cons x a ih =>
      intro b hl h
      cases b with
      | nil => simp at hl
      | cons y b =>
        have h0 := h 0
        have h1 := ih b (by simpa using hl) fun i hi => h (i + 1) hi
        simp only [atB, List.getElem?_cons_zero, Option.getD_some] at h0
        cases x <;> cases y <;> simp_all <;> omega
  intro a
  induction a with
  | nil => intro b hl _ ⟨i, h1, h2⟩; cases b <;> simp_all [atB]
  | cons x a ih =>
    intro b hl h ⟨i, h1, h2⟩
    cases b with
    | nil => simp at hl
    | cons y b =>
      have h0 := h 0
      have hl' : a.length = b.length := by simpa using hl
      have ht := fun i hi => h (i + 1) hi
      simp only [atB, List.getElem?_cons_zero, Option.getD_some] at h0
      have hle := le a b hl' ht
      cases i with
      | zero =>
        simp only [atB, List.getElem?_cons_zero, Option.getD_some] at h1 h2
        subst h1 h2
        simp
        omega
      | succ i =>
        have := ih b hl' ht ⟨i, h1, h2⟩
        cases x <;> cases y <;> simp_all <;> omega
theorem count_set_lt {L : List Bool} {i : Nat} (hi : i < L.length) (h : atB L i = false) : (L.set i true).count false < L.count false :=
  count_lt _ _ (by simp) (fun j hj => by rw [atB_set hi, hj]; split <;> rfl) ⟨i, h, by rw [atB_set hi, if_pos rfl]⟩

/-- What may vanish. -/
inductive Nul (G : Gram) : Nat → Prop
  | prod {p : Prd} : p ∈ G.prods → (∀ x ∈ p.right, Nul G x.toNat) → Nul G p.left.toNat
def vaStep (p : Prd) (L : List Bool) : Bool × List Bool := if atB L p.left.toNat || !allE L p.right then (false, L) else (true, L.set p.left.toNat true)
theorem va_good {l : List Prd} {n : Nat} (h : ∀ p ∈ l, InN n p) : GoodS vaStep l (fun L => L.length = n) (fun L => L.count false) where
  ok p hp L hL := by unfold vaStep; split <;> simp [hL]
  stay p hp L hL hc := by
    unfold vaStep at hc ⊢
    split
    · rfl
    · rename_i e; rw [if_neg e] at hc; cases hc
  grow p hp L hL hc := by
    unfold vaStep at hc ⊢
    split
    · rename_i e; rw [if_pos e] at hc; cases hc
    · rename_i e
      simp only [Bool.or_eq_true, not_or, Bool.not_eq_true] at e
      exact count_set_lt (by rw [hL]; exact (h p hp).left) e.1
theorem va_law {G : Gram} (hin : InG G) {L : List Bool} (hP : PathS vaStep G.prods (List.replicate G.syms.length false) L) (hC : ClosedS vaStep G.prods L) (s : Nat) : atB L s = true ↔ Nul G s := by
  have hlen : L.length = G.syms.length := path_ok (va_good hin) (by simp) hP
  constructor
  · clear hC
    induction hP generalizing s with
    | refl =>
      intro h
      simp only [atB, List.getElem?_replicate] at h
      split at h <;> simp at h
    | @step L p hQ hp ih =>
      have hl : L.length = G.syms.length := path_ok (va_good hin) (by simp) hQ
      intro h
      unfold vaStep at h
      split at h
      · exact ih s hl h
      · rename_i e
        simp only [Bool.or_eq_true, not_or, Bool.not_eq_true, Bool.not_eq_false'] at e
        rw [atB_set (by rw [hl]; exact (hin p hp).left)] at h
        split at h
        · rename_i e2
          subst e2
          exact .prod hp fun x hx => ih _ hl (allE_iff.1 e.2 x hx)
        · exact ih s hl h
  · intro h
    induction h with
    | @prod p hp _ ih =>
      have hc := hC p hp
      unfold vaStep at hc
      split at hc
      · rename_i e
        rw [allE_iff.2 ih] at e
        simpa using e
      · cases hc
end Go.Proofs.YtfhleelechbdmaaDoor
