/-
  Items, plain: what stands behind a dot, closures, what they go on to.
-/
import Derived.Test.YtgmkpncpcikecaaGram
namespace Go.Proofs.Ytgmkpncpcikecaa
set_option maxHeartbeats 400000

abbrev It := Int × Int
def rightOf (G : Gram) (p : Int) : List Int := (G.prods[p.toNat]?.map (·.right)).getD []
/-- The symbol behind the dot. -/
def behI (G : Gram) (x : It) : Option Int := (rightOf G x.1)[x.2.toNat]?
/-- An item of the grammar. -/
def InI (G : Gram) (x : It) : Prop := 0 ≤ x.1 ∧ x.1 < (G.prods.length : Int) ∧ 0 ≤ x.2 ∧ x.2 ≤ ((rightOf G x.1).length : Int)
inductive InClo (G : Gram) (K : List It) : It → Prop
  | ker {x : It} : x ∈ K → InClo G K x
  | step {x : It} {s : Int} {p : Nat} (hp : p < G.prods.length) : InClo G K x → behI G x = some s → G.prods[p].left = s → InClo G K ((p : Int), 0)
def ltI (a b : It) : Prop := a.1 < b.1 ∨ a.1 = b.1 ∧ a.2 < b.2
instance (a b : It) : Decidable (ltI a b) := by unfold ltI; infer_instance
theorem ltI_irrefl (a : It) : ¬ ltI a a := by unfold ltI; omega
theorem ltI_trans {a b c : It} (h : ltI a b) (k : ltI b c) : ltI a c := by unfold ltI at *; omega
theorem ltI_total {a b : It} (h : ¬ ltI a b) (k : ¬ ltI b a) : a = b := by
  unfold ltI at *
  obtain ⟨a1, a2⟩ := a
  obtain ⟨b1, b2⟩ := b
  simp only [Prod.mk.injEq] at *
  omega
def RisI (l : List It) : Prop := l.Pairwise ltI
theorem risI_eq : ∀ {l m : List It}, RisI l → RisI m → (∀ x, x ∈ l ↔ x ∈ m) → l = m
  | [], [], _, _, _ => rfl
  | [], b :: m, _, _, h => by have := (h b).2 (by simp); simp at this
  | a :: l, [], _, _, h => by have := (h a).1 (by simp); simp at this
  | a :: l, b :: m, hl, hm, h => by
    have hl' := List.pairwise_cons.1 hl
    have hm' := List.pairwise_cons.1 hm
    have hab : a = b := by
      rcases List.mem_cons.1 ((h a).1 (by simp)) with e | e
      · exact e
      · rcases List.mem_cons.1 ((h b).2 (by simp)) with e2 | e2
        · exact e2.symm
        · exact absurd (ltI_trans (hm'.1 a e) (hl'.1 b e2)) (ltI_irrefl _)
    subst hab
    refine congrArg (a :: ·) (risI_eq hl'.2 hm'.2 fun x => ⟨fun hx => ?_, fun hx => ?_⟩)
    · rcases List.mem_cons.1 ((h x).1 (List.mem_cons_of_mem _ hx)) with e | e
      · subst e
        exact absurd (hl'.1 _ hx) (ltI_irrefl _)
      · exact e
    · rcases List.mem_cons.1 ((h x).2 (List.mem_cons_of_mem _ hx)) with e | e
      · subst e
        exact absurd (hm'.1 _ hx) (ltI_irrefl _)
      · exact e
/-- An item laid among others that rise. -/
def putI (x : It) : List It → List It
  | [] => [x]
  | y :: l => if ltI y x then y :: putI x l else if y = x then y :: l else x :: y :: l
theorem putI_mem {x z : It} {l : List It} : z ∈ putI x l ↔ z = x ∨ z ∈ l := by
  induction l with
  | nil => simp [putI]
  | cons y l ih =>
    unfold putI
    split
    · rw [List.mem_cons, ih, List.mem_cons]
      constructor
      · rintro (h | h | h)
        · exact .inr (.inl h)
        · exact .inl h
        · exact .inr (.inr h)
      · rintro (h | h | h)
        · exact .inr (.inl h)
        · exact .inl h
        · exact .inr (.inr h)
    · split
      · rename_i e
        subst e
        simp
      · simp
theorem putI_ris {x : It} {l : List It} (h : RisI l) : RisI (putI x l) := by
  induction l with
  | nil => exact List.pairwise_singleton _ _
  | cons y l ih =>
    have h' := List.pairwise_cons.1 h
    unfold putI
    split
    · rename_i e
      refine List.pairwise_cons.2 ⟨fun z hz => ?_, ih h'.2⟩
      rcases putI_mem.1 hz with rfl | hz
      · exact e
      · exact h'.1 z hz
    · split
      · exact h
      · rename_i e1 e2
        have hxy : ltI x y := by
          by_cases h3 : ltI x y
          · exact h3
          · exact absurd (ltI_total e1 h3) e2
        refine List.pairwise_cons.2 ⟨fun z hz => ?_, h⟩
        rcases List.mem_cons.1 hz with rfl | hz
        · exact hxy
        · exact ltI_trans hxy (h'.1 z hz)
def sortI (l : List It) : List It := l.foldr putI []
theorem sortI_mem {x : It} {l : List It} : x ∈ sortI l ↔ x ∈ l := by
  induction l with
  | nil => simp [sortI]
  | cons y l ih =>
    show x ∈ putI y (sortI l) ↔ _
    rw [putI_mem, ih, List.mem_cons]
theorem sortI_ris (l : List It) : RisI (sortI l) := by
  induction l with
  | nil => exact List.Pairwise.nil
  | cons y l ih => exact putI_ris ih
/-- The productions of a symbol, the dot ahead. -/
def ownI (G : Gram) (s : Int) : List It := ((List.range G.prods.length).filter fun p => decide ((G.prods[p]?.map (·.left)).getD (-1) = s)).map fun p : Nat => ((p : Int), (0 : Int))
theorem ownI_mem {G : Gram} {s : Int} {x : It} : x ∈ ownI G s ↔ ∃ (p : Nat) (hp : p < G.prods.length), G.prods[p].left = s ∧ x = ((p : Int), 0) := by
  unfold ownI
  rw [List.mem_map]
  constructor
  · rintro ⟨p, hp, rfl⟩
    rw [List.mem_filter, List.mem_range, decide_eq_true_eq] at hp
    obtain ⟨hlt, he⟩ := hp
    rw [List.getElem?_eq_getElem hlt] at he
    exact ⟨p, hlt, he, rfl⟩
  · rintro ⟨p, hp, rfl, rfl⟩
    refine ⟨p, ?_, rfl⟩
    rw [List.mem_filter, List.mem_range, decide_eq_true_eq]
    refine ⟨hp, ?_⟩
    rw [List.getElem?_eq_getElem hp]
    rfl
/-- What the walk of a closure has reached: each item of the kernel, and nothing that is not of the closure; the symbols seen have all their productions there. -/
structure CloAt (G : Gram) (K seen : List It) (syms : List Int) : Prop where
  ker : ∀ x ∈ K, x ∈ seen
  own : ∀ s ∈ syms, ∀ x ∈ ownI G s, x ∈ seen
  sound : ∀ x ∈ seen, InClo G K x
theorem clo_done {G : Gram} {K L : List It} {syms : List Int} (h : CloAt G K L syms) (hall : ∀ x ∈ L, ∀ s, behI G x = some s → s ∈ syms) (x : It) : x ∈ L ↔ InClo G K x := by
  refine ⟨h.sound x, fun hx => ?_⟩
  induction hx with
  | ker hk => exact h.ker _ hk
  | step hp _ hb hl ih => exact h.own _ (hall _ ih _ hb) _ (ownI_mem.2 ⟨_, hp, hl, rfl⟩)
/-- A closure, reckoned: the symbols behind the dots, their productions, as long as there is a new one. -/
def cloGo (G : Gram) : Nat → List It → List Int → List It → List It
  | _, out, _, [] => out
  | 0, out, _, _ => out
  | n + 1, out, syms, x :: todo => match behI G x with
    | none => cloGo G n out syms todo
    | some s => if s ∈ syms then cloGo G n out syms todo else cloGo G n (out ++ ownI G s) (s :: syms) (todo ++ ownI G s)
def onI (G : Gram) (L : List It) (s : Int) : List It := (L.filter fun x => decide (behI G x = some s)).map fun x => (x.1, x.2 + 1)
theorem onI_mem {G : Gram} {L : List It} {s : Int} {x : It} : x ∈ onI G L s ↔ ∃ y ∈ L, behI G y = some s ∧ x = (y.1, y.2 + 1) := by
  unfold onI
  rw [List.mem_map]
  constructor
  · rintro ⟨y, hy, rfl⟩
    rw [List.mem_filter, decide_eq_true_eq] at hy
    exact ⟨y, hy.1, hy.2, rfl⟩
  · rintro ⟨y, h1, h2, rfl⟩
    exact ⟨y, List.mem_filter.2 ⟨h1, decide_eq_true h2⟩, rfl⟩
theorem onI_ris {G : Gram} {L : List It} {s : Int} (h : RisI L) : RisI (onI G L s) := by
  unfold onI RisI
  rw [List.pairwise_map]
  refine (h.filter _).imp fun {a b} hab => ?_
  unfold ltI at *
  simp only
  omega
theorem inI_own {G : Gram} {s : Int} {x : It} (h : x ∈ ownI G s) : InI G x := by
  obtain ⟨p, hp, _, rfl⟩ := ownI_mem.1 h
  refine ⟨by simp only; omega, by simp only; omega, by simp, by simp only; omega⟩
theorem inClo_in {G : Gram} {K : List It} (hK : ∀ x ∈ K, InI G x) {x : It} (h : InClo G K x) : InI G x := by
  induction h with
  | ker h => exact hK _ h
  | step hp _ _ hl => exact inI_own (ownI_mem.2 ⟨_, hp, hl, rfl⟩)
theorem inClo_clo {G : Gram} {K L : List It} (h : ∀ x, x ∈ L ↔ InClo G K x) (x : It) : InClo G L x ↔ InClo G K x := by
  constructor
  · intro hx
    induction hx with
    | ker hk => exact (h _).1 hk
    | step hp _ hb hl ih => exact .step hp ih hb hl
  · intro hx
    exact .ker ((h x).2 hx)
end Go.Proofs.Ytgmkpncpcikecaa
