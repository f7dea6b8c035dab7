/-
  Package first, plain: what symbols begin with; derivations begin so.
-/
import Derived.Test.YtfhleelechbdmaaDoorFi4
namespace Go.Proofs.YtfhleelechbdmaaDoor
set_option maxHeartbeats 400000

/-- What a symbol may begin with. -/
inductive Fst (G : Gram) : Nat → Nat → Prop
  | term {t : Nat} : (t : Int) < G.terms → Fst G t t
  | prod {p : Prd} {a b : List Int} {x : Int} {t : Nat} : p ∈ G.prods → p.right = a ++ x :: b → (∀ y ∈ a, Nul G y.toNat) → Fst G x.toNat t → Fst G p.left.toNat t
/-- A row up to the first that may not vanish. -/
def preR (no : List Bool) : List Int → List Int
  | [] => []
  | x :: l => if atB no x.toNat then x :: preR no l else [x]
theorem preR_mem {no : List Bool} {l : List Int} {x : Int} : x ∈ preR no l ↔ ∃ a b, l = a ++ x :: b ∧ ∀ y ∈ a, atB no y.toNat = true := by
  induction l with
  | nil => simp [preR]
  | cons z l ih =>
    constructor
    · intro h
      unfold preR at h
      split at h
      · rename_i e
        rcases List.mem_cons.1 h with rfl | h
        · exact ⟨[], l, rfl, by simp⟩
        · obtain ⟨a, b, rfl, hy⟩ := ih.1 h
          exact ⟨z :: a, b, rfl, fun y hy' => by
            rcases List.mem_cons.1 hy' with rfl | hy'
            · exact e
            · exact hy y hy'⟩
      · rw [List.mem_singleton] at h
        subst h
        exact ⟨[], l, rfl, by simp⟩
    · rintro ⟨a, b, e, hy⟩
      unfold preR
      cases a with
      | nil =>
        simp only [List.nil_append, List.cons.injEq] at e
        obtain ⟨rfl, -⟩ := e
        split <;> simp
      | cons c a =>
        simp only [List.cons_append, List.cons.injEq] at e
        obtain ⟨rfl, rfl⟩ := e
        rw [if_pos (hy z (by simp))]
        exact List.mem_cons_of_mem _ (ih.2 ⟨a, b, rfl, fun y hy' => hy y (List.mem_cons_of_mem _ hy')⟩)
theorem preR_all {no : List Bool} {l : List Int} (h : ∀ x ∈ l, atB no x.toNat = true) : preR no l = l := by
  induction l with
  | nil => rfl
  | cons x l ih =>
    rw [preR, if_pos (h x (by simp)), ih fun y hy => h y (List.mem_cons_of_mem _ hy)]
theorem preR_take {no : List Bool} : ∀ {l : List Int} {k : Nat} (hk : k < l.length), (∀ j (hj : j < l.length), j < k → atB no l[j].toNat = true) → atB no l[k].toNat = false → preR no l = l.take (k + 1)
  | x :: l, 0, _, _, h => by
    simp only [List.getElem_cons_zero] at h
    simp [preR, h]
  | x :: l, k + 1, hk, hj, h => by
    have h0 := hj 0 (by simp) (by omega)
    simp only [List.getElem_cons_zero] at h0
    rw [preR, if_pos h0, List.take_succ_cons, preR_take (l := l) (k := k) (by simpa using hk) (fun j h1 h2 => hj (j + 1) (Nat.succ_lt_succ h1) (by omega)) h]
def rowAt (S : List (List Bool)) (s : Nat) : List Bool := S[s]?.getD []
def flatS (S : List (List Bool)) (l : List Int) : List Nat := l.flatMap fun x => trues (rowAt S x.toNat)
theorem flatS_mem {S : List (List Bool)} {l : List Int} {t : Nat} : t ∈ flatS S l ↔ ∃ x ∈ l, atB (rowAt S x.toNat) t = true := by
  unfold flatS
  rw [List.mem_flatMap]
  refine ⟨fun ⟨x, h1, h2⟩ => ⟨x, h1, (trues_mem _ _).1 h2⟩, fun ⟨x, h1, h2⟩ => ⟨x, h1, (trues_mem _ _).2 h2⟩⟩
theorem flatS_snoc (S : List (List Bool)) (l : List Int) (x : Int) : flatS S (l ++ [x]) = flatS S l ++ trues (rowAt S x.toNat) := by simp [flatS]
theorem orB_app (bs : List Bool) (a b : List Nat) : orB bs (a ++ b) = orB (orB bs a) b := by
  induction a generalizing bs with
  | nil => rfl
  | cons x a ih => exact ih _
theorem newB_app (bs : List Bool) (a b : List Nat) : newB bs (a ++ b) = (newB (orB bs a) b || newB bs a) := by
  induction a generalizing bs with
  | nil => simp [newB, orB]
  | cons x a ih =>
    show (newB (addB bs x) (a ++ b) || newB1 bs x) = _
    rw [ih]
    simp [newB, orB, Bool.or_assoc]
theorem orB_at (bs : List Bool) (l : List Nat) (i : Nat) : atB (orB bs l) i = true ↔ atB bs i = true ∨ (i ∈ l ∧ i < bs.length) := by
  unfold atB
  rw [orB_get]
  simp
theorem orB_old {bs : List Bool} {l : List Nat} (h : newB bs l = false) : orB bs l = bs := by
  refine list_of_at (orB_len _ _) fun s => ?_
  rw [orB_at]
  refine ⟨fun e => e.elim id fun ⟨h1, h2⟩ => ?_, .inl⟩
  cases h3 : atB bs s with
  | true => rfl
  | false =>
    rw [(newB_some bs l).2 ⟨s, h1, h2, h3⟩] at h
    cases h
theorem orB_less {bs : List Bool} {l : List Nat} (h : newB bs l = true) : (orB bs l).count false < bs.count false := by
  obtain ⟨x, h1, h2, h3⟩ := (newB_some bs l).1 h
  exact count_lt _ _ (orB_len _ _).symm (fun i hi => (orB_at _ _ _).2 (.inl hi)) ⟨x, h3, (orB_at _ _ _).2 (.inr ⟨h1, h2⟩)⟩
def beStep (no : List Bool) (p : Prd) (S : List (List Bool)) : Bool × List (List Bool) :=
  (newB (rowAt S p.left.toNat) (flatS S (preR no p.right)), S.set p.left.toNat (orB (rowAt S p.left.toNat) (flatS S (preR no p.right))))
/-- Rows of truths: n, each of T. -/
structure RowsOk (n T : Nat) (S : List (List Bool)) : Prop where
  len : S.length = n
  row : ∀ b ∈ S, b.length = T
theorem RowsOk.at {n T : Nat} {S : List (List Bool)} (h : RowsOk n T S) {i : Nat} (hi : i < n) : (rowAt S i).length = T ∧ S[i]? = some (rowAt S i) := by
  have hi' : i < S.length := by rw [h.len]; exact hi
  unfold rowAt
  rw [List.getElem?_eq_getElem hi', Option.getD_some]
  exact ⟨h.row _ (List.getElem_mem hi'), rfl⟩
theorem rowAt_set {S : List (List Bool)} {i j : Nat} {x : List Bool} (hi : i < S.length) : rowAt (S.set i x) j = if i = j then x else rowAt S j := by
  unfold rowAt
  rw [List.getElem?_set]
  split
  · rename_i e
    subst e
    simp
  · rfl
theorem RowsOk.set {n T : Nat} {S : List (List Bool)} (h : RowsOk n T S) (i : Nat) {x : List Bool} (hx : x.length = T) : RowsOk n T (S.set i x) :=
  ⟨by rw [List.length_set, h.len], fun b hb => (List.mem_or_eq_of_mem_set hb).elim (h.row b) fun e => e ▸ hx⟩
def outR (S : List (List Bool)) : Nat := (S.map fun b => b.count false).sum
theorem outR_set : ∀ {S : List (List Bool)} {i : Nat} {b x : List Bool}, S[i]? = some b → x.count false < b.count false → outR (S.set i x) < outR S
  | c :: S, 0, b, x, h, hx => by
    simp only [List.getElem?_cons_zero, Option.some.injEq] at h
    subst h
    simp only [outR, List.set_cons_zero, List.map_cons, List.sum_cons]
    omega
  | c :: S, i + 1, b, x, h, hx => by
    simp only [List.getElem?_cons_succ] at h
    have := outR_set h hx
    simp only [outR, List.set_cons_succ, List.map_cons, List.sum_cons] at this ⊢
    omega
theorem be_good {l : List Prd} {n T : Nat} (no : List Bool) (h : ∀ p ∈ l, InN n p) : GoodS (beStep no) l (RowsOk n T) outR where
  ok p hp S hS := hS.set _ ((orB_len _ _).trans (hS.at (h p hp).left).1)
  stay p hp S hS hc := by
    have h2 := (hS.at (h p hp).left).2
    unfold beStep at hc ⊢
    simp only at hc ⊢
    rw [orB_old hc]
    refine List.ext_getElem (by simp) fun i h3 h4 => ?_
    rw [List.getElem_set]
    split
    · rename_i e
      subst e
      rw [List.getElem?_eq_getElem h4] at h2
      exact (Option.some.inj h2).symm
    · rfl
  grow p hp S hS hc := by
    unfold beStep at hc ⊢
    exact outR_set (hS.at (h p hp).left).2 (orB_less hc)
def initS (n T : Nat) : List (List Bool) := (List.range n).map fun k => if k < T then addB (zeros T) (k : Int) else zeros T
theorem initS_ok (n T : Nat) : RowsOk n T (initS n T) := ⟨by simp [initS], fun b hb => by
  unfold initS at hb
  obtain ⟨k, _, rfl⟩ := List.mem_map.1 hb
  split
  · rw [addB_len, zeros_len]
  · exact zeros_len _⟩
theorem atB_nil (t : Nat) : atB [] t = false := rfl
theorem atB_lt {L : List Bool} {t : Nat} (h : atB L t = true) : t < L.length := by
  unfold atB at h
  cases e : L[t]? with
  | none => rw [e] at h; cases h
  | some x => exact (List.getElem?_eq_some_iff.1 e).1
theorem initS_at {n T s t : Nat} : atB (rowAt (initS n T) s) t = true ↔ s < n ∧ s < T ∧ t = s := by
  unfold rowAt initS
  rw [List.getElem?_map]
  by_cases hs : s < n
  · rw [List.getElem?_range hs]
    simp only [Option.map_some, Option.getD_some, hs, true_and]
    have hz : atB (zeros T) t = false := zeros_get T t
    split
    · rename_i e
      unfold atB
      rw [addB_get, zeros_get, zeros_len]
      simp only [Bool.false_or, Bool.and_eq_true, decide_eq_true_eq, e, true_and]
      omega
    · rename_i e
      rw [hz]
      simp [e]
  · simp [hs, atB_nil]
theorem be_law {G : Gram} (hin : InG G) {no : List Bool} (hno : ∀ s, atB no s = true ↔ Nul G s) (ht : 0 ≤ G.terms ∧ G.terms ≤ (G.syms.length : Int)) {S : List (List Bool)} (hP : PathS (beStep no) G.prods (initS G.syms.length G.terms.toNat) S) (hC : ClosedS (beStep no) G.prods S) (s t : Nat) :
    atB (rowAt S s) t = true ↔ Fst G s t := by
  have hok : RowsOk G.syms.length G.terms.toNat S := path_ok (be_good no hin) (initS_ok _ _) hP
  have hup : ∀ s t, atB (rowAt (initS G.syms.length G.terms.toNat) s) t = true → atB (rowAt S s) t = true := by
    clear hC hok
    induction hP with
    | refl => exact fun _ _ h => h
    | @step S p hQ hp ih =>
      have hq : RowsOk G.syms.length G.terms.toNat S := path_ok (be_good no hin) (initS_ok _ _) hQ
      intro s t h
      have h1 := ih s t h
      unfold beStep
      simp only
      rw [rowAt_set (by rw [hq.len]; exact (hin p hp).left)]
      split
      · rename_i e
        subst e
        exact (orB_at _ _ _).2 (.inl h1)
      · exact h1
  constructor
  · clear hC hup hok
    induction hP generalizing s t with
    | refl =>
      intro h
      obtain ⟨h1, h2, rfl⟩ := initS_at.1 h
      exact .term (by omega)
    | @step S p hQ hp ih =>
      have hq : RowsOk G.syms.length G.terms.toNat S := path_ok (be_good no hin) (initS_ok _ _) hQ
      intro h
      unfold beStep at h
      simp only at h
      rw [rowAt_set (by rw [hq.len]; exact (hin p hp).left)] at h
      split at h
      · rename_i e
        subst e
        rcases (orB_at _ _ _).1 h with h | ⟨h, _⟩
        · exact ih _ _ h
        · obtain ⟨x, hx, hxt⟩ := flatS_mem.1 h
          obtain ⟨a, b, e, hy⟩ := preR_mem.1 hx
          exact .prod hp e (fun y h => (hno _).1 (hy y h)) (ih _ _ hxt)
      · exact ih _ _ h
  · intro h
    induction h with
    | @term t h => exact hup _ _ (initS_at.2 ⟨by omega, by omega, rfl⟩)
    | @prod p a b x t hp e hy _ ih =>
      have hc := hC p hp
      unfold beStep at hc
      simp only at hc
      cases h3 : atB (rowAt S p.left.toNat) t with
      | true => rfl
      | false =>
        have hxin : x ∈ p.right := by rw [e]; simp
        have hlt := atB_lt ih
        rw [(hok.at ((hin p hp).right x hxin)).1] at hlt
        have := (newB_some (rowAt S p.left.toNat) (flatS S (preR no p.right))).2 ⟨t, flatS_mem.2 ⟨x, preR_mem.2 ⟨a, b, e, fun y h => (hno _).2 (hy y h)⟩, ih⟩, by rw [(hok.at (hin p hp).left).1]; exact hlt, h3⟩
        rw [this] at hc
        cases hc

mutual
/-- What a symbol, and a row, derives. -/
inductive Der (G : Gram) : Nat → List Nat → Prop
  | term {t : Nat} : (t : Int) < G.terms → Der G t [t]
  | prod {p : Prd} {l : List Nat} : p ∈ G.prods → DerL G p.right l → Der G p.left.toNat l
inductive DerL (G : Gram) : List Int → List Nat → Prop
  | nil : DerL G [] []
  | cons {x : Int} {r : List Int} {l m : List Nat} : Der G x.toNat l → DerL G r m → DerL G (x :: r) (l ++ m)
end
def DerSays (G : Gram) (s : Nat) (l : List Nat) : Prop := (l = [] → Nul G s) ∧ ∀ t r, l = t :: r → Fst G s t
def DerLSays (G : Gram) (R : List Int) (l : List Nat) : Prop := (l = [] → ∀ y ∈ R, Nul G y.toNat) ∧ ∀ t r, l = t :: r → ∃ a x b, R = a ++ x :: b ∧ (∀ y ∈ a, Nul G y.toNat) ∧ Fst G x.toNat t
theorem der_law {G : Gram} {s : Nat} {l : List Nat} (h : Der G s l) : DerSays G s l := by
  refine Der.rec (motive_1 := fun s l _ => DerSays G s l) (motive_2 := fun R l _ => DerLSays G R l) ?_ ?_ ?_ ?_ h
  · intro t h
    exact ⟨fun e => by simp at e, fun t' r e => by
      simp only [List.cons.injEq] at e
      rw [← e.1]
      exact .term h⟩
  · intro p l hp _ ih
    refine ⟨fun e => .prod hp (ih.1 e), fun t r e => ?_⟩
    obtain ⟨a, x, b, h1, h2, h3⟩ := ih.2 t r e
    exact .prod hp h1 h2 h3
  · exact ⟨fun _ y hy => by simp at hy, fun t r e => by simp at e⟩
  · intro x r l m _ _ ih1 ih2
    refine ⟨fun e y hy => ?_, fun t q e => ?_⟩
    · rw [List.append_eq_nil_iff] at e
      rcases List.mem_cons.1 hy with rfl | hy
      · exact ih1.1 e.1
      · exact ih2.1 e.2 y hy
    · cases l with
      | nil =>
        rw [List.nil_append] at e
        obtain ⟨a, z, b, h1, h2, h3⟩ := ih2.2 t q e
        refine ⟨x :: a, z, b, by rw [h1]; rfl, fun y hy => ?_, h3⟩
        rcases List.mem_cons.1 hy with rfl | hy
        · exact ih1.1 rfl
        · exact h2 y hy
      | cons c l =>
        rw [List.cons_append, List.cons.injEq] at e
        obtain ⟨rfl, -⟩ := e
        exact ⟨[], x, r, rfl, by simp, ih1.2 _ _ rfl⟩
end Go.Proofs.YtfhleelechbdmaaDoor
