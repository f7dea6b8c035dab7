/-
  RunDerives in plain Lean: what a grammar's own table leads to derives just the terminals.
-/
import Derived.Test.YtpnihegmhalcfaaRunG34
import Derived.Test.YtpnihegmhalcfaaRunG33
namespace Go.Proofs.Ytpnihegmhalcfaa
set_option maxHeartbeats 400000

/-- A row of trees derives a row of symbols, from a place to a place. -/
def DerF (G : Gram) (terms : List Int) : Fo → List Int → Nat → Nat → Prop
  | .nil, rs, p, q => rs = [] ∧ p = q
  | .cons pr a k r, rs, p, q => ∃ (s : Int) (rs' : List Int) (m : Nat), rs = s :: rs' ∧ ((pr = -1 ∧ k = .nil ∧ a = (p : Int) ∧ m = p + 1 ∧ p < terms.length ∧ terms.getD p 0 = s) ∨
      (1 ≤ pr ∧ pr < (G.prods.length : Int) ∧ a = 0 ∧ (prdAt G pr).left = s ∧ DerF G terms k (prdAt G pr).right p m)) ∧ DerF G terms r rs' m q
/-- A tree derives a symbol. -/
def DerT (G : Gram) (terms : List Int) (t : Tr) (s : Int) (p m : Nat) : Prop :=
  (t.p = -1 ∧ t.kids = .nil ∧ t.a = (p : Int) ∧ m = p + 1 ∧ p < terms.length ∧ terms.getD p 0 = s) ∨
  (1 ≤ t.p ∧ t.p < (G.prods.length : Int) ∧ t.a = 0 ∧ (prdAt G t.p).left = s ∧ DerF G terms t.kids (prdAt G t.p).right p m)
theorem derF_cons {G : Gram} {terms : List Int} {pr a : Int} {k r : Fo} {rs : List Int} {p q : Nat} : DerF G terms (.cons pr a k r) rs p q ↔ ∃ s rs' m, rs = s :: rs' ∧ DerT G terms ⟨pr, a, k⟩ s p m ∧ DerF G terms r rs' m q := Iff.rfl
def countF : Fo → List Int
  | .nil => []
  | .cons p _ k r => (if p = -1 then [] else countF k ++ [p]) ++ countF r
/-- A tree's productions, each behind its parts'. -/
def countT (t : Tr) : List Int := if t.p = -1 then [] else countF t.kids ++ [t.p]
theorem derF_snoc {G : Gram} {terms : List Int} {t : Tr} {s : Int} {m q : Nat} (ht : DerT G terms t s m q) : ∀ {l : List Tr} {rs : List Int} {p : Nat}, DerF G terms (foOf l) rs p m → DerF G terms (foOf (l ++ [t])) (rs ++ [s]) p q
  | [], rs, p, h => by
    obtain ⟨rfl, rfl⟩ := h
    exact derF_cons.2 ⟨s, [], q, rfl, ht, rfl, rfl⟩
  | x :: l, rs, p, h => by
    obtain ⟨s', rs', m', rfl, h1, h2⟩ := derF_cons.1 h
    exact derF_cons.2 ⟨s', rs' ++ [s], m', rfl, h1, derF_snoc ht h2⟩
theorem countF_snoc (t : Tr) : ∀ l : List Tr, countF (foOf (l ++ [t])) = countF (foOf l) ++ countT t
  | [] => by
    show countT t ++ countF .nil = [] ++ countT t
    simp [countF]
  | x :: l => by
    show countT x ++ countF (foOf (l ++ [t])) = (countT x ++ countF (foOf l)) ++ countT t
    rw [countF_snoc t l, List.append_assoc]
theorem rightOf_prd (G : Gram) (k : Int) : rightOf G k = (prdAt G k).right := by
  unfold rightOf prdAt
  rw [List.getD_eq_getElem?_getD]
  cases G.prods[k.toNat]? <;> rfl
theorem lastN_snoc (l : List (Int × Tr)) (x : Int × Tr) : lastN (l ++ [x]) = x.1 := by
  unfold lastN
  simp
theorem lastT_snoc (l : List (Int × Tr)) (x : Int × Tr) : lastT (l ++ [x]) = x.2 := by
  unfold lastT
  simp

/-! Stacks. -/
inductive Stk (G : Gram) (gs : List (List (Int × Int))) (terms : List Int) : List (Int × Tr) → Nat → List Int → Prop
  | start : Stk G gs terms [(0, noTr)] 0 []
  | push {l : List (Int × Tr)} {p : Nat} {ps : List Int} {s : Int} {j : Nat} {t : Tr} {q : Nat} : Stk G gs terms l p ps → (s, (j : Int)) ∈ gs.getD (lastN l).toNat [] → DerT G terms t s p q → Stk G gs terms (l ++ [((j : Int), t)]) q (ps ++ countT t)
theorem edgesIs_mem {G : Gram} {L : List It} {ks : List (List It)} {syms : List Int} {es : List (Int × Int)} (h : EdgesIs G L ks syms es) : ∀ x ∈ es, onI G L x.1 ≠ [] ∧ ∃ j : Nat, x.2 = (j : Int) ∧ ks[j]? = some (onI G L x.1) := by
  induction h with
  | nil => exact fun x hx => by cases hx
  | skip _ _ ih => exact ih
  | edge h1 h2 _ ih =>
    intro x hx
    rcases List.mem_cons.1 hx with rfl | hx
    · exact ⟨h1, _, rfl, h2⟩
    · exact ih x hx
theorem edge_kernel {G : Gram} {ks : List (List It)} {gs : List (List (Int × Int))} (hc : colI G = some (ks, gs)) {i : Nat} {x : Int × Int} (hx : x ∈ gs.getD i []) :
    onI G (cloL G (ks.getD i [])) x.1 ≠ [] ∧ ∃ j : Nat, x.2 = (j : Int) ∧ j < ks.length ∧ ks.getD j [] = onI G (cloL G (ks.getD i [])) x.1 := by
  have ho := colI_ok hc
  have hi : i < gs.length := by
    refine Classical.byContradiction fun hn => ?_
    rw [List.getD_eq_getElem?_getD, List.getElem?_eq_none (by omega)] at hx
    cases hx
  obtain ⟨k, hk, he⟩ := ho.edges i hi
  rw [List.getD_eq_getElem?_getD, List.getElem?_eq_getElem hi] at hx
  have hki : ks.getD i [] = k := by rw [List.getD_eq_getElem?_getD, hk]; rfl
  obtain ⟨h1, j, h2, h3⟩ := edgesIs_mem he x hx
  rw [hki]
  exact ⟨h1, j, h2, (List.getElem?_eq_some_iff.1 h3).1, by rw [List.getD_eq_getElem?_getD, h3]; rfl⟩
theorem edge_to {G : Gram} {ks : List (List It)} {gs : List (List (Int × Int))} (hc : colI G = some (ks, gs)) {i j : Nat} {s : Int} (hx : (s, (j : Int)) ∈ gs.getD i []) : j < ks.length ∧ ks.getD j [] = onI G (cloL G (ks.getD i [])) s := by
  obtain ⟨-, j', h1, h2, h3⟩ := edge_kernel hc hx
  have h1 : (j : Int) = (j' : Int) := h1
  obtain rfl : j = j' := by omega
  exact ⟨h2, h3⟩
theorem first_kernel {G : Gram} {ks : List (List It)} {gs : List (List (Int × Int))} (hc : colI G = some (ks, gs)) : 0 < ks.length ∧ ks.getD 0 [] = [(0, 0)] := by
  have h := (colI_ok hc).first
  exact ⟨(List.getElem?_eq_some_iff.1 h).1, by rw [List.getD_eq_getElem?_getD, h]; rfl⟩
theorem Stk.num {G : Gram} {ks : List (List It)} {gs : List (List (Int × Int))} {terms : List Int} (hc : colI G = some (ks, gs)) {l : List (Int × Tr)} {p : Nat} {ps : List Int} (h : Stk G gs terms l p ps) : 1 ≤ l.length ∧ (lastN l).toNat < ks.length := by
  cases h with
  | start => exact ⟨Nat.le_refl _, (first_kernel hc).1⟩
  | push _ he _ =>
    refine ⟨by simp, ?_⟩
    rw [lastN_snoc]
    exact (edge_to hc he).1
theorem clo_dot {G : Gram} {K : List It} {k d : Int} (h : (k, d) ∈ cloL G K) (hd : d ≠ 0) : (k, d) ∈ K := by
  generalize hx : (k, d) = x at h ⊢
  cases cloL_mem.1 h with
  | ker h => exact h
  | step _ _ _ _ => exact absurd (congrArg Prod.snd hx) hd
theorem pop {G : Gram} {ks : List (List It)} {gs : List (List (Int × Int))} {terms : List Int} (hc : colI G = some (ks, gs)) (k : Int) : ∀ (m : Nat) {l : List (Int × Tr)} {p : Nat} {ps : List Int}, Stk G gs terms l p ps → (k, (m : Int)) ∈ cloL G (ks.getD (lastN l).toNat []) →
    ∃ p0 ps0, m + 1 ≤ l.length ∧ Stk G gs terms (l.take (l.length - m)) p0 ps0 ∧ DerF G terms (foOf ((l.drop (l.length - m)).map Prod.snd)) ((rightOf G k).take m) p0 p ∧ ps = ps0 ++ countF (foOf ((l.drop (l.length - m)).map Prod.snd))
  | 0, l, p, ps, h, _ => by
    have h1 := (h.num hc).1
    refine ⟨p, ps, by omega, ?_, ?_, ?_⟩
    · rw [Nat.sub_zero, List.take_length]
      exact h
    · rw [Nat.sub_zero, List.drop_length]
      exact ⟨rfl, rfl⟩
    · rw [Nat.sub_zero, List.drop_length]
      simp [foOf, countF]
  | m + 1, l, p, ps, h, hk => by
    have hk := clo_dot hk (by omega)
    cases h with
    | start =>
      rw [show (lastN [((0 : Int), noTr)]).toNat = 0 from rfl, (first_kernel hc).2, List.mem_singleton] at hk
      have := congrArg Prod.snd hk
      simp only at this
      omega
    | push h0 he hd =>
      rename_i l0 p0 ps0 s j t q0
      rw [lastN_snoc] at hk
      have h1 := edge_to hc he
      have h2 : (k, ((m + 1 : Nat) : Int)) ∈ ks.getD j [] := hk
      rw [h1.2] at h2
      obtain ⟨y, hy, hb, e⟩ := onI_mem.1 h2
      have e1 : k = y.1 := congrArg Prod.fst e
      have e2 : ((m + 1 : Nat) : Int) = y.2 + 1 := congrArg Prod.snd e
      have hy' : y = (k, (m : Int)) := by
        obtain ⟨a, b⟩ := y
        simp only at e1 e2
        rw [Prod.mk.injEq]
        omega
      subst hy'
      obtain ⟨p1, ps1, g1, g2, g3, g4⟩ := pop hc k m h0 hy
      have hl : (l0 ++ [((j : Int), t)]).length - (m + 1) = l0.length - m := by simp
      have hb' : (rightOf G k)[m]? = some s := by
        have : behI G (k, (m : Int)) = (rightOf G k)[m]? := by unfold behI; simp
        rw [← this]
        exact hb
      have hr : (rightOf G k).take (m + 1) = (rightOf G k).take m ++ [s] := by rw [List.take_add_one, hb']; rfl
      refine ⟨p1, ps1, by simp; omega, ?_, ?_, ?_⟩
      · rw [hl, List.take_append_of_le_length (by omega)]
        exact g2
      · rw [hl, List.drop_append_of_le_length (by omega), List.map_append, hr]
        exact derF_snoc hd g3
      · rw [hl, List.drop_append_of_le_length (by omega), List.map_append, List.map_cons, List.map_nil, countF_snoc, ← List.append_assoc, ← g4]

/-! The table's entries. -/
theorem actGo_mem {G : Gram} {term : Nat} : ∀ (l : List Ac) (cur : Ac), actGo G term cur l = cur ∨ actGo G term cur l ∈ l ∨ actGo G term cur l = ⟨0, 0⟩
  | [], cur => .inl rfl
  | x :: r, cur => by
    unfold actGo
    split
    · exact .inr (.inr rfl)
    · split
      · rcases actGo_mem r x with h | h | h
        · exact .inr (.inl (by rw [h]; simp))
        · exact .inr (.inl (List.mem_cons_of_mem _ h))
        · exact .inr (.inr h)
      · rcases actGo_mem r cur with h | h | h
        · exact .inl h
        · exact .inr (.inl (List.mem_cons_of_mem _ h))
        · exact .inr (.inr h)
theorem actOf_mem {G : Gram} {term : Nat} (l : List Ac) : actOf G term l ∈ l ∨ actOf G term l = ⟨0, 0⟩ := by
  cases l with
  | nil => exact .inr rfl
  | cons x r =>
    rcases actGo_mem (G := G) (term := term) r x with h | h | h
    · exact .inl (by show actGo G term x r ∈ _; rw [h]; simp)
    · exact .inl (List.mem_cons_of_mem _ h)
    · exact .inr h
theorem entAt_make {G : Gram} {ks : List (List It)} {gs : List (List (Int × Int))} {l : List Ah} {n : Nat} {s t : Int} (h : (entAt (makeT G ks gs l n) s t).kind ≠ 0) :
    entAt (makeT G ks gs l n) s t ∈ mayL (ks.getD s.toNat []) (gs.getD s.toNat []) s.toNat t.toNat l := by
  unfold entAt makeT at h ⊢
  by_cases hs : s.toNat < n
  · have e1 : ((List.range n).map fun i => actRow G (ks.getD i []) (gs.getD i []) i l).getD s.toNat [] = actRow G (ks.getD s.toNat []) (gs.getD s.toNat []) s.toNat l := by
      rw [List.getD_eq_getElem?_getD, List.getElem?_map, List.getElem?_range hs]
      rfl
    simp only [e1] at h ⊢
    unfold actRow at h ⊢
    by_cases ht : t.toNat < G.terms.toNat
    · have e2 : ((List.range G.terms.toNat).map fun term => actOf G term (mayL (ks.getD s.toNat []) (gs.getD s.toNat []) s.toNat term l)).getD t.toNat ⟨0, 0⟩ = actOf G t.toNat (mayL (ks.getD s.toNat []) (gs.getD s.toNat []) s.toNat t.toNat l) := by
        rw [List.getD_eq_getElem?_getD, List.getElem?_map, List.getElem?_range ht]
        rfl
      rw [e2] at h ⊢
      rcases actOf_mem (G := G) (term := t.toNat) (mayL (ks.getD s.toNat []) (gs.getD s.toNat []) s.toNat t.toNat l) with h1 | h1
      · exact h1
      · rw [h1] at h
        exact absurd rfl h
    · rw [List.getD_eq_getElem?_getD, List.getElem?_eq_none (by simp; omega)] at h
      exact absurd rfl h
  · have e1 : ((List.range n).map fun i => actRow G (ks.getD i []) (gs.getD i []) i l).getD s.toNat [] = [] := by
      rw [List.getD_eq_getElem?_getD, List.getElem?_eq_none (by simp; omega)]
      rfl
    simp only [e1] at h
    exact absurd rfl h
theorem toE_mem {s : Int} : ∀ {l : List (Int × Int)}, 0 ≤ toE (-1) s l → (s, toE (-1) s l) ∈ l
  | [], h => by
    have : (0 : Int) ≤ -1 := h
    omega
  | x :: l, h => by
    unfold toE at h ⊢
    by_cases e : x.1 = s
    · rw [if_pos e]
      rw [← e]
      simp
    · rw [if_neg e] at h ⊢
      exact List.mem_cons_of_mem _ (toE_mem h)
theorem mayL_kinds {K : List It} {E : List (Int × Int)} {i term : Nat} {l : List Ah} {x : Ac} (h : x ∈ mayL K E i term l) :
    (x.kind = 1 ∧ 0 ≤ x.dst ∧ ((term : Int), x.dst) ∈ E) ∨ (x.kind = 3 ∧ term = 0 ∧ ((0 : Int), (1 : Int)) ∈ K) ∨ (x.kind = 2 ∧ ∃ a ∈ l, a.1 = (i : Int) ∧ a.2.1 = x.dst) := by
  unfold mayL at h
  rcases List.mem_append.1 h with h | h
  · rcases List.mem_append.1 h with h | h
    · unfold shfL at h
      split at h
      · rename_i h0
        rw [List.mem_singleton.1 h]
        exact .inl ⟨rfl, h0, toE_mem h0⟩
      · cases h
    · unfold kerL at h
      split at h
      · rename_i h0
        obtain ⟨y, hy, rfl⟩ := List.mem_map.1 h
        rw [List.mem_filter, decide_eq_true_eq] at hy
        exact .inr (.inl ⟨rfl, h0, by rw [← hy.2]; exact hy.1⟩)
      · cases h
  · unfold ahdL at h
    obtain ⟨a, ha, rfl⟩ := List.mem_map.1 h
    rw [List.mem_filter, Bool.and_eq_true, decide_eq_true_eq] at ha
    exact .inr (.inr ⟨rfl, a, ha.1, ha.2.1, rfl⟩)

/-! What the lookaheads are of. -/
theorem placeRow_item {G : Gram} {Ls : List (List It)} {A : Tabs} {s p : Nat} (h : (placeRow G Ls A s p).isEmpty = false) : ((p : Int), ((rightOf G (p : Int)).length : Int)) ∈ itsAt Ls s := by
  unfold placeRow at h
  cases e : placeI (itsAt Ls s) ((p : Int), ((rightOf G (p : Int)).length : Int)) with
  | none =>
    rw [e] at h
    cases h
  | some k =>
    unfold placeI at e
    obtain ⟨hk, h1, -⟩ := List.findIdx?_eq_some_iff_getElem.1 e
    rw [← of_decide_eq_true h1]
    exact List.getElem_mem _
theorem outP_item {G : Gram} {Ls : List (List It)} {A : Tabs} {s : Nat} {o : List Ah} : ∀ n : Nat, ∀ x ∈ outP G Ls A s n o, x ∈ o ∨ ∃ p : Nat, x.1 = (s : Int) ∧ x.2.1 = (p : Int) ∧ ((p : Int), ((rightOf G (p : Int)).length : Int)) ∈ itsAt Ls s
  | 0, x, h => .inl h
  | n + 1, x, h => by
    rw [outP_succ] at h
    unfold outStep at h
    split at h
    · exact outP_item n x h
    · split at h
      · exact outP_item n x h
      · rename_i h2
        rcases List.mem_append.1 h with h | h
        · exact outP_item n x h
        · rw [List.mem_singleton.1 h]
          exact .inr ⟨n, rfl, rfl, placeRow_item (by simpa using h2)⟩
theorem outA_item {G : Gram} {Ls : List (List It)} {A : Tabs} : ∀ n : Nat, ∀ x ∈ outA G Ls A n, ∃ s p : Nat, x.1 = (s : Int) ∧ x.2.1 = (p : Int) ∧ ((p : Int), ((rightOf G (p : Int)).length : Int)) ∈ itsAt Ls s
  | 0, x, h => by cases h
  | n + 1, x, h => by
    rw [outA_succ] at h
    rcases outP_item _ x h with h | ⟨p, h1, h2, h3⟩
    · exact outA_item n x h
    · exact ⟨n, p, h1, h2, h3⟩
theorem aheadL_item {G : Gram} {ks : List (List It)} {gs : List (List (Int × Int))} {x : Ah} (h : x ∈ aheadL G ks gs) : (x.2.1, ((rightOf G x.2.1).length : Int)) ∈ cloL G (ks.getD x.1.toNat []) := by
  obtain ⟨s, p, h1, h2, h3⟩ := outA_item _ x h
  rw [h1, h2]
  unfold itsAt closeL at h3
  rw [List.getD_eq_getElem?_getD, List.getElem?_map] at h3
  rw [show ((s : Int)).toNat = s from rfl, List.getD_eq_getElem?_getD]
  cases e : ks[s]? with
  | none => rw [e] at h3; cases h3
  | some k => rw [e] at h3; exact h3
end Go.Proofs.Ytpnihegmhalcfaa
