/-
  Package scope: the contracts, told on lists of names.
-/
import Derived.Test.YticdoccaabfjaaaSc13
namespace Go.Proofs.Yticdoccaabfjaaa
open Go.RowKit
set_option maxHeartbeats 400000

/-- The scope at p holds these names, in blocks of F. -/
def Sc (w : World) (F : Nat → Prop) (p : Nat) (σ : List (List Nm)) : Prop := ∃ L, IsScope w F p L ∧ absM L = σ
theorem Sc.fr {w w' : World} {F F' ch : Nat → Prop} {p : Nat} {σ : List (List Nm)} (h : Sc w F p σ) (k : Fr ch w w') (hF : ∀ g, F g → ¬ ch g ∧ F' g) : Sc w' F' p σ := by
  obtain ⟨L, h1, h2⟩ := h
  exact ⟨L, h1.fr k hF, h2⟩
theorem Sc.new {w w' : World} {F : Nat → Prop} {p : Nat} {σ : List (List Nm)} (h : Sc w F p σ) (k : Fr nothing w w') : Sc w' F p σ := h.fr k fun _ s => ⟨fun e => e, s⟩
theorem Sc.lt {w : World} {F : Nat → Prop} {p : Nat} {σ : List (List Nm)} (h : Sc w F p σ) : p < w.heap.size := by
  obtain ⟨L, h1, _⟩ := h
  exact h1.lt
theorem Sc.hF {w : World} {F : Nat → Prop} {p : Nat} {σ : List (List Nm)} (h : Sc w F p σ) : F p := by
  obtain ⟨L, h1, _⟩ := h
  exact h1.hF
theorem grow_mono {F : Nat → Prop} {w w' : World} (g : Nat) (h : F g) : grow F w w' g := .inl h
/-- Sizes that the program can bear. -/
def Fit (σ : List (List Nm)) : Prop := σ.length ≤ 1000000000000 ∧ ∀ l ∈ σ, l.length ≤ 1000000000000
theorem sNew (w : World) : Calls Try.prog 14 #[] w fun e w' => e = .returned (.pointer (some ⟨w.heap.size, 0, none⟩)) ∧ Sc w' (Rng w.heap.size w'.heap.size) w.heap.size [] ∧ Below w.heap.size w w' :=
  (new_any w).mono fun _ _ ⟨h1, h2, h3⟩ => ⟨h1, ⟨[], h2, rfl⟩, h3⟩
theorem absM_len (L : List MB) : (absM L).length = L.length := by simp [absM]
theorem sDeep {w : World} {F : Nat → Prop} {p : Nat} {σ : List (List Nm)} (h : Sc w F p σ) : Calls Try.prog 10 #[.pointer (some ⟨p, 0, none⟩)] w fun e w' => e = .returned (.int .i64 σ.length) ∧ w = w' := by
  obtain ⟨L, h1, rfl⟩ := h
  rw [absM_len]
  exact deep_yes h1
theorem sOpen {w : World} {F : Nat → Prop} {p : Nat} {σ : List (List Nm)} (h : Sc w F p σ) (hf : Fit σ) : Calls Try.prog 6 #[.pointer (some ⟨p, 0, none⟩)] w fun e w' => e = .returned (.tuple #[]) ∧ Sc w' (grow F w w') p (σ ++ [[]]) ∧ Fr F w w' := by
  obtain ⟨L, h1, rfl⟩ := h
  refine (open_yes h1 (by rw [← absM_len]; exact hf.1)).mono ?_
  rintro e w' ⟨he, b, hb, hs, hfr⟩
  exact ⟨he, ⟨_, hs, by rw [absM_snoc]; simp [absB, hb]⟩, hfr⟩
theorem absM_last {L : List MB} {σ : List (List Nm)} {l : List Nm} (h : absM L = σ ++ [l]) : ∃ L' b, L = L' ++ [b] ∧ absM L' = σ ∧ absB b = l := by
  rcases List.eq_nil_or_concat L with rfl | ⟨L', b, e⟩
  · simp [absM] at h
  · rw [List.concat_eq_append] at e
    subst e
    rw [absM_snoc] at h
    have := List.append_inj' h rfl
    exact ⟨L', b, rfl, this.1, by simpa using this.2⟩
theorem sClose {w : World} {F : Nat → Prop} {p : Nat} {σ : List (List Nm)} {l : List Nm} (h : Sc w F p (σ ++ [l])) (hf : Fit (σ ++ [l])) :
    Calls Try.prog 7 #[.pointer (some ⟨p, 0, none⟩)] w fun e w' => (∃ v, e = .returned (.tuple #[v, .int .i64 0]) ∧ Texts w' v (unusedS l)) ∧ Sc w' F p σ ∧ Fr F w w' := by
  obtain ⟨L, h1, h2⟩ := h
  obtain ⟨L', b, rfl, rfl, rfl⟩ := absM_last h2
  have h3 := hf.1
  rw [List.length_append, absM_len] at h3
  have h4 := hf.2 (absB b) (by simp)
  refine (close_yes h1 (by simp at h3; omega) (by simpa [absB] using h4)).mono ?_
  rintro e w' ⟨⟨v, he, ht⟩, hs, hfr⟩
  rw [unused_abs (h1.blk b (by simp)).nodup] at ht
  exact ⟨⟨v, he, ht⟩, ⟨L', hs, rfl⟩, hfr⟩
theorem sClose_empty {w : World} {F : Nat → Prop} {p : Nat} (h : Sc w F p []) : Calls Try.prog 7 #[.pointer (some ⟨p, 0, none⟩)] w fun e w' => e = .returned (.tuple #[.slice none 0 0, .int .i64 6]) ∧ w = w' := by
  obtain ⟨L, h1, h2⟩ := h
  obtain rfl : L = [] := by simpa [absM] using h2
  exact close_empty h1
theorem sDeclare_empty {w : World} {F : Nat → Prop} {p : Nat} (h : Sc w F p []) (s k n a : Value) : Calls Try.prog 12 #[.pointer (some ⟨p, 0, none⟩), s, .agg #[k, n, a]] w fun e w' => e = .returned (.int .i64 6) ∧ Below w.heap.size w w' := by
  obtain ⟨L, h1, h2⟩ := h
  obtain rfl : L = [] := by simpa [absM] using h2
  exact declare_empty h1 s k n a
theorem sDeclare_twice {w : World} {F : Nat → Prop} {p : Nat} {σ : List (List Nm)} {l : List Nm} (h : Sc w F p (σ ++ [l])) (hf : Fit (σ ++ [l])) (s : ByteArray) (hs : hasS l s = true) (k n a : Value) :
    Calls Try.prog 12 #[.pointer (some ⟨p, 0, none⟩), .string s, .agg #[k, n, a]] w fun e w' => e = .returned (.int .i64 110) ∧ Below w.heap.size w w' := by
  obtain ⟨L, h1, h2⟩ := h
  obtain ⟨L', b, rfl, rfl, rfl⟩ := absM_last h2
  have h3 := hf.1
  rw [List.length_append, absM_len] at h3
  rw [abs_has] at hs
  obtain ⟨x, hx⟩ := Option.isSome_iff_exists.1 hs
  exact declare_twice h1 (by simp at h3; omega) s x hx k n a
theorem sDeclare_ok {w : World} {F : Nat → Prop} {p : Nat} {σ : List (List Nm)} {l : List Nm} (h : Sc w F p (σ ++ [l])) (hf : Fit (σ ++ [l])) (s : ByteArray) (hs : hasS l s = false) {t : Ty} {v : Value} {S : Nat → Prop} (ht : IsTy w S t v) (hSF : ∀ g, S g → ¬ F g) :
    Calls Try.prog 12 #[.pointer (some ⟨p, 0, none⟩), .string s, v] w fun e w' => e = .returned (.int .i64 0) ∧ Sc w' (grow F w w') p (σ ++ [l ++ [⟨s, t, false⟩]]) ∧ Fr F w w' := by
  obtain ⟨L, h1, h2⟩ := h
  obtain ⟨L', b, rfl, rfl, rfl⟩ := absM_last h2
  have h3 := hf.1
  rw [List.length_append, absM_len] at h3
  have h4 := hf.2 (absB b) (by simp)
  rw [abs_has] at hs
  have hx : findTh b.l s = none := by
    cases hc : findTh b.l s with
    | none => rfl
    | some x => rw [hc] at hs; cases hs
  refine (declare_ok h1 (by simp at h3; omega) (by simpa [absB] using h4) s hx ht hSF).mono ?_
  rintro e w' ⟨he, v', pos, hsc, hfr⟩
  exact ⟨he, ⟨_, hsc, by rw [absM_snoc]; simp [absB]⟩, hfr⟩

/-- What Use and Look answer. -/
def AnsT (w w' : World) (v : Value) : Option Ty → Prop
  | some t => ∃ u, v = .tuple #[u, .bool true] ∧ OwnTy w' (Rng w.heap.size w'.heap.size) t u
  | none => v = .tuple #[noType, .bool false]
theorem sLook_in {w : World} {F : Nat → Prop} {p : Nat} {σ : List (List Nm)} (h : Sc w F p σ) (s : ByteArray) (u : Bool) :
    Calls Try.prog 23 #[.pointer (some ⟨p, 0, none⟩), .string s, .bool u] w fun e w' => (∃ v, e = .returned v ∧ AnsT w w' v (findS σ s)) ∧ Sc w' F p (if u then useS σ s else σ) ∧ Fr F w w' := by
  obtain ⟨L, h1, rfl⟩ := h
  rw [abs_findS]
  cases hf : findB L s with
  | none =>
    refine (look_none h1 s hf u).mono ?_
    rintro e w' ⟨he, hb⟩
    refine ⟨⟨_, he, rfl⟩, ⟨L, h1.new (Fr.new hb), ?_⟩, (Fr.new hb).wide⟩
    cases u with
    | false => rfl
    | true =>
      simp only [if_true]
      have : ∀ R : List MB, (R.findSome? fun b => findTh b.l s) = none → useR s (R.map absB) = R.map absB := by
        intro R
        induction R with
        | nil => intro _; rfl
        | cons b R ih =>
          intro hn
          rw [List.findSome?_cons] at hn
          simp only [List.map_cons, useR, abs_has]
          cases hc : findTh b.l s with
          | some x => rw [hc] at hn; cases hn
          | none =>
            rw [hc] at hn
            simp only [Option.isSome_none, Bool.false_eq_true, if_false]
            rw [ih hn]
      unfold useS absM
      rw [← List.map_reverse, this _ hf, List.map_reverse, List.reverse_reverse]
  | some x =>
    refine (look_some h1 s hf u).mono ?_
    rintro e w' ⟨⟨v, he, hv⟩, hs, hfr⟩
    refine ⟨⟨_, he, v, rfl, hv⟩, ⟨_, hs, ?_⟩, hfr⟩
    cases u with
    | false =>
      simp only [Bool.false_eq_true, if_false]
      obtain ⟨b0, hb0, hx0, _⟩ := findB_mem hf
      rw [setMB_same (h1.inj hb0 hx0)]
    | true =>
      simp only [if_true, Bool.or_true]
      exact use_abs h1 hf
end Go.Proofs.Yticdoccaabfjaaa
