/-
  The plain law of UselessWithout: what can be used, and the grammar without what can't.
-/
import Derived.Test.YtiiceickjaeehaaGreatUse7
namespace Go.Proofs.YtiiceickjaeehaaGreat
open Go.RowKit
set_option maxHeartbeats 400000

/-- What can be used. -/
def Ok (G : Gram) (s : Nat) : Prop := Mk G s ∧ Rc G (mayOf (makesL G)) s
theorem outB_false {G : Gram} {s : Nat} (hs : s < G.syms.length) : outB G s = false ↔ Ok G s := by
  unfold outB useL Ok
  rw [← makesL_iff hs, ← fromL_iff hs, Bool.or_eq_false_iff, Bool.not_eq_false', Bool.not_eq_false']
theorem may_iff {G : Gram} {p : Prd} (hp : InN G.syms.length p) : mayOf (makesL G) p = true ↔ ∀ x ∈ p.right, Mk G x.toNat := by
  unfold mayOf
  rw [allE_iff]
  exact ⟨fun h x hx => (makesL_iff (hp.right x hx)).1 (h x hx), fun h x hx => (makesL_iff (hp.right x hx)).2 (h x hx)⟩
/-- The row of what can't be used. -/
noncomputable def outRow (G : Gram) : List Bool := (List.range G.syms.length).map fun (s : Nat) => decide (G.terms + 1 ≤ (s : Int)) && outB G s
theorem outRow_len (G : Gram) : (outRow G).length = G.syms.length := by simp [outRow]
theorem outRow_get {G : Gram} {s : Nat} (hs : s < G.syms.length) : (outRow G).getD s false = (decide (G.terms + 1 ≤ (s : Int)) && outB G s) := by
  simp [outRow, List.getD_eq_getElem?_getD, hs]
theorem findL_mem {G : Gram} {x : Int} : x ∈ findL G ↔ ∃ s : Nat, x = (s : Int) ∧ s < G.syms.length ∧ G.terms + 1 ≤ (s : Int) ∧ outB G s = true := by
  unfold findL
  simp only [List.mem_map, List.mem_filter, List.mem_range, Bool.and_eq_true, decide_eq_true_eq]
  constructor
  · rintro ⟨s, ⟨h1, h2, h3⟩, rfl⟩
    exact ⟨s, rfl, h1, h2, h3⟩
  · rintro ⟨s, rfl, h1, h2, h3⟩
    exact ⟨s, ⟨h1, h2, h3⟩, rfl⟩
theorem findL_sorted (G : Gram) : (findL G).Pairwise (· < ·) := by
  unfold findL
  rw [List.pairwise_map]
  refine List.Pairwise.filter _ (List.Pairwise.imp ?_ List.pairwise_lt_range)
  intro a b h
  exact Int.ofNat_lt.2 h
/-- Set one by one, they are all there. -/
theorem find_set (G : Gram) : setAll (List.replicate G.syms.length false) (findL G) = outRow G := by
  have hx : ∀ x ∈ findL G, x.toNat < (List.replicate G.syms.length false).length := fun x hx => by
    obtain ⟨s, rfl, h, _⟩ := findL_mem.1 hx
    simpa using h
  refine list_of_iff (by rw [setAll_length, outRow_len]; simp) fun s hs => ?_
  rw [setAll_length, List.length_replicate] at hs
  rw [setAll_get _ _ _ hx, outRow_get hs, Bool.and_eq_true, decide_eq_true_eq]
  constructor
  · rintro (h | ⟨x, hx, rfl⟩)
    · simp [List.getD_eq_getElem?_getD, hs] at h
    · obtain ⟨s, rfl, _, h1, h2⟩ := findL_mem.1 hx
      exact ⟨h1, h2⟩
  · rintro ⟨h1, h2⟩
    exact .inr ⟨(s : Int), findL_mem.2 ⟨s, rfl, hs, h1, h2⟩, by simp⟩
/-- A production that names nothing that can't be used. -/
noncomputable def keepP (G : Gram) (p : Prd) : Bool := !((outRow G).getD p.left.toNat false || p.right.any fun x => (outRow G).getD x.toNat false)
noncomputable def cutG (G : Gram) : Gram := ⟨G.terms, G.syms, G.prods.filter (keepP G)⟩

theorem mk_sub {G : Gram} {s : Nat} (h : Mk (cutG G) s) : Mk G s := by
  induction h with
  | term h => exact .term h
  | prod hp _ ih => exact .prod (List.mem_filter.1 hp).1 ih
section
variable {G : Gram} (hin : InG G)
include hin
theorem keep_of {p : Prd} (hp : p ∈ G.prods) (hu : Rc G (mayOf (makesL G)) p.left.toNat) (hm : mayOf (makesL G) p = true) : keepP G p = true := by
  have hp' := hin p hp
  have h1 := (may_iff hp').1 hm
  have e1 := (outB_false hp'.left).2 ⟨.prod hp h1, hu⟩
  unfold keepP
  rw [Bool.not_eq_true', Bool.or_eq_false_iff, outRow_get hp'.left, e1, Bool.and_false]
  refine ⟨rfl, List.any_eq_false.2 fun x hx => ?_⟩
  have e2 := (outB_false (hp'.right x hx)).2 ⟨h1 x hx, .step hp hu hm hx⟩
  rw [outRow_get (hp'.right x hx), e2, Bool.and_false]
  exact Bool.false_ne_true
theorem mk_up {s : Nat} (h : Mk G s) (hu : Rc G (mayOf (makesL G)) s) : Mk (cutG G) s := by
  induction h with
  | term h => exact .term h
  | @prod p hp h1 ih =>
    have hm := (may_iff (hin p hp)).2 h1
    exact .prod (List.mem_filter.2 ⟨hp, keep_of hin hp hu hm⟩) fun x hx => ih x hx (.step hp hu hm hx)
theorem cut_in : InG (cutG G) := fun p hp => hin p (List.mem_filter.1 hp).1
theorem rc_up {s : Nat} (h : Rc G (mayOf (makesL G)) s) : Rc (cutG G) (mayOf (makesL (cutG G))) s := by
  induction h with
  | start => exact .start
  | @step p x hp hu hm hx ih =>
    have hk := List.mem_filter.2 ⟨hp, keep_of hin hp hu hm⟩
    refine .step hk ih ((may_iff (cut_in hin p hk)).2 fun y hy => mk_up hin ((may_iff (hin p hp)).1 hm y hy) (.step hp hu hm hy)) hx
theorem rc_sub {s : Nat} (h : Rc (cutG G) (mayOf (makesL (cutG G))) s) : Rc G (mayOf (makesL G)) s := by
  induction h with
  | start => exact .start
  | @step p x hp hu hm hx ih =>
    have hp' := (List.mem_filter.1 hp).1
    exact .step hp' ih ((may_iff (hin p hp')).2 fun y hy => mk_sub ((may_iff (cut_in hin p hp)).1 hm y hy)) hx
theorem ok_cut {s : Nat} : Ok (cutG G) s ↔ Ok G s := ⟨fun h => ⟨mk_sub h.1, rc_sub hin h.2⟩, fun h => ⟨mk_up hin h.1 h.2, rc_up hin h.2⟩⟩
theorem find_cut : findL (cutG G) = findL G := by
  unfold findL
  congr 1
  refine List.filter_congr fun s hs => ?_
  rw [List.mem_range] at hs
  have h1 : outB (cutG G) s = outB G s := by
    have h2 := outB_false (G := cutG G) hs
    have h3 := outB_false (G := G) hs
    rw [ok_cut hin, ← h3] at h2
    cases e1 : outB (cutG G) s <;> cases e2 : outB G s
    · rfl
    · have := h2.1 e1; rw [e2] at this; cases this
    · have := h2.2 e2; rw [e1] at this; cases this
    · rfl
  rw [h1]
  rfl
/-- What can be used stands at the left of a production that is kept, and, but the first, in one. -/
theorem way_law {s : Nat} (hs : s < G.syms.length) (ht : 0 ≤ G.terms ∧ G.terms + 1 ≤ (s : Int)) (ho : outB G s = false) :
    (∃ p ∈ G.prods, keepP G p = true ∧ p.left.toNat = s) ∧ ∃ p ∈ G.prods, keepP G p = true ∧ (∃ x ∈ p.right, x.toNat = s) := by
  obtain ⟨h1, h2⟩ := (outB_false hs).1 ho
  constructor
  · cases h1 with
    | term h => omega
    | @prod p hp h1 => exact ⟨p, hp, keep_of hin hp h2 ((may_iff (hin p hp)).2 h1), rfl⟩
  · generalize he : s = s' at h2
    cases h2 with
    | start => omega
    | @step p x hp hu hm hx => exact ⟨p, hp, keep_of hin hp hu hm, x, hx, rfl⟩
/-- Where the first makes nothing, nothing is come to. -/
theorem rc_none (hn : ¬ Mk G G.terms.toNat) {s : Nat} (h : Rc G (mayOf (makesL G)) s) : s = G.terms.toNat := by
  induction h with
  | start => rfl
  | @step p x hp _ hm hx ih => exact absurd (ih ▸ Mk.prod hp ((may_iff (hin p hp)).1 hm)) hn
theorem find_none (hn : ¬ Mk G G.terms.toNat) (ht : 0 ≤ G.terms ∧ G.terms < G.syms.length) : ((findL G).length : Int) = (G.syms.length : Int) - G.terms - 1 := by
  have h1 : findL G = ((List.range G.syms.length).filter fun (s : Nat) => decide (G.terms + 1 ≤ (s : Int))).map Int.ofNat := by
    unfold findL
    congr 1
    refine List.filter_congr fun s hs => ?_
    rw [List.mem_range] at hs
    by_cases hs2 : G.terms + 1 ≤ (s : Int)
    · have : outB G s = true := by
        cases e : outB G s with
        | true => rfl
        | false =>
          have := rc_none hin hn ((outB_false hs).1 e).2
          omega
      rw [this, Bool.and_true]
    · simp [hs2]
  rw [h1, List.length_map]
  have h2 : ∀ n : Nat, G.terms + 1 ≤ (n : Int) → (((List.range n).filter fun (s : Nat) => decide (G.terms + 1 ≤ (s : Int))).length : Int) = n - G.terms - 1 := by
    intro n
    induction n with
    | zero => intro h; omega
    | succ n ih =>
      intro h
      rw [List.range_succ, List.filter_append, List.length_append]
      by_cases e : G.terms + 1 ≤ (n : Int)
      · have := ih e
        simp only [List.filter_cons, decide_eq_true e, if_true, List.filter_nil, List.length_singleton]
        omega
      · have h3 : ((List.range n).filter fun (s : Nat) => decide (G.terms + 1 ≤ (s : Int))) = [] := by
          rw [List.filter_eq_nil_iff]
          intro s hs
          rw [List.mem_range] at hs
          simp
          omega
        rw [h3]
        simp only [List.filter_cons, decide_eq_false e, List.filter_nil, List.length_nil]
        simp
        omega
  exact h2 _ (by omega)
end
/-- Without what can't be used a grammar that makes something is right. -/
theorem right_cut {G : Gram} (hr : rightG G = true) (hm : Mk G G.terms.toNat) : rightG (cutG G) = true := by
  have hin := right_in hr
  obtain ⟨h1, h2, h3⟩ := rightG_parts hr
  have hp0 : ∃ p r, G.prods = p :: r ∧ firstG G.terms G.syms.length p = true ∧ (∀ q ∈ r, prodG G.terms G.syms.length q = true) := by
    cases hp : G.prods with
    | nil => rw [hp] at h1; simp at h1
    | cons p r =>
      rw [hp] at h3
      simp only [prodsG, Bool.and_eq_true, List.all_eq_true] at h3
      exact ⟨p, r, rfl, h3.1, h3.2⟩
  obtain ⟨p, r, hp, hf, hq⟩ := hp0
  have hleft : p.left = G.terms := by
    unfold firstG at hf
    simp only [Bool.and_eq_true, decide_eq_true_eq] at hf
    exact hf.1
  have hk : keepP G p = true := by
    have hmem : p ∈ G.prods := hp ▸ List.mem_cons_self
    refine keep_of hin hmem (hleft ▸ .start) ?_
    generalize he : G.terms.toNat = t at hm
    cases hm with
    | term h => omega
    | @prod q hq1 h4 =>
      rw [hp] at hq1
      rcases List.mem_cons.1 hq1 with rfl | hq2
      · exact (may_iff (hin _ hmem)).2 h4
      · have := hq q hq2
        unfold prodG at this
        simp only [Bool.and_eq_true, Bool.not_eq_true', Bool.or_eq_false_iff, decide_eq_false_iff_not] at this
        omega
  have hc : (cutG G).prods = p :: r.filter (keepP G) := by
    show G.prods.filter (keepP G) = _
    rw [hp, List.filter_cons, if_pos hk]
  have hl : (r.filter (keepP G)).length ≤ r.length := List.length_filter_le _ _
  have hl2 : G.prods.length = r.length + 1 := by rw [hp]; rfl
  unfold rightG
  simp only [Bool.and_eq_true, Bool.not_eq_true', Bool.or_eq_false_iff, decide_eq_false_iff_not]
  refine ⟨?_, h2, ?_⟩
  · rw [hc]
    show ¬ G.terms < 1 ∧ ¬ 64 < G.terms ∧ ¬ (G.syms.length : Int) < G.terms + 2 ∧ ¬ G.terms + 64 < (G.syms.length : Int) ∧ _
    simp only [List.length_cons]
    omega
  · rw [hc]
    simp only [prodsG, Bool.and_eq_true, List.all_eq_true]
    exact ⟨hf, fun q hq3 => hq q (List.mem_filter.1 hq3).1⟩
end Go.Proofs.YtiiceickjaeehaaGreat
