/-
  The other way round the same one wins: the plain law.
-/
import Derived.Test.YtijdaihcogbliaaClash5
namespace Go.Proofs.Ytijdaihcogbliaa
open Go.RowKit Go.MapKept Go.ChangeMaps
set_option maxHeartbeats 400000

/-- Some level is there, of the terminal and of the production's precedence. -/
structure Led (G : Gram) (t : Nat) (s r : Ent) (k p : Nat) (L M : Int) (shifts : Bool) : Prop where
  s1 : s.kind = 1
  r2 : r.kind = 2
  rto : r.to = (k : Int)
  kp : k < G.prods.length
  pr : (G.prods[k]'kp).prec = (p : Int)
  ps : p < G.syms.length
  ts : t < G.syms.length
  lt : (G.syms[t]'ts).level = L
  lp : (G.syms[p]'ps).level = M
  l0 : 0 < L
  m0 : 0 < M
  win : if shifts then M ≤ L else L ≤ M
/-- What two entries come to, one way and the other. -/
inductive Turned (G : Gram) (t : Int) (a b : Ent) : Int × Bool → Int × Bool → Prop
  | none : Turned G t a b (2, false) (2, false)
  | both (h : a.kind = 1 ∨ b.kind = 1) : Turned G t a b (2, true) (2, true)
  | same (h : a = b) : Turned G t a b (0, false) (0, false)
  | one (hn : ¬ a = b) (h0 : 0 ≤ t) (h1 : t < G.terms) (h2 : t < G.syms.length) (hw : a.kind ≠ 2 ∨ (b.kind = 2 ∧ a.to < b.to)) : Turned G t a b (0, false) (1, false)
  | two (hn : ¬ a = b) (h0 : 0 ≤ t) (h1 : t < G.terms) (h2 : t < G.syms.length) (hw : b.kind ≠ 2 ∨ (a.kind = 2 ∧ b.to < a.to)) : Turned G t a b (1, false) (0, false)
  | led (n k p : Nat) (L M : Int) (f : Bool) (hn : ¬ a = b) (ht : t = (n : Int)) (h1 : t < G.terms) (h : Led G n a b k p L M f) : Turned G t a b (if f then 0 else 1, true) (if f then 1 else 0, true)
  | del (n k p : Nat) (L M : Int) (f : Bool) (hn : ¬ a = b) (ht : t = (n : Int)) (h1 : t < G.terms) (h : Led G n b a k p L M f) : Turned G t a b (if f then 1 else 0, true) (if f then 0 else 1, true)

theorem mayE_turn (np : Nat) (t : Int) (a b : Ent) : mayE np t [a, b] = mayE np t [b, a] := by
  unfold mayE cntK
  simp only [List.all_cons, List.all_nil, Bool.and_true]
  rw [Bool.and_comm (okE np t a)]
  congr 1
  by_cases e1 : a.kind = 2 <;> by_cases e2 : b.kind = 2 <;> simp [e1, e2]

theorem met_led {G : Gram} (hr : rightG G = true) (n : Nat) (hn : (n : Int) < G.terms) (s r : Ent) (hs : s.kind = 1) (hk : r.kind = 2) (ho : okE G.prods.length n r = true) :
    ∃ u f, againstE (levelE G n) (levelE G (precE G r.to)) (assocE G n) = (u, f) ∧ ((f = false ∧ u = 0) ∨ (f = true ∧ u = 2) ∨ (f = true ∧ u = 0 ∧ ∃ k p L M, Led G n s r k p L M true) ∨ (f = true ∧ u = 1 ∧ ∃ k p L M, Led G n s r k p L M false)) := by
  obtain ⟨⟨_, _, hl, _, _, _⟩, _, _⟩ := rightG_parts hr
  have h := (okE_iff _ _ r.kind r.to).1 ho
  have hto : 1 ≤ r.to ∧ r.to < (G.prods.length : Int) := by omega
  obtain ⟨k, hk'⟩ : ∃ k : Nat, r.to = (k : Int) := ⟨r.to.toNat, by omega⟩
  have hkp : k < G.prods.length := by omega
  have hts : n < G.syms.length := by omega
  have hp := right_prod hr k hkp
  have hsy := right_sym hr n hts
  have e1 : levelE G n = G.syms[n].level := by
    simp [levelE, List.getElem?_eq_getElem hts]
    omega
  have e2 : precE G r.to = G.prods[k].prec := by simp [precE, hk', List.getElem?_eq_getElem hkp]
  have e3 : assocE G n = G.syms[n].assoc := by simp [assocE, List.getElem?_eq_getElem hts]
  rw [e1, e2, e3]
  rcases hp with hp | ⟨hp1, hp2⟩
  · refine ⟨0, false, ?_, .inl ⟨rfl, rfl⟩⟩
    rw [againstE, if_pos (.inr (by rw [levelE, if_pos (by omega)]))]
  · obtain ⟨p, hpp⟩ : ∃ p : Nat, G.prods[k].prec = (p : Int) := ⟨G.prods[k].prec.toNat, by omega⟩
    have hps : p < G.syms.length := by omega
    have hsp := right_sym hr p hps
    have e4 : levelE G G.prods[k].prec = G.syms[p].level := by
      rw [hpp]
      simp [levelE, List.getElem?_eq_getElem hps]
      omega
    rw [e4]
    have hled : ∀ f, (0 < G.syms[n].level) → (0 < G.syms[p].level) → (if f = true then G.syms[p].level ≤ G.syms[n].level else G.syms[n].level ≤ G.syms[p].level) → Led G n s r k p G.syms[n].level G.syms[p].level f := fun f a1 a2 a3 =>
      ⟨hs, hk, hk', hkp, hpp, hps, hts, rfl, rfl, a1, a2, a3⟩
    generalize hL : G.syms[n].level = L at *
    generalize hM : G.syms[p].level = M at *
    by_cases c0 : L = 0 ∨ M = 0
    · exact ⟨0, false, by rw [againstE, if_pos c0], .inl ⟨rfl, rfl⟩⟩
    · by_cases c1 : M < L
      · exact ⟨0, true, by rw [againstE, if_neg c0, if_pos c1], .inr (.inr (.inl ⟨rfl, rfl, k, p, L, M, hled true (by omega) (by omega) (by rw [if_pos rfl]; omega)⟩))⟩
      · by_cases c2 : L < M
        · exact ⟨1, true, by rw [againstE, if_neg c0, if_neg c1, if_pos c2], .inr (.inr (.inr ⟨rfl, rfl, k, p, L, M, hled false (by omega) (by omega) (by rw [if_neg (by decide)]; omega)⟩))⟩
        · have hac := hsy.2.1
          refine ⟨bindsE G.syms[n].assoc, true, by rw [againstE, if_neg c0, if_neg c1, if_neg c2], ?_⟩
          generalize G.syms[n].assoc = ac at *
          unfold bindsE
          by_cases d0 : ac = 0
          · exact .inr (.inl ⟨rfl, by rw [if_pos d0]⟩)
          · by_cases d1 : ac = 1
            · exact .inr (.inr (.inr ⟨rfl, by rw [if_neg d0, if_pos d1], k, p, L, M, hled false (by omega) (by omega) (by rw [if_neg (by decide)]; omega)⟩))
            · by_cases d2 : ac = 2
              · exact .inr (.inr (.inl ⟨rfl, by rw [if_neg d0, if_neg d1, if_pos d2], k, p, L, M, hled true (by omega) (by omega) (by rw [if_pos rfl]; omega)⟩))
              · exact .inr (.inl ⟨rfl, by rw [if_neg d0, if_neg d1, if_neg d2]⟩)

theorem turned (G : Gram) (t : Int) (a b : Ent) : Turned G t a b (pickE G t a b) (pickE G t b a) := by
  unfold pickE
  by_cases hC : rightG G = true ∧ 0 ≤ t ∧ t < G.terms ∧ mayE G.prods.length t [a, b] = true
  · have hC' : rightG G = true ∧ 0 ≤ t ∧ t < G.terms ∧ mayE G.prods.length t [b, a] = true := by rw [mayE_turn]; exact hC
    rw [if_pos hC, if_pos hC']
    obtain ⟨e1, e2, e3, e4⟩ := hC
    obtain ⟨oa, ob, o2⟩ := mayE_true e4
    obtain ⟨⟨_, _, hl, _, _, _⟩, _, _⟩ := rightG_parts e1
    have ka := (okE_iff _ _ a.kind a.to).1 oa
    have kb := (okE_iff _ _ b.kind b.to).1 ob
    obtain ⟨n, rfl⟩ : ∃ n : Nat, t = (n : Int) := ⟨t.toNat, by omega⟩
    by_cases a1 : a.kind = 1
    · have b2 : b.kind = 2 := by omega
      have b1 : ¬ b.kind = 1 := by omega
      have hne : ¬ a = b := fun h => by rw [h] at a1; exact b1 a1
      rw [if_pos a1, if_neg b1, if_pos a1]
      obtain ⟨u, f, hu, hh⟩ := met_led e1 n e3 a b a1 b2 ob
      unfold metE
      rw [hu]
      rcases hh with ⟨rfl, rfl⟩ | ⟨rfl, rfl⟩ | ⟨rfl, rfl, k, p, L, M, h⟩ | ⟨rfl, rfl, k, p, L, M, h⟩
      · exact .one hne (by omega) e3 (by omega) (.inl (by omega))
      · exact .both (.inl a1)
      · exact .led n k p L M true hne rfl e3 h
      · exact .led n k p L M false hne rfl e3 h
    · by_cases b1 : b.kind = 1
      · have a2 : a.kind = 2 := by omega
        have hne : ¬ a = b := fun h => by rw [← h] at b1; exact a1 b1
        rw [if_neg a1, if_pos b1, if_pos b1]
        obtain ⟨u, f, hu, hh⟩ := met_led e1 n e3 b a b1 a2 oa
        unfold metE
        rw [hu]
        rcases hh with ⟨rfl, rfl⟩ | ⟨rfl, rfl⟩ | ⟨rfl, rfl, k, p, L, M, h⟩ | ⟨rfl, rfl, k, p, L, M, h⟩
        · exact .two hne (by omega) e3 (by omega) (.inl (by omega))
        · exact .both (.inr b1)
        · exact .del n k p L M true hne rfl e3 h
        · exact .del n k p L M false hne rfl e3 h
      · rw [if_neg a1, if_neg b1, if_neg b1, if_neg a1]
        obtain ⟨ak, at_⟩ := a
        obtain ⟨bk, bt⟩ := b
        unfold firstE
        simp only at *
        by_cases a3 : ak = 3
        · have b2 : bk = 2 := by omega
          subst a3 b2
          exact .one (by simp) (by omega) e3 (by omega) (.inl (by simp))
        · have a2 : ak = 2 := by omega
          subst a2
          by_cases b3 : bk = 3
          · subst b3
            exact .two (by simp) (by omega) e3 (by omega) (.inl (by simp))
          · have b2 : bk = 2 := by omega
            subst b2
            by_cases c1 : at_ = bt
            · subst c1
              simp only [Int.le_refl, decide_true]
              exact .same rfl
            · by_cases c2 : at_ < bt
              · have c3 : ¬ bt ≤ at_ := by omega
                have c4 : at_ ≤ bt := by omega
                simp only [c3, c4, decide_true, decide_false]
                exact .one (by simp [c1]) (by omega) e3 (by omega) (.inr ⟨rfl, c2⟩)
              · have c3 : bt ≤ at_ := by omega
                have c4 : ¬ at_ ≤ bt := by omega
                simp only [c3, c4, decide_true, decide_false]
                exact .two (by simp [c1]) (by omega) e3 (by omega) (.inr ⟨rfl, by simp only; omega⟩)
  · have hC' : ¬ (rightG G = true ∧ 0 ≤ t ∧ t < G.terms ∧ mayE G.prods.length t [b, a] = true) := by rw [mayE_turn]; exact hC
    rw [if_neg hC, if_neg hC']
    exact .none
end Go.Proofs.Ytijdaihcogbliaa
