/-
  The document's answer on conflicts: levels, a shift against a production.
-/
import Derived.Test.YtijdaihcogbliaaClash5
import Derived.Test.YtijdaihcogbliaaRef14d
import Derived.Test.YtijdaihcogbliaaTurn1
namespace Go.Proofs.Ytijdaihcogbliaa
open Go.RowKit
set_option maxHeartbeats 400000

theorem level22_any (G : Gram) (s : Int) (v : Value) (w : World) (h : IsGram w v G) (hs : s < (G.syms.length : Int)) (ht : G.terms ≤ (G.syms.length : Int)) :
    Calls Try.prog 66 #[v, .int .i64 s] w fun e w' => e = .returned (.int .i64 (if s < 1 ∨ G.terms ≤ s then 0 else levelE G s)) ∧ Below w.heap.size w w' := by
  obtain ⟨hterms, vs, vp, rfl, hvs, hvp⟩ := h
  have hsy := hvs
  obtain ⟨_, sa, sc, rfl, hz1⟩ := hvs
  obtain ⟨_, pa, pc, rfl, hz2⟩ := hvp
  clear hz1 hz2
  obtain ⟨terms, syms, prods⟩ := G
  simp only at hsy hs ht
  simp only
  by_cases h1 : s < 1
  · have t1 : decide (s < 1) = true := by simp [h1]
    rw [if_pos (.inl h1)]
    clear hsy
    go_enter Try.func66, Try.ntmps66
    go_wp2
    go_ret
    exact ⟨rfl, (Below.refl _ _).alloc (Nat.le_refl _) _⟩
  · have t1 : decide (s < 1) = false := by simp [h1]
    by_cases h2 : terms ≤ s
    · have t2 : decide (terms ≤ s) = true := by simp [h2]
      rw [if_pos (.inr h2)]
      clear hsy
      go_enter Try.func66, Try.ntmps66
      go_wp2
      go_ret
      exact ⟨rfl, (Below.refl _ _).alloc (Nat.le_refl _) _⟩
    · have t2 : decide (terms ≤ s) = false := by simp [h2]
      rw [if_neg (by omega)]
      obtain ⟨k, rfl⟩ : ∃ k : Nat, s = (k : Int) := ⟨s.toNat, by omega⟩
      have hk : k < syms.length := by omega
      obtain ⟨g, o, rfl, ok, hc⟩ := hsy.get k hk
      have e : levelE ⟨terms, syms, prods⟩ (k : Int) = syms[k].level := by
        simp [levelE, List.getElem?_eq_getElem hk]
        omega
      rw [e]
      clear e
      have c2 := (Fr.alloc (ch := nothing) w (.cells #[.int .i64 terms, .slice (some ⟨g, o, none⟩) syms.length sc, .slice pa prods.length pc] 25 (0, 0))).cell (hc 2 (by simp [symCells])) fun e => e
      simp only [symCells, List.getElem_cons_zero, List.getElem_cons_succ] at c2
      generalize syms[k].level = x at *
      clear hc ok hsy
      go_enter Try.func66, Try.ntmps66
      go_wp2
      go_ret
      exact ⟨rfl, (Below.refl _ _).alloc (Nat.le_refl _) _⟩

def whoByte (u : Int) : Int := if u = 0 then 115 else if u = 1 then 114 else 0
def lev22 (G : Gram) (s : Int) : Int := if s < 1 ∨ G.terms ≤ s then 0 else levelE G s
theorem lev22_term {G : Gram} (h : rightG G = true) (t : Nat) (ht : (t : Int) < G.terms) : lev22 G t = levelE G t := by
  unfold lev22
  by_cases h0 : t = 0
  · subst h0
    obtain ⟨⟨_, _, hl, _, _, _⟩, _, _⟩ := rightG_parts h
    have hs : 0 < G.syms.length := by omega
    have := (right_sym h 0 hs).2.2.2.2 rfl
    rw [if_pos (.inl (by decide))]
    simp [levelE, List.getElem?_eq_getElem hs, this]
  · rw [if_neg (by omega)]
theorem lev22_prec {G : Gram} (h : rightG G = true) (k : Nat) (hk : k < G.prods.length) : lev22 G (precE G k) = levelE G (precE G k) := by
  have e : precE G k = G.prods[k].prec := by simp [precE, List.getElem?_eq_getElem hk]
  rw [e]
  unfold lev22
  rcases right_prod h k hk with h1 | ⟨h1, h2⟩
  · rw [h1]
    rfl
  · rw [if_neg (by omega)]

theorem againstE_eq (la ac : Int) (h : la ≠ 0) : againstE la la ac = (bindsE ac, true) := by
  rw [againstE, if_neg (fun e => e.elim h h), if_neg (Int.lt_irrefl _), if_neg (Int.lt_irrefl _)]
set_option maxRecDepth 100000 in
set_option maxHeartbeats 2000000 in
theorem shift22_any (G : Gram) (t k : Nat) (v : Value) (w : World) (h : IsGram w v G) (hr : rightG G = true) (ht : (t : Int) < G.terms) (hk : k < G.prods.length) :
    Calls Try.prog 38 #[v, .int .i64 t, .int .i64 k] w fun e w' =>
      e = .returned (.tuple #[.int .u8 (whoByte (againstE (levelE G t) (levelE G (precE G k)) (assocE G t)).1), .bool (againstE (levelE G t) (levelE G (precE G k)) (assocE G t)).2]) ∧ Below w.heap.size w w' := by
  obtain ⟨⟨_, _, hl, _, _, _⟩, _, _⟩ := rightG_parts hr
  have hts : t < G.syms.length := by omega
  have hpr := right_prod hr k hk
  have hsy := right_sym hr t hts
  have e1 := lev22_term hr t ht
  have e2 := lev22_prec hr k hk
  have e3 : precE G k = G.prods[k].prec := by simp [precE, List.getElem?_eq_getElem hk]
  have e4 : assocE G t = G.syms[t].assoc := by simp [assocE, List.getElem?_eq_getElem hts]
  have hg := h
  obtain ⟨hterms, vs, vp, rfl, hvs, hvp⟩ := h
  obtain ⟨_, b, c, rfl, hz1⟩ := id hvs
  obtain ⟨_, b', c', rfl, hz2⟩ := id hvp
  clear hz1 hz2
  obtain ⟨g, o, rfl, ok, hc⟩ := hvs.get t hts
  obtain ⟨g', o', ra, rc, rfl, hq, hqc⟩ := hvp.get k hk
  have hLt := fun (x : World) (hx : Fr nothing w x) => level22_any G t _ x (hg.fr hx) (by omega) (by omega)
  have hLp := fun (x : World) (hx : Fr nothing w x) => level22_any G G.prods[k].prec _ x (hg.fr hx) (by omega) (by omega)
  have c3 := hc 3 (by simp [symCells])
  have q2 := hqc 2 (by simp [prdCells])
  simp only [symCells, prdCells, List.getElem_cons_zero, List.getElem_cons_succ] at c3 q2
  unfold lev22 at e1 e2
  rw [e3] at e2
  rw [e1] at hLt
  rw [e2] at hLp
  rw [e3, e4]
  generalize levelE G t = la at *
  generalize levelE G G.prods[k].prec = lb at *
  have hac1 := ok.assoc.1
  have hac2 := hsy.2.1
  clear hsy hpr e1 e2 e3 e4 hq hg ok hr
  generalize G.syms[t].assoc = ac at *
  generalize G.prods[k].prec = pr at *
  have hw1 := alloc_obj w (.cells #[.int .i64 G.terms, .slice (some ⟨g, o, none⟩) G.syms.length c, .slice (some ⟨g', o', none⟩) G.prods.length c'] 25 (0, 0))
  obtain ⟨w1, e1⟩ : ∃ w1, w1 = w.alloc (.cells #[.int .i64 G.terms, .slice (some ⟨g, o, none⟩) G.syms.length c, .slice (some ⟨g', o', none⟩) G.prods.length c'] 25 (0, 0)) := ⟨_, rfl⟩
  rw [← e1] at hw1
  have hB1 : Below w.heap.size w w1 := by rw [e1]; exact (Below.refl _ w).alloc (Nat.le_refl _) _
  have HA := Lib.hid fun p : After w1 => after_call p (hLt p.w ((Fr.new hB1).trans (Fr.new p.ok)))
  have HB := Lib.hid fun p : After w1 => after_call p (hLp p.w ((Fr.new hB1).trans (Fr.new p.ok)))
  have m0 : ∀ p : After w1, p.w.cell? ⟨w.heap.size, 0, none⟩ = some (.int .i64 G.terms) := after_obj hw1 0 rfl
  have m1 : ∀ p : After w1, p.w.cell? ⟨w.heap.size, 1, none⟩ = some (.slice (some ⟨g, o, none⟩) G.syms.length c) := after_obj hw1 1 rfl
  have m2 : ∀ p : After w1, p.w.cell? ⟨w.heap.size, 2, none⟩ = some (.slice (some ⟨g', o', none⟩) G.prods.length c') := after_obj hw1 2 rfl
  have r2 := after_cell ((Fr.new hB1).cell q2 fun e => e)
  have r3 := after_cell ((Fr.new hB1).cell c3 fun e => e)
  have hne := after_ne w1
  have HW := Lib.hid e1
  have HBB := Lib.hid hB1
  clear hLt hLp hc hqc c3 q2 hw1 e1 hB1 hvs hvp
  generalize G.syms.length = ns at *
  generalize G.prods.length = np at *
  have hcase : (la = 0) ∨ (la ≠ 0 ∧ lb = 0) ∨ (la ≠ 0 ∧ lb ≠ 0 ∧ lb < la) ∨ (la ≠ 0 ∧ lb ≠ 0 ∧ la < lb) ∨ (la ≠ 0 ∧ lb ≠ 0 ∧ la = lb) := by omega
  have hac : ac = 0 ∨ ac = 1 ∨ ac = 2 ∨ ac = 3 := by omega
  clear hac1 hac2
  rcases hcase with rfl | ⟨a1, rfl⟩ | ⟨a1, a2, a3⟩ | ⟨a1, a2, a3⟩ | ⟨a1, a2, rfl⟩
  · clear hac
    go_enter Try.func38, Try.ntmps38
    go_wp2_with fail
    refine wp_region_after w1 (by kernel_rfl) (by kernel_rfl) (by rw [HW.out]; exact Below.refl _ _) ?_
    repeat (go_big_quiet_step (first | with_reducible exact HA.out _ | with_reducible exact HB.out _))
    refine wpQuiet_nil ?_
    intro _ hw'
    obtain ⟨p, hw''⟩ := hw'
    subst hw''
    have HE := Lib.hid (HBB.out.trans (p.ok.mono HBB.out.size))
    go_wp2
    go_ret2
    exact ⟨rfl, HE.out⟩
  · have t1 : (la == 0) = false := by simp [a1]
    clear hac
    go_enter Try.func38, Try.ntmps38
    go_wp2_with fail
    refine wp_region_after w1 (by kernel_rfl) (by kernel_rfl) (by rw [HW.out]; exact Below.refl _ _) ?_
    repeat (go_big_quiet_step (first | with_reducible exact HA.out _ | with_reducible exact HB.out _))
    refine wpQuiet_nil ?_
    intro _ hw'
    obtain ⟨p, hw''⟩ := hw'
    subst hw''
    have HE := Lib.hid (HBB.out.trans (p.ok.mono HBB.out.size))
    go_wp2
    go_ret2
    have e : againstE la 0 ac = (0, false) := by rw [againstE, if_pos (.inr rfl)]
    exact ⟨by rw [e]; rfl, HE.out⟩
  · have t1 : (la == 0) = false := by simp [a1]
    have t2 : (lb == 0) = false := by simp [a2]
    have t3 : (la == lb) = false := by simp; omega
    have t4 : (la != lb) = true := by rw [bne, t3]; rfl
    have t5 : decide (lb < la) = true := decide_eq_true a3
    clear hac
    go_enter Try.func38, Try.ntmps38
    go_wp2_with fail
    refine wp_region_after w1 (by kernel_rfl) (by kernel_rfl) (by rw [HW.out]; exact Below.refl _ _) ?_
    repeat (go_big_quiet_step (first | with_reducible exact HA.out _ | with_reducible exact HB.out _))
    refine wpQuiet_nil ?_
    intro _ hw'
    obtain ⟨p, hw''⟩ := hw'
    subst hw''
    have HE := Lib.hid (HBB.out.trans (p.ok.mono HBB.out.size))
    go_wp2
    go_ret2
    have e : againstE la lb ac = (0, true) := by rw [againstE, if_neg (fun h => h.elim a1 a2), if_pos a3]
    exact ⟨by rw [e]; rfl, HE.out⟩
  · have t1 : (la == 0) = false := by simp [a1]
    have t2 : (lb == 0) = false := by simp [a2]
    have t3 : (la == lb) = false := by simp; omega
    have t4 : (la != lb) = true := by rw [bne, t3]; rfl
    have t5 : decide (lb < la) = false := decide_eq_false (by omega)
    clear hac
    go_enter Try.func38, Try.ntmps38
    go_wp2_with fail
    refine wp_region_after w1 (by kernel_rfl) (by kernel_rfl) (by rw [HW.out]; exact Below.refl _ _) ?_
    repeat (go_big_quiet_step (first | with_reducible exact HA.out _ | with_reducible exact HB.out _))
    refine wpQuiet_nil ?_
    intro _ hw'
    obtain ⟨p, hw''⟩ := hw'
    subst hw''
    have HE := Lib.hid (HBB.out.trans (p.ok.mono HBB.out.size))
    go_wp2
    go_ret2
    have e : againstE la lb ac = (1, true) := by rw [againstE, if_neg (fun h => h.elim a1 a2), if_neg (by omega), if_pos a3]
    exact ⟨by rw [e]; rfl, HE.out⟩
  · have t1 : (la == 0) = false := by simp [a1]
    rcases hac with rfl | rfl | rfl | rfl
    all_goals
      go_enter Try.func38, Try.ntmps38
      go_wp2_with fail
      refine wp_region_after w1 (by kernel_rfl) (by kernel_rfl) (by rw [HW.out]; exact Below.refl _ _) ?_
      repeat (go_big_quiet_step (first | with_reducible exact HA.out _ | with_reducible exact HB.out _))
      refine wpQuiet_nil ?_
      intro _ hw'
      obtain ⟨p, hw''⟩ := hw'
      subst hw''
      have HE := Lib.hid (HBB.out.trans (p.ok.mono HBB.out.size))
      go_wp2
      go_ret2
      exact ⟨by rw [againstE_eq _ _ a1]; rfl, HE.out⟩
end Go.Proofs.Ytijdaihcogbliaa
