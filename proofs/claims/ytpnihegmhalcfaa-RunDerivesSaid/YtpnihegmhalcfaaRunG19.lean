/-
  The document's answer on conflicts: Pick, the walk.
-/
import Derived.Test.YtpnihegmhalcfaaRunG18
import Derived.Test.YtpnihegmhalcfaaRunG03
namespace Go.Proofs.Ytpnihegmhalcfaa
open Go.RowKit
set_option maxHeartbeats 400000

theorem who_met (G : Gram) (t k at_ : Int) (u : Int) (f : Bool) (h : againstE (levelE G t) (levelE G (precE G k)) (assocE G t) = (u, f)) : metE G t k at_ = (if u = 0 then at_ else if u = 1 then 1 - at_ else 2, f) := by
  unfold metE
  rw [h]
set_option maxRecDepth 100000 in
set_option maxHeartbeats 4000000 in
theorem pick22_any (G : Gram) (term : Int) (a b : Ent) (v : Value) (w : World) (h : IsGram w v G) :
    Calls Try.prog 60 #[v, .int .i64 term, entVal a, entVal b] w fun e w' =>
      e = .returned (.tuple #[.int .i64 (pickE G term a b).1, .bool (pickE G term a b).2]) ∧ Below w.heap.size w w' := by
  rw [← pick22_is]
  have hG := h
  obtain ⟨hterms, vs, vp, rfl, hs, hp⟩ := h
  obtain ⟨_, sa, sc, rfl, hz1⟩ := id hs
  obtain ⟨_, pa, pc, rfl, hz2⟩ := id hp
  clear hz1 hz2
  have hx := two_boxes w (.cells #[.int .i64 G.terms, .slice sa G.syms.length sc, .slice pa G.prods.length pc] 25 (0, 0)) (.cells #[.int .u8 a.kind, .int .i64 a.to] 81 (0, 0))
  have hs2 : ((w.alloc (.cells #[.int .i64 G.terms, .slice sa G.syms.length sc, .slice pa G.prods.length pc] 25 (0, 0))).alloc (.cells #[.int .u8 a.kind, .int .i64 a.to] 81 (0, 0))).heap.size = w.heap.size + 1 + 1 := by simp
  obtain ⟨w1, hw1⟩ : ∃ w1, w1 = ((w.alloc (.cells #[.int .i64 G.terms, .slice sa G.syms.length sc, .slice pa G.prods.length pc] 25 (0, 0))).alloc (.cells #[.int .u8 a.kind, .int .i64 a.to] 81 (0, 0))).alloc (.cells #[.int .u8 b.kind, .int .i64 b.to] 81 (0, 0)) := ⟨_, rfl⟩
  have hB1 : Below w.heap.size w w1 := by rw [hw1]; exact below_alloc hx.2.2
  have o0 := alloc_older (o := .cells #[.int .u8 b.kind, .int .i64 b.to] 81 (0, 0)) hx.1
  have o1 := alloc_older (o := .cells #[.int .u8 b.kind, .int .i64 b.to] 81 (0, 0)) hx.2.1
  have o2 := alloc_at (o := .cells #[.int .u8 b.kind, .int .i64 b.to] 81 (0, 0)) hs2
  rw [← hw1] at o0 o1 o2
  have g0 : ∀ p : After w1, p.w.cell? ⟨w.heap.size, 0, none⟩ = some (.int .i64 G.terms) := after_obj o0 0 rfl
  have g1 : ∀ p : After w1, p.w.cell? ⟨w.heap.size, 1, none⟩ = some (.slice sa G.syms.length sc) := after_obj o0 1 rfl
  have g2 : ∀ p : After w1, p.w.cell? ⟨w.heap.size, 2, none⟩ = some (.slice pa G.prods.length pc) := after_obj o0 2 rfl
  have k0 : ∀ p : After w1, p.w.cell? ⟨w.heap.size + 1, 0, none⟩ = some (.int .u8 a.kind) := after_obj o1 0 rfl
  have k1 : ∀ p : After w1, p.w.cell? ⟨w.heap.size + 1, 1, none⟩ = some (.int .i64 a.to) := after_obj o1 1 rfl
  have l0 : ∀ p : After w1, p.w.cell? ⟨w.heap.size + 1 + 1, 0, none⟩ = some (.int .u8 b.kind) := after_obj o2 0 rfl
  have l1 : ∀ p : After w1, p.w.cell? ⟨w.heap.size + 1 + 1, 1, none⟩ = some (.int .i64 b.to) := after_obj o2 1 rfl
  have z0 : w1.cell? ⟨w.heap.size, 0, none⟩ = some (.int .i64 G.terms) := obj_cell o0 0 rfl
  have z1 : w1.cell? ⟨w.heap.size, 1, none⟩ = some (.slice sa G.syms.length sc) := obj_cell o0 1 rfl
  have z2 : w1.cell? ⟨w.heap.size, 2, none⟩ = some (.slice pa G.prods.length pc) := obj_cell o0 2 rfl
  have HR := Lib.hid ((right14_gram G _ w1 (hG.fr (Fr.new hB1))).mono fun e w' hh => (show e = .returned (.bool (rightG G)) ∧ ∃ p : After w1, w' = p.w from ⟨hh.1, ⟨w', hh.2⟩, rfl⟩))
  have HRA := Lib.hid fun p : After w1 => after_call p (reduce22_any G.terms (.slice sa G.syms.length sc) pa G.prods.length pc a p.w)
  have HRB := Lib.hid fun p : After w1 => after_call p (reduce22_any G.terms (.slice sa G.syms.length sc) pa G.prods.length pc b p.w)
  have HG := Lib.hid (hG.fr (Fr.new hB1))
  have HW := Lib.hid hw1
  have HB := Lib.hid hB1
  have hne := after_ne w1
  unfold entVal
  clear hw1 hx hs2 o0 o1 o2 hB1 hG hs hp
  obtain ⟨ak, av⟩ := a
  obtain ⟨bk, bv⟩ := b
  simp only at k0 k1 l0 l1 HRA HRB HW
  by_cases hC : rightG G = true ∧ 0 ≤ term ∧ term < G.terms
  · obtain ⟨e1, e2, e3⟩ := hC
    have HSH := Lib.hid fun (k : Nat) (hk : k < G.prods.length) (p : After w1) => after_call p (shift22_any G term.toNat k _ p.w (HG.out.fr (Fr.new p.ok)) e1 (by omega) hk)
    rw [e1] at HR
    have c1 : decide (term < 0) = false := decide_eq_false (by omega)
    have c2 : decide (G.terms ≤ term) = false := decide_eq_false (by omega)
    by_cases ha : isRed G.prods.length ⟨ak, av⟩
    · rw [decide_eq_true ha] at HRA
      by_cases hb : isRed G.prods.length ⟨bk, bv⟩
      · rw [decide_eq_true hb] at HRB
        by_cases hc : bv < av
        · have t1 : decide (bv < av) = true := decide_eq_true hc
          have HV := Lib.hid (show pick22 G term ⟨ak, av⟩ ⟨bk, bv⟩ = (1, false) by rw [pick22, if_pos ⟨e1, e2, e3⟩, if_pos ha, if_pos hb, if_pos hc])
          clear HSH HG e1 e2 e3
          go_enter Try.func60, Try.ntmps60
          go_upto_region 1 with fail
          rw [← HW.out]
          go_upto_region 3 with (go_at_call 48; refine HR.out.mono ?_; rintro e w' ⟨rfl, p, rfl⟩)
          refine wp_region_after w1 (by kernel_rfl) (by kernel_rfl) p.ok ?_
          repeat (go_big_quiet_step (first | with_reducible exact HRA.out _ | with_reducible exact HRB.out _))
          refine wpQuiet_nil ?_
          intro _ hw'
          obtain ⟨q, hw''⟩ := hw'
          subst hw''
          go_wp2
          all_goals first
            | (exfalso; omega)
            | (go_ret2
               exact ⟨by rw [HV.out]; rfl, HB.out.trans (q.ok.mono HB.out.size)⟩)
        · have t1 : decide (bv < av) = false := decide_eq_false hc
          have HV := Lib.hid (show pick22 G term ⟨ak, av⟩ ⟨bk, bv⟩ = (0, false) by rw [pick22, if_pos ⟨e1, e2, e3⟩, if_pos ha, if_pos hb, if_neg hc])
          clear HSH HG e1 e2 e3
          go_enter Try.func60, Try.ntmps60
          go_upto_region 1 with fail
          rw [← HW.out]
          go_upto_region 3 with (go_at_call 48; refine HR.out.mono ?_; rintro e w' ⟨rfl, p, rfl⟩)
          refine wp_region_after w1 (by kernel_rfl) (by kernel_rfl) p.ok ?_
          repeat (go_big_quiet_step (first | with_reducible exact HRA.out _ | with_reducible exact HRB.out _))
          refine wpQuiet_nil ?_
          intro _ hw'
          obtain ⟨q, hw''⟩ := hw'
          subst hw''
          go_wp2
          all_goals first
            | (exfalso; omega)
            | (go_ret2
               exact ⟨by rw [HV.out]; rfl, HB.out.trans (q.ok.mono HB.out.size)⟩)
      · rw [decide_eq_false hb] at HRB
        by_cases hc : bk = 3 ∧ bv = 0 ∧ term = 0
        · have HV := Lib.hid (show pick22 G term ⟨ak, av⟩ ⟨bk, bv⟩ = (1, false) by rw [pick22, if_pos ⟨e1, e2, e3⟩, if_pos ha, if_neg hb, if_pos hc])
          obtain ⟨rfl, rfl, rfl⟩ := hc
          clear HSH HG e1 e2 e3
          go_enter Try.func60, Try.ntmps60
          go_upto_region 1 with fail
          rw [← HW.out]
          go_upto_region 3 with (go_at_call 48; refine HR.out.mono ?_; rintro e w' ⟨rfl, p, rfl⟩)
          refine wp_region_after w1 (by kernel_rfl) (by kernel_rfl) p.ok ?_
          repeat (go_big_quiet_step (first | with_reducible exact HRA.out _ | with_reducible exact HRB.out _))
          refine wpQuiet_nil ?_
          intro _ hw'
          obtain ⟨q, hw''⟩ := hw'
          subst hw''
          go_wp2
          all_goals first
            | (exfalso; omega)
            | (go_ret2
               exact ⟨by rw [HV.out]; rfl, HB.out.trans (q.ok.mono HB.out.size)⟩)
        · by_cases hd : bk = 1 ∧ 0 ≤ bv ∧ 0 < term
          · obtain ⟨rfl, hd1, hd2⟩ := hd
            obtain ⟨k, rfl⟩ : ∃ k : Nat, av = (k : Int) := ⟨av.toNat, by simp only [isRed] at ha; omega⟩
            have hkp : k < G.prods.length := by simp only [isRed] at ha; omega
            obtain ⟨t, rfl⟩ : ∃ t : Nat, term = (t : Int) := ⟨term.toNat, by omega⟩
            have hs1 := HSH.out k hkp
            simp only [Int.toNat_natCast] at hs1
            have hv : pick22 G t ⟨ak, (k : Int)⟩ ⟨1, bv⟩ = metE G t k 1 := by rw [pick22, if_pos ⟨e1, e2, e3⟩, if_pos ha, if_neg hb, if_neg hc, if_pos ⟨rfl, hd1, hd2⟩]
            rw [metE] at hv
            generalize againstE (levelE G t) (levelE G (precE G k)) (assocE G t) = x at *
            obtain ⟨u, f⟩ := x
            obtain ⟨wb, hwb⟩ : ∃ wb, whoByte u = wb := ⟨_, rfl⟩
            simp only [hwb] at hs1
            have hw3 : (u = 0 ∧ wb = 115) ∨ (u = 1 ∧ wb = 114) ∨ (u ≠ 0 ∧ u ≠ 1 ∧ wb = 0) := by
              unfold whoByte at hwb
              by_cases u0 : u = 0
              · rw [if_pos u0] at hwb
                exact .inl ⟨u0, hwb.symm⟩
              · rw [if_neg u0] at hwb
                by_cases u1 : u = 1
                · rw [if_pos u1] at hwb
                  exact .inr (.inl ⟨u1, hwb.symm⟩)
                · rw [if_neg u1] at hwb
                  exact .inr (.inr ⟨u0, u1, hwb.symm⟩)
            have HS1 := Lib.hid hs1
            have HV := Lib.hid hv
            clear hs1 hv hwb HSH HG e1 e2 e3
            rcases hw3 with ⟨rfl, rfl⟩ | ⟨rfl, rfl⟩ | ⟨u0, u1, rfl⟩
            all_goals
              go_enter Try.func60, Try.ntmps60
              go_upto_region 1 with fail
              rw [← HW.out]
              go_upto_region 3 with (go_at_call 48; refine HR.out.mono ?_; rintro e w' ⟨rfl, p, rfl⟩)
              refine wp_region_after w1 (by kernel_rfl) (by kernel_rfl) p.ok ?_
              repeat (go_big_quiet_step (first | with_reducible exact HRA.out _ | with_reducible exact HRB.out _))
              refine wpQuiet_nil ?_
              intro _ hw'
              obtain ⟨q, hw''⟩ := hw'
              subst hw''
              go_wp2_with (go_at_call 95; refine (HS1.out _).mono ?_; rintro e w' ⟨rfl, q2, rfl⟩)
              all_goals first
                | (exfalso; omega)
                | (go_ret2
                   exact ⟨by rw [HV.out]; first | rfl | (simp only [if_neg u0, if_neg u1]; rfl), HB.out.trans (q2.ok.mono HB.out.size)⟩)
          · have HV := Lib.hid (show pick22 G term ⟨ak, av⟩ ⟨bk, bv⟩ = (2, false) by rw [pick22, if_pos ⟨e1, e2, e3⟩, if_pos ha, if_neg hb, if_neg hc, if_neg hd])
            clear HSH HG e1 e2 e3
            obtain ⟨X1, x1⟩ : ∃ y, (bk == 3) = y := ⟨_, rfl⟩
            obtain ⟨X2, x2⟩ : ∃ y, (bv == 0) = y := ⟨_, rfl⟩
            obtain ⟨X3, x3⟩ : ∃ y, (term == 0) = y := ⟨_, rfl⟩
            obtain ⟨X4, x4⟩ : ∃ y, (bk == 1) = y := ⟨_, rfl⟩
            obtain ⟨X5, x5⟩ : ∃ y, decide (0 ≤ bv) = y := ⟨_, rfl⟩
            obtain ⟨X6, x6⟩ : ∃ y, decide (0 < term) = y := ⟨_, rfl⟩
            have w1' : X1 = false ∨ X1 = true ∧ X2 = false ∨ X1 = true ∧ X2 = true ∧ X3 = false := by
              rw [← x1, ← x2, ← x3]
              simp only [beq_eq_false_iff_ne, beq_iff_eq, ne_eq]
              omega
            have w2' : X4 = false ∨ X4 = true ∧ X5 = false ∨ X4 = true ∧ X5 = true ∧ X6 = false := by
              rw [← x4, ← x5, ← x6]
              simp only [beq_eq_false_iff_ne, beq_iff_eq, ne_eq, decide_eq_true_eq, decide_eq_false_iff_not]
              omega
            clear hc hd
            rcases w1' with rfl | ⟨rfl, rfl⟩ | ⟨rfl, rfl, rfl⟩
            all_goals rcases w2' with rfl | ⟨rfl, rfl⟩ | ⟨rfl, rfl, rfl⟩
            all_goals
              go_enter Try.func60, Try.ntmps60
              go_upto_region 1 with fail
              rw [← HW.out]
              go_upto_region 3 with (go_at_call 48; refine HR.out.mono ?_; rintro e w' ⟨rfl, p, rfl⟩)
              refine wp_region_after w1 (by kernel_rfl) (by kernel_rfl) p.ok ?_
              repeat (go_big_quiet_step (first | with_reducible exact HRA.out _ | with_reducible exact HRB.out _))
              refine wpQuiet_nil ?_
              intro _ hw'
              obtain ⟨q, hw''⟩ := hw'
              subst hw''
              go_wp2
              all_goals first
                | (exfalso; omega)
                | (go_ret2
                   exact ⟨by rw [HV.out]; rfl, HB.out.trans (q.ok.mono HB.out.size)⟩)
    · rw [decide_eq_false ha] at HRA
      by_cases hb : isRed G.prods.length ⟨bk, bv⟩
      · rw [decide_eq_true hb] at HRB
        by_cases hc : ak = 3 ∧ av = 0 ∧ term = 0
        · have HV := Lib.hid (show pick22 G term ⟨ak, av⟩ ⟨bk, bv⟩ = (0, false) by rw [pick22, if_pos ⟨e1, e2, e3⟩, if_neg ha, if_pos hb, if_pos hc])
          obtain ⟨rfl, rfl, rfl⟩ := hc
          clear HSH HG e1 e2 e3
          go_enter Try.func60, Try.ntmps60
          go_upto_region 1 with fail
          rw [← HW.out]
          go_upto_region 3 with (go_at_call 48; refine HR.out.mono ?_; rintro e w' ⟨rfl, p, rfl⟩)
          refine wp_region_after w1 (by kernel_rfl) (by kernel_rfl) p.ok ?_
          repeat (go_big_quiet_step (first | with_reducible exact HRA.out _ | with_reducible exact HRB.out _))
          refine wpQuiet_nil ?_
          intro _ hw'
          obtain ⟨q, hw''⟩ := hw'
          subst hw''
          go_wp2
          all_goals first
            | (exfalso; omega)
            | (go_ret2
               exact ⟨by rw [HV.out]; rfl, HB.out.trans (q.ok.mono HB.out.size)⟩)
        · by_cases hd : ak = 1 ∧ 0 ≤ av ∧ 0 < term
          · obtain ⟨rfl, hd1, hd2⟩ := hd
            obtain ⟨k, rfl⟩ : ∃ k : Nat, bv = (k : Int) := ⟨bv.toNat, by simp only [isRed] at hb; omega⟩
            have hkp : k < G.prods.length := by simp only [isRed] at hb; omega
            obtain ⟨t, rfl⟩ : ∃ t : Nat, term = (t : Int) := ⟨term.toNat, by omega⟩
            have hs1 := HSH.out k hkp
            simp only [Int.toNat_natCast] at hs1
            have hv : pick22 G t ⟨1, av⟩ ⟨bk, (k : Int)⟩ = metE G t k 0 := by rw [pick22, if_pos ⟨e1, e2, e3⟩, if_neg ha, if_pos hb, if_neg hc, if_pos ⟨rfl, hd1, hd2⟩]
            rw [metE] at hv
            generalize againstE (levelE G t) (levelE G (precE G k)) (assocE G t) = x at *
            obtain ⟨u, f⟩ := x
            obtain ⟨wb, hwb⟩ : ∃ wb, whoByte u = wb := ⟨_, rfl⟩
            simp only [hwb] at hs1
            have hw3 : (u = 0 ∧ wb = 115) ∨ (u = 1 ∧ wb = 114) ∨ (u ≠ 0 ∧ u ≠ 1 ∧ wb = 0) := by
              unfold whoByte at hwb
              by_cases u0 : u = 0
              · rw [if_pos u0] at hwb
                exact .inl ⟨u0, hwb.symm⟩
              · rw [if_neg u0] at hwb
                by_cases u1 : u = 1
                · rw [if_pos u1] at hwb
                  exact .inr (.inl ⟨u1, hwb.symm⟩)
                · rw [if_neg u1] at hwb
                  exact .inr (.inr ⟨u0, u1, hwb.symm⟩)
            have HS1 := Lib.hid hs1
            have HV := Lib.hid hv
            clear hs1 hv hwb HSH HG e1 e2 e3
            rcases hw3 with ⟨rfl, rfl⟩ | ⟨rfl, rfl⟩ | ⟨u0, u1, rfl⟩
            all_goals
              go_enter Try.func60, Try.ntmps60
              go_upto_region 1 with fail
              rw [← HW.out]
              go_upto_region 3 with (go_at_call 48; refine HR.out.mono ?_; rintro e w' ⟨rfl, p, rfl⟩)
              refine wp_region_after w1 (by kernel_rfl) (by kernel_rfl) p.ok ?_
              repeat (go_big_quiet_step (first | with_reducible exact HRA.out _ | with_reducible exact HRB.out _))
              refine wpQuiet_nil ?_
              intro _ hw'
              obtain ⟨q, hw''⟩ := hw'
              subst hw''
              go_wp2_with (go_at_call 95; refine (HS1.out _).mono ?_; rintro e w' ⟨rfl, q2, rfl⟩)
              all_goals first
                | (exfalso; omega)
                | (go_ret2
                   exact ⟨by rw [HV.out]; first | rfl | (simp only [if_neg u0, if_neg u1]; rfl), HB.out.trans (q2.ok.mono HB.out.size)⟩)
          · have HV := Lib.hid (show pick22 G term ⟨ak, av⟩ ⟨bk, bv⟩ = (2, false) by rw [pick22, if_pos ⟨e1, e2, e3⟩, if_neg ha, if_pos hb, if_neg hc, if_neg hd])
            clear HSH HG e1 e2 e3
            obtain ⟨X1, x1⟩ : ∃ y, (ak == 3) = y := ⟨_, rfl⟩
            obtain ⟨X2, x2⟩ : ∃ y, (av == 0) = y := ⟨_, rfl⟩
            obtain ⟨X3, x3⟩ : ∃ y, (term == 0) = y := ⟨_, rfl⟩
            obtain ⟨X4, x4⟩ : ∃ y, (ak == 1) = y := ⟨_, rfl⟩
            obtain ⟨X5, x5⟩ : ∃ y, decide (0 ≤ av) = y := ⟨_, rfl⟩
            obtain ⟨X6, x6⟩ : ∃ y, decide (0 < term) = y := ⟨_, rfl⟩
            have w1' : X1 = false ∨ X1 = true ∧ X2 = false ∨ X1 = true ∧ X2 = true ∧ X3 = false := by
              rw [← x1, ← x2, ← x3]
              simp only [beq_eq_false_iff_ne, beq_iff_eq, ne_eq]
              omega
            have w2' : X4 = false ∨ X4 = true ∧ X5 = false ∨ X4 = true ∧ X5 = true ∧ X6 = false := by
              rw [← x4, ← x5, ← x6]
              simp only [beq_eq_false_iff_ne, beq_iff_eq, ne_eq, decide_eq_true_eq, decide_eq_false_iff_not]
              omega
            clear hc hd
            rcases w1' with rfl | ⟨rfl, rfl⟩ | ⟨rfl, rfl, rfl⟩
            all_goals rcases w2' with rfl | ⟨rfl, rfl⟩ | ⟨rfl, rfl, rfl⟩
            all_goals
              go_enter Try.func60, Try.ntmps60
              go_upto_region 1 with fail
              rw [← HW.out]
              go_upto_region 3 with (go_at_call 48; refine HR.out.mono ?_; rintro e w' ⟨rfl, p, rfl⟩)
              refine wp_region_after w1 (by kernel_rfl) (by kernel_rfl) p.ok ?_
              repeat (go_big_quiet_step (first | with_reducible exact HRA.out _ | with_reducible exact HRB.out _))
              refine wpQuiet_nil ?_
              intro _ hw'
              obtain ⟨q, hw''⟩ := hw'
              subst hw''
              go_wp2
              all_goals first
                | (exfalso; omega)
                | (go_ret2
                   exact ⟨by rw [HV.out]; rfl, HB.out.trans (q.ok.mono HB.out.size)⟩)
      · rw [decide_eq_false hb] at HRB
        have HV := Lib.hid (show pick22 G term ⟨ak, av⟩ ⟨bk, bv⟩ = (2, false) by rw [pick22, if_pos ⟨e1, e2, e3⟩, if_neg ha, if_neg hb])
        clear HSH HG e1 e2 e3
        go_enter Try.func60, Try.ntmps60
        go_upto_region 1 with fail
        rw [← HW.out]
        go_upto_region 3 with (go_at_call 48; refine HR.out.mono ?_; rintro e w' ⟨rfl, p, rfl⟩)
        refine wp_region_after w1 (by kernel_rfl) (by kernel_rfl) p.ok ?_
        repeat (go_big_quiet_step (first | with_reducible exact HRA.out _ | with_reducible exact HRB.out _))
        refine wpQuiet_nil ?_
        intro _ hw'
        obtain ⟨q, hw''⟩ := hw'
        subst hw''
        go_wp2
        all_goals first
          | (exfalso; omega)
          | (go_ret2
             exact ⟨by rw [HV.out]; rfl, HB.out.trans (q.ok.mono HB.out.size)⟩)
  · have hP : pick22 G term ⟨ak, av⟩ ⟨bk, bv⟩ = (2, false) := by rw [pick22, if_neg hC]
    have hcs : rightG G = false ∨ (rightG G = true ∧ decide (term < 0) = true) ∨ (rightG G = true ∧ decide (term < 0) = false ∧ decide (G.terms ≤ term) = true) := by
      cases e1 : rightG G
      · exact .inl rfl
      · by_cases e2 : term < 0
        · exact .inr (.inl ⟨rfl, by simp [e2]⟩)
        · by_cases e3 : G.terms ≤ term
          · exact .inr (.inr ⟨rfl, by simp [e2], by simp [e3]⟩)
          · exact absurd ⟨e1, by omega, by omega⟩ hC
    have HP := Lib.hid hP
    clear hP hC HRA HRB HG
    generalize rightG G = R at *
    rcases hcs with rfl | ⟨rfl, c1⟩ | ⟨rfl, c1, c2⟩
    all_goals
      go_enter Try.func60, Try.ntmps60
      go_upto_region 1 with fail
      rw [← HW.out]
      go_wp2_with (go_at_call 48; refine HR.out.mono ?_; rintro e w' ⟨rfl, p, rfl⟩)
      go_ret2
      exact ⟨by rw [HP.out]; rfl, HB.out.trans (p.ok.mono HB.out.size)⟩
end Go.Proofs.Ytpnihegmhalcfaa
