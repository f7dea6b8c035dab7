/-
  The other way round the same one wins: the law's walk.
-/
import Derived.Test.YtijdaihcogbliaaTurn1
import Derived.Test.YtijdaihcogbliaaParts
import Derived.Test.YtijdaihcogbliaaClash7
namespace Go.Proofs.Ytijdaihcogbliaa
open Go.RowKit Go.MapKept Go.ChangeMaps
set_option maxHeartbeats 400000

theorem struct_eq_false {a b : Ent} (h : ¬ a = b) : ¬ (a.kind = b.kind ∧ a.to = b.to) := fun ⟨h1, h2⟩ => h (by cases a; cases b; simp only at h1 h2; rw [h1, h2])
theorem wp_world {P : Program} {c : Code} {Q : Exit → Act → World → Prop} {a : Act} {w : World} (F : World → Prop) (hF : F w) (h : ∀ W, F W → c.wp P Q a W) : c.wp P Q a w := h w hF
set_option maxRecDepth 100000 in
set_option maxHeartbeats 4000000 in
theorem turned_any (G : Gram) (term : Int) (a b : Ent) (v : Value) (w : World) (h : IsGram w v G) (hf : Fits G) (ha : EntOk a) (hb : EntOk b) :
    Calls Try.prog 5 #[v, .int .i64 term, entVal a, entVal b] w fun e w' => e = .returned (.bool true) ∧ Below w.heap.size w w' := by
  have hG := h
  obtain ⟨hterms, vs, vp, rfl, hs, hp⟩ := h
  obtain ⟨_, sa, sc, rfl, _, _, hsx⟩ := id hs
  obtain ⟨_, pa, pc, rfl, _, _, hpx⟩ := id hp
  have hx := two_boxes w (.cells #[.int .i64 G.terms, .slice sa G.syms.length sc, .slice pa G.prods.length pc] 25 (0, 0)) (.cells #[.int .u8 a.kind, .int .i64 a.to] 28 (0, 0))
  have hs2 : ((w.alloc (.cells #[.int .i64 G.terms, .slice sa G.syms.length sc, .slice pa G.prods.length pc] 25 (0, 0))).alloc (.cells #[.int .u8 a.kind, .int .i64 a.to] 28 (0, 0))).heap.size = w.heap.size + 1 + 1 := by simp
  obtain ⟨w1, hw1⟩ : ∃ w1, w1 = ((w.alloc (.cells #[.int .i64 G.terms, .slice sa G.syms.length sc, .slice pa G.prods.length pc] 25 (0, 0))).alloc (.cells #[.int .u8 a.kind, .int .i64 a.to] 28 (0, 0))).alloc (.cells #[.int .u8 b.kind, .int .i64 b.to] 28 (0, 0)) := ⟨_, rfl⟩
  have hB1 : Below w.heap.size w w1 := by rw [hw1]; exact below_alloc hx.2.2
  have o0 := alloc_older (o := .cells #[.int .u8 b.kind, .int .i64 b.to] 28 (0, 0)) hx.1
  have o1 := alloc_older (o := .cells #[.int .u8 b.kind, .int .i64 b.to] 28 (0, 0)) hx.2.1
  have o2 := alloc_at (o := .cells #[.int .u8 b.kind, .int .i64 b.to] 28 (0, 0)) hs2
  rw [← hw1] at o0 o1 o2
  have g0 : ∀ p : After w1, p.w.cell? ⟨w.heap.size, 0, none⟩ = some (.int .i64 G.terms) := after_obj o0 0 rfl
  have g1 : ∀ p : After w1, p.w.cell? ⟨w.heap.size, 1, none⟩ = some (.slice sa G.syms.length sc) := after_obj o0 1 rfl
  have g2 : ∀ p : After w1, p.w.cell? ⟨w.heap.size, 2, none⟩ = some (.slice pa G.prods.length pc) := after_obj o0 2 rfl
  have k0 : ∀ p : After w1, p.w.cell? ⟨w.heap.size + 1, 0, none⟩ = some (.int .u8 a.kind) := after_obj o1 0 rfl
  have k1 : ∀ p : After w1, p.w.cell? ⟨w.heap.size + 1, 1, none⟩ = some (.int .i64 a.to) := after_obj o1 1 rfl
  have l0 : ∀ p : After w1, p.w.cell? ⟨w.heap.size + 1 + 1, 0, none⟩ = some (.int .u8 b.kind) := after_obj o2 0 rfl
  have l1 : ∀ p : After w1, p.w.cell? ⟨w.heap.size + 1 + 1, 1, none⟩ = some (.int .i64 b.to) := after_obj o2 1 rfl
  have HA := Lib.hid ((awake_any w1).mono fun e w' hh => (show e = .returned (.bool true) ∧ ∃ p : After w1, w' = p.w from ⟨hh.1, ⟨w', hh.2⟩, rfl⟩))
  have HN := Lib.hid fun p : After w1 => after_call p (grammarOf_any G 2000 _ p.w ((hG.fr (Fr.new hB1)).fr (Fr.new p.ok)) hf (by decide))
  have hp1 := fun p : After w1 => after_call p (pick_any G term a b _ p.w ((hG.fr (Fr.new hB1)).fr (Fr.new p.ok)) ha hb)
  have hp2 := fun p : After w1 => after_call p (pick_any G term b a _ p.w ((hG.fr (Fr.new hB1)).fr (Fr.new p.ok)) hb ha)
  have ht := turned G term a b
  unfold entVal at hp1 hp2
  unfold entVal
  generalize pickE G term a b = x at *
  generalize pickE G term b a = y at *
  have HP1 := Lib.hid hp1
  have HP2 := Lib.hid hp2
  have HW := Lib.hid hw1
  have HB := Lib.hid hB1
  have HT := Lib.hid ht
  have HS := Lib.hid hs
  have HPR := Lib.hid hp
  clear hw1 hx hs2 o0 o1 o2 hp1 hp2 hB1 hG hs hp ht hsx hpx
  go_enter Try.func5, Try.ntmps5
  go_upto_region 1 with fail
  rw [← HW.out]
  go_upto_region 3 with (go_at_call 10; refine HA.out.mono ?_; rintro e w' ⟨rfl, p, rfl⟩)
  by_cases hmost : partsG G 2000 ≤ 2000
  · have hm1 : decide (2000 < partsG G 2000) = false := decide_eq_false (by omega)
    generalize partsG G 2000 = n at *
    go_upto_region 7 with (first | (go_at_call 9; refine (HN.out _).mono ?_; rintro e w' ⟨rfl, p1, rfl⟩) | (go_at_call 12; with_reducible refine (HP1.out _).mono ?_; rintro e w' ⟨rfl, p2, rfl⟩) | (go_at_call 12; with_reducible refine (HP2.out _).mono ?_; rintro e w' ⟨rfl, p3, rfl⟩))
    have hE := HB.out.trans (p3.ok.mono HB.out.size)
    have HE3 := Lib.hid (hE.mono (Nat.le_refl _))
    have HE := Lib.hid hE
    have ht := HT.out
    have K0 := k0 p3
    have K1 := k1 p3
    have L0 := l0 p3
    have L1 := l1 p3
    have G0 := g0 p3
    have G1 := g1 p3
    have G2 := g2 p3
    have D0 := fun o1 o2 => after_alloc2 k0 p3 o1 o2
    have D1 := fun o1 o2 => after_alloc2 k1 p3 o1 o2
    have E0 := fun o1 o2 => after_alloc2 l0 p3 o1 o2
    have E1 := fun o1 o2 => after_alloc2 l1 p3 o1 o2
    clear HA HN HP1 HP2 HT hE k0 k1 l0 l1 g0 g1 g2 hm1 hmost
    obtain ⟨ak, av⟩ := a
    obtain ⟨bk, bv⟩ := b
    simp only at K0 K1 L0 L1 D0 D1 E0 E1
    cases ht
    case none =>
      go_wp2
      go_ret
      exact ⟨rfl, HE.out⟩
    case both h =>
      simp only at h
      rcases h with rfl | rfl
      all_goals
        go_wp2
        all_goals
          go_ret
          exact ⟨rfl, HE.out⟩
    case same h =>
      simp only [Ent.mk.injEq] at h
      obtain ⟨rfl, rfl⟩ := h
      go_wp2
      go_ret
      exact ⟨rfl, HE.out⟩
    case one hn h0 h1 h2 hw =>
      have c0 : decide (term < 0) = false := decide_eq_false (by omega)
      have c1 : decide (G.terms ≤ term) = false := decide_eq_false (by omega)
      have c2 : decide ((G.syms.length : Int) ≤ term) = false := decide_eq_false (by omega)
      simp only [Ent.mk.injEq] at hn
      simp only at hw
      go_wp2
      all_goals
        go_ret
        refine ⟨congrArg (fun t => Ending.returned (Value.bool t)) (by first | rfl | (simp; done) | (simp; omega) | (exfalso; omega)), by repeat (first | exact HE.out | refine below_alloc ?_)⟩
    case two hn h0 h1 h2 hw =>
      have c0 : decide (term < 0) = false := decide_eq_false (by omega)
      have c1 : decide (G.terms ≤ term) = false := decide_eq_false (by omega)
      have c2 : decide ((G.syms.length : Int) ≤ term) = false := decide_eq_false (by omega)
      simp only [Ent.mk.injEq] at hn
      simp only at hw
      go_wp2
      all_goals
        go_ret
        refine ⟨congrArg (fun t => Ending.returned (Value.bool t)) (by first | rfl | (simp; done) | (simp; omega) | (exfalso; omega)), by repeat (first | exact HE.out | refine below_alloc ?_)⟩
    case led t k p L M f hn ht h1 hl =>
      obtain ⟨rfl, rfl, rfl, kp, pr, ps, ts, lt, lp, l0, m0, win⟩ := hl
      subst ht
      have c0 : decide ((t : Int) < 0) = false := decide_eq_false (by omega)
      have c1 : decide (G.terms ≤ (t : Int)) = false := decide_eq_false (by omega)
      have c2 : decide (G.syms.length ≤ t) = false := decide_eq_false (by omega)
      obtain ⟨gb, go_, rfl, q1, q2⟩ : ∃ gb go_, sa = some ⟨gb, go_, none⟩ ∧ p3.w.cell? ⟨gb, go_ + t * 4 + 2, none⟩ = some (.int .i64 L) ∧ p3.w.cell? ⟨gb, go_ + p * 4 + 2, none⟩ = some (.int .i64 M) := by
        obtain ⟨gb, go_, rfl, _, hc1⟩ := HS.out.get t ts
        obtain ⟨gb', go', heq, _, hc2⟩ := HS.out.get p ps
        simp only [Option.some.injEq, Addr.mk.injEq, and_true] at heq
        obtain ⟨rfl, rfl⟩ := heq
        have d1 := hc1 2 (by simp [symCells])
        have d2 := hc2 2 (by simp [symCells])
        simp only [symCells, List.getElem_cons_zero, List.getElem_cons_succ] at d1 d2
        rw [lt] at d1
        rw [lp] at d2
        exact ⟨gb, go_, rfl, (Fr.new HE3.out).cell d1 fun e => e, (Fr.new HE3.out).cell d2 fun e => e⟩
      obtain ⟨pb, po, rfl, q3⟩ : ∃ pb po, pa = some ⟨pb, po, none⟩ ∧ p3.w.cell? ⟨pb, po + k * 6 + 2, none⟩ = some (.int .i64 p) := by
        obtain ⟨pb, po, _, _, rfl, _, hc1⟩ := HPR.out.get k kp
        have d1 := hc1 2 (by simp [prdCells])
        simp only [prdCells, List.getElem_cons_zero, List.getElem_cons_succ] at d1
        rw [pr] at d1
        exact ⟨pb, po, rfl, (Fr.new HE3.out).cell d1 fun e => e⟩
      have c3 : decide ((k : Int) < 0) = false := decide_eq_false (by omega)
      have c4 : decide (G.prods.length ≤ k) = false := decide_eq_false (by omega)
      have c5 : decide ((p : Int) < 0) = false := decide_eq_false (by omega)
      have c6 : decide (G.syms.length ≤ p) = false := decide_eq_false (by omega)
      have c7 : decide (0 < L) = true := decide_eq_true l0
      have c8 : decide (0 < M) = true := decide_eq_true m0
      clear pr lt lp hn h1 l0 m0
      generalize G.syms.length = ns at *
      generalize G.prods.length = np at *
      cases f
      · have c9 : decide (L ≤ M) = true := decide_eq_true (by simpa using win)
        clear win
        go_upto_region 22 with fail
        refine wp_world (F := fun W => (W.cell? ⟨w.heap.size, 1, none⟩ = some (.slice (some ⟨gb, go_, none⟩) ns sc) ∧ W.cell? ⟨w.heap.size, 2, none⟩ = some (.slice (some ⟨pb, po, none⟩) np pc)) ∧
            (W.cell? ⟨p3.w.heap.size + 1, 0, none⟩ = some (.int .u8 2) ∧ W.cell? ⟨p3.w.heap.size + 1 + 1 + 1 + 1, 1, none⟩ = some (.int .i64 k)) ∧
            (W.cell? ⟨gb, go_ + t * 4 + 2, none⟩ = some (.int .i64 L) ∧ W.cell? ⟨gb, go_ + p * 4 + 2, none⟩ = some (.int .i64 M) ∧ W.cell? ⟨pb, po + k * 6 + 2, none⟩ = some (.int .i64 p)) ∧ Below w.heap.size w W) ?_ ?_
        · have f5 : ∀ (x : Addr) (u : Value) (o1 o2 o3 o4 o5 : Obj), p3.w.cell? x = some u → (((((p3.w.alloc o1).alloc o2).alloc o3).alloc o4).alloc o5).cell? x = some u := fun x u o1 o2 o3 o4 o5 h =>
            (((((Fr.alloc (ch := nothing) p3.w o1).trans (Fr.alloc _ o2)).trans (Fr.alloc _ o3)).trans (Fr.alloc _ o4)).trans (Fr.alloc _ o5)).cell h fun e => e
          refine ⟨⟨f5 _ _ _ _ _ _ _ G1, f5 _ _ _ _ _ _ _ G2⟩, ⟨?_, ?_⟩, ⟨f5 _ _ _ _ _ _ _ q1, f5 _ _ _ _ _ _ _ q2, f5 _ _ _ _ _ _ _ q3⟩, ?_⟩
          · exact obj_cell (alloc_older (alloc_older (alloc_older (alloc_at (by simp))))) 0 rfl
          · exact obj_cell (alloc_at (by simp)) 1 rfl
          · repeat (first | exact HE.out | refine below_alloc ?_)
        · rintro W ⟨⟨f1, f2⟩, ⟨f3, f4⟩, ⟨f6, f7, f8⟩, hWB⟩
          clear D0 D1 E0 E1 K0 K1 L0 L1 G0 G1 G2 q1 q2 q3 HE HE3 HS HPR
          have y1 := after_cell f1
          have y2 := after_cell f2
          have y3 := after_cell f3
          have y4 := after_cell f4
          have y6 := after_cell f6
          have y7 := after_cell f7
          have y8 := after_cell f8
          have hne := after_ne W
          have HWB := Lib.hid hWB
          clear f1 f2 f3 f4 f6 f7 f8 hWB HB HW
          refine wp_region_after W (by kernel_rfl) (by kernel_rfl) (Below.refl _ _) ?_
          repeat (go_big_quiet_step (fail))
          refine wpQuiet_nil ?_
          intro _ hw'
          obtain ⟨q, hw''⟩ := hw'
          subst hw''
          go_wp2_with fail
          refine wp_region_after W (by kernel_rfl) (by kernel_rfl) q.ok ?_
          repeat (go_big_quiet_step (fail))
          refine wpQuiet_nil ?_
          intro _ hw'
          obtain ⟨r, hw''⟩ := hw'
          subst hw''
          go_wp2
          go_ret
          exact ⟨rfl, HWB.out.trans (r.ok.mono HWB.out.size)⟩
      · have c9 : decide (M ≤ L) = true := decide_eq_true (by simpa using win)
        clear win
        go_upto_region 22 with fail
        refine wp_world (F := fun W => (W.cell? ⟨w.heap.size, 1, none⟩ = some (.slice (some ⟨gb, go_, none⟩) ns sc) ∧ W.cell? ⟨w.heap.size, 2, none⟩ = some (.slice (some ⟨pb, po, none⟩) np pc)) ∧
            (W.cell? ⟨p3.w.heap.size + 1, 0, none⟩ = some (.int .u8 1) ∧ W.cell? ⟨p3.w.heap.size + 1 + 1 + 1 + 1, 1, none⟩ = some (.int .i64 k)) ∧
            (W.cell? ⟨gb, go_ + t * 4 + 2, none⟩ = some (.int .i64 L) ∧ W.cell? ⟨gb, go_ + p * 4 + 2, none⟩ = some (.int .i64 M) ∧ W.cell? ⟨pb, po + k * 6 + 2, none⟩ = some (.int .i64 p)) ∧ Below w.heap.size w W) ?_ ?_
        · have f5 : ∀ (x : Addr) (u : Value) (o1 o2 o3 o4 o5 : Obj), p3.w.cell? x = some u → (((((p3.w.alloc o1).alloc o2).alloc o3).alloc o4).alloc o5).cell? x = some u := fun x u o1 o2 o3 o4 o5 h =>
            (((((Fr.alloc (ch := nothing) p3.w o1).trans (Fr.alloc _ o2)).trans (Fr.alloc _ o3)).trans (Fr.alloc _ o4)).trans (Fr.alloc _ o5)).cell h fun e => e
          refine ⟨⟨f5 _ _ _ _ _ _ _ G1, f5 _ _ _ _ _ _ _ G2⟩, ⟨?_, ?_⟩, ⟨f5 _ _ _ _ _ _ _ q1, f5 _ _ _ _ _ _ _ q2, f5 _ _ _ _ _ _ _ q3⟩, ?_⟩
          · exact obj_cell (alloc_older (alloc_older (alloc_older (alloc_at (by simp))))) 0 rfl
          · exact obj_cell (alloc_at (by simp)) 1 rfl
          · repeat (first | exact HE.out | refine below_alloc ?_)
        · rintro W ⟨⟨f1, f2⟩, ⟨f3, f4⟩, ⟨f6, f7, f8⟩, hWB⟩
          clear D0 D1 E0 E1 K0 K1 L0 L1 G0 G1 G2 q1 q2 q3 HE HE3 HS HPR
          have y1 := after_cell f1
          have y2 := after_cell f2
          have y3 := after_cell f3
          have y4 := after_cell f4
          have y6 := after_cell f6
          have y7 := after_cell f7
          have y8 := after_cell f8
          have hne := after_ne W
          have HWB := Lib.hid hWB
          clear f1 f2 f3 f4 f6 f7 f8 hWB HB HW
          refine wp_region_after W (by kernel_rfl) (by kernel_rfl) (Below.refl _ _) ?_
          repeat (go_big_quiet_step (fail))
          refine wpQuiet_nil ?_
          intro _ hw'
          obtain ⟨q, hw''⟩ := hw'
          subst hw''
          go_wp2_with fail
          refine wp_region_after W (by kernel_rfl) (by kernel_rfl) q.ok ?_
          repeat (go_big_quiet_step (fail))
          refine wpQuiet_nil ?_
          intro _ hw'
          obtain ⟨r, hw''⟩ := hw'
          subst hw''
          go_wp2
          go_ret
          exact ⟨rfl, HWB.out.trans (r.ok.mono HWB.out.size)⟩
    case del t k p L M f hn ht h1 hl =>
      obtain ⟨rfl, rfl, rfl, kp, pr, ps, ts, lt, lp, l0, m0, win⟩ := hl
      subst ht
      have c0 : decide ((t : Int) < 0) = false := decide_eq_false (by omega)
      have c1 : decide (G.terms ≤ (t : Int)) = false := decide_eq_false (by omega)
      have c2 : decide (G.syms.length ≤ t) = false := decide_eq_false (by omega)
      obtain ⟨gb, go_, rfl, q1, q2⟩ : ∃ gb go_, sa = some ⟨gb, go_, none⟩ ∧ p3.w.cell? ⟨gb, go_ + t * 4 + 2, none⟩ = some (.int .i64 L) ∧ p3.w.cell? ⟨gb, go_ + p * 4 + 2, none⟩ = some (.int .i64 M) := by
        obtain ⟨gb, go_, rfl, _, hc1⟩ := HS.out.get t ts
        obtain ⟨gb', go', heq, _, hc2⟩ := HS.out.get p ps
        simp only [Option.some.injEq, Addr.mk.injEq, and_true] at heq
        obtain ⟨rfl, rfl⟩ := heq
        have d1 := hc1 2 (by simp [symCells])
        have d2 := hc2 2 (by simp [symCells])
        simp only [symCells, List.getElem_cons_zero, List.getElem_cons_succ] at d1 d2
        rw [lt] at d1
        rw [lp] at d2
        exact ⟨gb, go_, rfl, (Fr.new HE3.out).cell d1 fun e => e, (Fr.new HE3.out).cell d2 fun e => e⟩
      obtain ⟨pb, po, rfl, q3⟩ : ∃ pb po, pa = some ⟨pb, po, none⟩ ∧ p3.w.cell? ⟨pb, po + k * 6 + 2, none⟩ = some (.int .i64 p) := by
        obtain ⟨pb, po, _, _, rfl, _, hc1⟩ := HPR.out.get k kp
        have d1 := hc1 2 (by simp [prdCells])
        simp only [prdCells, List.getElem_cons_zero, List.getElem_cons_succ] at d1
        rw [pr] at d1
        exact ⟨pb, po, rfl, (Fr.new HE3.out).cell d1 fun e => e⟩
      have c3 : decide ((k : Int) < 0) = false := decide_eq_false (by omega)
      have c4 : decide (G.prods.length ≤ k) = false := decide_eq_false (by omega)
      have c5 : decide ((p : Int) < 0) = false := decide_eq_false (by omega)
      have c6 : decide (G.syms.length ≤ p) = false := decide_eq_false (by omega)
      have c7 : decide (0 < L) = true := decide_eq_true l0
      have c8 : decide (0 < M) = true := decide_eq_true m0
      clear pr lt lp hn h1 l0 m0
      generalize G.syms.length = ns at *
      generalize G.prods.length = np at *
      cases f
      · have c9 : decide (L ≤ M) = true := decide_eq_true (by simpa using win)
        clear win
        go_upto_region 22 with fail
        refine wp_world (F := fun W => (W.cell? ⟨w.heap.size, 1, none⟩ = some (.slice (some ⟨gb, go_, none⟩) ns sc) ∧ W.cell? ⟨w.heap.size, 2, none⟩ = some (.slice (some ⟨pb, po, none⟩) np pc)) ∧
            (W.cell? ⟨p3.w.heap.size + 1, 0, none⟩ = some (.int .u8 2) ∧ W.cell? ⟨p3.w.heap.size + 1 + 1 + 1 + 1, 1, none⟩ = some (.int .i64 k)) ∧
            (W.cell? ⟨gb, go_ + t * 4 + 2, none⟩ = some (.int .i64 L) ∧ W.cell? ⟨gb, go_ + p * 4 + 2, none⟩ = some (.int .i64 M) ∧ W.cell? ⟨pb, po + k * 6 + 2, none⟩ = some (.int .i64 p)) ∧ Below w.heap.size w W) ?_ ?_
        · have f5 : ∀ (x : Addr) (u : Value) (o1 o2 o3 o4 o5 : Obj), p3.w.cell? x = some u → (((((p3.w.alloc o1).alloc o2).alloc o3).alloc o4).alloc o5).cell? x = some u := fun x u o1 o2 o3 o4 o5 h =>
            (((((Fr.alloc (ch := nothing) p3.w o1).trans (Fr.alloc _ o2)).trans (Fr.alloc _ o3)).trans (Fr.alloc _ o4)).trans (Fr.alloc _ o5)).cell h fun e => e
          refine ⟨⟨f5 _ _ _ _ _ _ _ G1, f5 _ _ _ _ _ _ _ G2⟩, ⟨?_, ?_⟩, ⟨f5 _ _ _ _ _ _ _ q1, f5 _ _ _ _ _ _ _ q2, f5 _ _ _ _ _ _ _ q3⟩, ?_⟩
          · exact obj_cell (alloc_older (alloc_older (alloc_older (alloc_at (by simp))))) 0 rfl
          · exact obj_cell (alloc_at (by simp)) 1 rfl
          · repeat (first | exact HE.out | refine below_alloc ?_)
        · rintro W ⟨⟨f1, f2⟩, ⟨f3, f4⟩, ⟨f6, f7, f8⟩, hWB⟩
          clear D0 D1 E0 E1 K0 K1 L0 L1 G0 G1 G2 q1 q2 q3 HE HE3 HS HPR
          have y1 := after_cell f1
          have y2 := after_cell f2
          have y3 := after_cell f3
          have y4 := after_cell f4
          have y6 := after_cell f6
          have y7 := after_cell f7
          have y8 := after_cell f8
          have hne := after_ne W
          have HWB := Lib.hid hWB
          clear f1 f2 f3 f4 f6 f7 f8 hWB HB HW
          refine wp_region_after W (by kernel_rfl) (by kernel_rfl) (Below.refl _ _) ?_
          repeat (go_big_quiet_step (fail))
          refine wpQuiet_nil ?_
          intro _ hw'
          obtain ⟨q, hw''⟩ := hw'
          subst hw''
          go_wp2_with fail
          refine wp_region_after W (by kernel_rfl) (by kernel_rfl) q.ok ?_
          repeat (go_big_quiet_step (fail))
          refine wpQuiet_nil ?_
          intro _ hw'
          obtain ⟨r, hw''⟩ := hw'
          subst hw''
          go_wp2
          go_ret
          exact ⟨rfl, HWB.out.trans (r.ok.mono HWB.out.size)⟩
      · have c9 : decide (M ≤ L) = true := decide_eq_true (by simpa using win)
        clear win
        go_upto_region 22 with fail
        refine wp_world (F := fun W => (W.cell? ⟨w.heap.size, 1, none⟩ = some (.slice (some ⟨gb, go_, none⟩) ns sc) ∧ W.cell? ⟨w.heap.size, 2, none⟩ = some (.slice (some ⟨pb, po, none⟩) np pc)) ∧
            (W.cell? ⟨p3.w.heap.size + 1, 0, none⟩ = some (.int .u8 1) ∧ W.cell? ⟨p3.w.heap.size + 1 + 1 + 1 + 1, 1, none⟩ = some (.int .i64 k)) ∧
            (W.cell? ⟨gb, go_ + t * 4 + 2, none⟩ = some (.int .i64 L) ∧ W.cell? ⟨gb, go_ + p * 4 + 2, none⟩ = some (.int .i64 M) ∧ W.cell? ⟨pb, po + k * 6 + 2, none⟩ = some (.int .i64 p)) ∧ Below w.heap.size w W) ?_ ?_
        · have f5 : ∀ (x : Addr) (u : Value) (o1 o2 o3 o4 o5 : Obj), p3.w.cell? x = some u → (((((p3.w.alloc o1).alloc o2).alloc o3).alloc o4).alloc o5).cell? x = some u := fun x u o1 o2 o3 o4 o5 h =>
            (((((Fr.alloc (ch := nothing) p3.w o1).trans (Fr.alloc _ o2)).trans (Fr.alloc _ o3)).trans (Fr.alloc _ o4)).trans (Fr.alloc _ o5)).cell h fun e => e
          refine ⟨⟨f5 _ _ _ _ _ _ _ G1, f5 _ _ _ _ _ _ _ G2⟩, ⟨?_, ?_⟩, ⟨f5 _ _ _ _ _ _ _ q1, f5 _ _ _ _ _ _ _ q2, f5 _ _ _ _ _ _ _ q3⟩, ?_⟩
          · exact obj_cell (alloc_older (alloc_older (alloc_older (alloc_at (by simp))))) 0 rfl
          · exact obj_cell (alloc_at (by simp)) 1 rfl
          · repeat (first | exact HE.out | refine below_alloc ?_)
        · rintro W ⟨⟨f1, f2⟩, ⟨f3, f4⟩, ⟨f6, f7, f8⟩, hWB⟩
          clear D0 D1 E0 E1 K0 K1 L0 L1 G0 G1 G2 q1 q2 q3 HE HE3 HS HPR
          have y1 := after_cell f1
          have y2 := after_cell f2
          have y3 := after_cell f3
          have y4 := after_cell f4
          have y6 := after_cell f6
          have y7 := after_cell f7
          have y8 := after_cell f8
          have hne := after_ne W
          have HWB := Lib.hid hWB
          clear f1 f2 f3 f4 f6 f7 f8 hWB HB HW
          refine wp_region_after W (by kernel_rfl) (by kernel_rfl) (Below.refl _ _) ?_
          repeat (go_big_quiet_step (fail))
          refine wpQuiet_nil ?_
          intro _ hw'
          obtain ⟨q, hw''⟩ := hw'
          subst hw''
          go_wp2_with fail
          refine wp_region_after W (by kernel_rfl) (by kernel_rfl) q.ok ?_
          repeat (go_big_quiet_step (fail))
          refine wpQuiet_nil ?_
          intro _ hw'
          obtain ⟨r, hw''⟩ := hw'
          subst hw''
          go_wp2
          go_ret
          exact ⟨rfl, HWB.out.trans (r.ok.mono HWB.out.size)⟩
  · have hm1 : decide (2000 < partsG G 2000) = true := decide_eq_true (by omega)
    generalize partsG G 2000 = n at *
    go_wp2_with (go_at_call 9; refine (HN.out _).mono ?_; rintro e w' ⟨rfl, p1, rfl⟩)
    go_ret
    exact ⟨rfl, HB.out.trans (p1.ok.mono HB.out.size)⟩
end Go.Proofs.Ytijdaihcogbliaa
