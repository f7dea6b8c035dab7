/-
  The statements' own helpers that copy: CopyProd, CopyProds, CopyGrammar.
-/
import Derived.Test.YtiiceickjaeehaaCopy1
namespace Go.Proofs.Ytiiceickjaeehaa
open Go.RowKit
set_option maxHeartbeats 400000

set_option maxRecDepth 100000 in
set_option maxHeartbeats 2000000 in
theorem copyProd_any (u : Value) (p : Prd) (w : World) (hu : IsPrd w u p) :
    Calls Try.prog 50 #[u] w fun e w' => ∃ a cap, e = .returned (.agg #[.int .i64 p.left, .slice a p.right.length cap, .int .i64 p.prec, .bool p.has, .string p.action, .int .i64 p.whr]) ∧ Below w.heap.size w w' := by
  obtain ⟨_, ra, hra, rfl⟩ := hu
  have ha := hra
  obtain ⟨_, _, a, ac, rfl, _⟩ := hra
  obtain ⟨left, right, prec, has, action, whr⟩ := p
  simp only at ha
  unfold prdVal
  simp only
  have HL := Lib.hid fun (x : World) (hx : Fr nothing w x) => copyInts_any _ right x (ha.fr hx)
  clear ha
  have hx := two_boxes w (.cells #[.int .i64 left, .slice a right.length ac, .int .i64 prec, .bool has, .string action, .int .i64 whr] 35 (0, 0)) (.cells #[.int .i64 0, .slice none 0 0, .int .i64 0, .bool false, .string ⟨#[]⟩, .int .i64 0] 35 (0, 0))
  obtain ⟨w1, hw1⟩ : ∃ w1, w1 = (w.alloc (.cells #[.int .i64 left, .slice a right.length ac, .int .i64 prec, .bool has, .string action, .int .i64 whr] 35 (0, 0))).alloc (.cells #[.int .i64 0, .slice none 0 0, .int .i64 0, .bool false, .string ⟨#[]⟩, .int .i64 0] 35 (0, 0)) := ⟨_, rfl⟩
  rw [← hw1] at hx
  obtain ⟨o0, o1, hB1⟩ := hx
  have z1 : w1.cell? ⟨w.heap.size, 1, none⟩ = some (.slice a right.length ac) := obj_cell o0 1 rfl
  have HL1 := Lib.hid (HL.out w1 (Fr.new hB1))
  have HW := Lib.hid hw1
  have HO := Lib.hid (And.intro o0 (And.intro o1 hB1))
  clear HL hw1 hB1 o0 o1
  go_enter Try.func50, Try.ntmps50
  go_upto_region 1 with fail
  rw [← HW.out]
  go_upto_region 2 with (go_at_call 63; refine HL1.out.mono ?_; rintro e w2 ⟨b, bc, rfl, ⟨_, hb⟩, _⟩; have p0 := (Fr.new hb).obj HO.out.1 fun e => e; have d1 := obj_cell p0 1 rfl; have f1 := obj_frozen p0 1)
  refine wp_atW (F := fun W => W.heap[w.heap.size]? = some (.cells #[.int .i64 left, .slice b right.length bc, .int .i64 prec, .bool has, .string action, .int .i64 whr] 35 (0, 0)) ∧ W.heap[w.heap.size + 1]? = some (.cells #[.int .i64 0, .slice none 0 0, .int .i64 0, .bool false, .string ⟨#[]⟩, .int .i64 0] 35 (0, 0)) ∧ Fr (only w.heap.size) w2 W) ?_ ?_
  · exact ⟨setCell_obj p0 _, (Fr.setCell w2 ⟨w.heap.size, 1, none⟩ _).obj ((Fr.new hb).obj HO.out.2.1 fun e => e) (fun e => by unfold only at e; simp at e), Fr.setCell' _ _ rfl⟩
  rintro W ⟨q0, q1, hfr⟩
  have hBW : Below w.heap.size w W := (HO.out.2.2.trans (hb.mono HO.out.2.2.size)).trans (hfr.below (Nat.le_trans HO.out.2.2.size hb.size) fun k e => by unfold only at e; omega)
  obtain ⟨⟨c0, c1, c2, c3, c4, c5⟩, ⟨d0, d1, d2, d3, d4, d5⟩, f1, ⟨e0, e1, e2, e3, e4, e5⟩⟩ := prod_boxes q0 q1
  have HB := Lib.hid hBW
  clear p0 hb hfr hBW q0 q1 HL1 z1
  go_wp2
  refine at_world (Q := bodyPost _ _ _ _ _) (F := fun Y => (Y.cell? ⟨w.heap.size + 1, 0, none⟩ = some (.int .i64 left) ∧ Y.cell? ⟨w.heap.size + 1, 1, none⟩ = some (.slice b right.length bc) ∧ Y.cell? ⟨w.heap.size + 1, 2, none⟩ = some (.int .i64 prec) ∧
      Y.cell? ⟨w.heap.size + 1, 3, none⟩ = some (.bool has) ∧ Y.cell? ⟨w.heap.size + 1, 4, none⟩ = some (.string action) ∧ Y.cell? ⟨w.heap.size + 1, 5, none⟩ = some (.int .i64 whr)) ∧ Fr (only (w.heap.size + 1)) W Y) ?_ ?_
  · refine ⟨⟨?_, ?_, ?_, ?_, ?_, ?_⟩, ?_⟩
    · simp [go_sem, d0]
    · simp [go_sem, d1]
    · simp [go_sem, d2]
    · simp [go_sem, d3]
    · simp [go_sem, d4]
    · simp [go_sem, d5]
    · repeat (first | with_reducible exact Fr.refl _ _ | refine Fr.trans ?_ (Fr.setCell' _ _ rfl))
  · rintro Y ⟨⟨x0, x1, x2, x3, x4, x5⟩, hf⟩
    refine bodyPost_ret (by simp [results, Try.results50, go_sem, x0, x1, x2, x3, x4, x5]; try rfl) rfl ?_
    exact ⟨b, bc, rfl, HB.out.trans (hf.below HB.out.size fun k e => by unfold only at e; omega)⟩

set_option maxRecDepth 100000 in
set_option maxHeartbeats 2000000 in
theorem copyProds_any (u : Value) (l : List Prd) (w : World) (h : IsPrds w u l) (hlen : l.length ≤ 100000000000) :
    Calls Try.prog 31 #[u] w fun e w' => ∃ a c, e = .returned (.slice a l.length c) ∧ Below w.heap.size w w' := by
  obtain ⟨_, a, cap, rfl, _, _, hxx⟩ := id h
  clear hxx
  obtain ⟨i0, hi, hz0, hz1, hz2⟩ := info_parts Try.infoPrd
  have HL := Lib.hid h
  clear h
  generalize hN : l.length = N at *
  have HN := Lib.hid hN
  clear hN
  go_enter Try.func31, Try.ntmps31
  go_wp2
  go_loopw [3, 4, 5] (fun v i _ wr => ∃ k : Nat, k ≤ N ∧ i = .int .i64 k ∧ ∃ xs : List Value, wr.ownsRow w.heap.size 35 6 v k xs ∧ Below w.heap.size w wr)
    (fun _ i _ _ => N - (intOf i).toNat)
  case atStart => exact ⟨0, by omega, rfl, [], World.ownsRow_nil _ _ _ _, Below.refl _ _⟩
  case round =>
    obtain ⟨k, hk, rfl, xs, hown, hB⟩ := hrel
    by_cases hlt : k < N
    · have hk1 : k < l.length := by rw [HN.out]; exact hlt
      obtain ⟨b, o, ra, rc, rfl, hq, hqc⟩ := HL.out.get k hk1
      have hlp := copyProd_any _ _ wr (hq.fr (Fr.new hB))
      unfold prdVal at hlp
      have x0 := (Fr.new hB).cell (hqc 0 (by simp [prdCells])) fun e => e
      have x1 := (Fr.new hB).cell (hqc 1 (by simp [prdCells])) fun e => e
      have x2 := (Fr.new hB).cell (hqc 2 (by simp [prdCells])) fun e => e
      have x3 := (Fr.new hB).cell (hqc 3 (by simp [prdCells])) fun e => e
      have x4 := (Fr.new hB).cell (hqc 4 (by simp [prdCells])) fun e => e
      have x5 := (Fr.new hB).cell (hqc 5 (by simp [prdCells])) fun e => e
      simp only [prdCells, List.getElem_cons_zero, List.getElem_cons_succ, Nat.add_zero] at x0 x1 x2 x3 x4 x5
      generalize l[k] = p at *
      obtain ⟨left, right, prec, has, action, whr⟩ := p
      simp only at x0 x1 x2 x3 x4 x5 hlp
      have HLP := Lib.hid hlp
      have hs := hB.size
      clear hlp hqc hq
      go_wp2_with (first | (go_at_call 50; refine HLP.out.mono ?_; rintro e w' ⟨rb, rbc, rfl, hb⟩) | (at_builtin; refine wpList_append_any rfl _ _ 23 rfl w.heap.size 35 i0 _ 6 72 Try.underlying23 hi hz0 hz1 hz2 rfl (by decide) _ _ _ rfl (((own_below hown hb).alloc _).alloc _) _ 1 1 (cellsP (⟨left, right, prec, has, action, whr⟩, .slice rb right.length rbc)) rfl rfl (.inr ⟨_, rfl, cells_add (cells_new_at (by simp) _ _ rfl _ _)⟩) (by simp [cellsP, prdCells, Value.oneCell']) (by unfold maxLen; omega) (by omega) (by have := hb.size; simp; omega) ?_; intro v2 w2 hown2 hgrow2))
      go_roundw
      case rel =>
        have hbs := hb.size
        have hBw : Below w.heap.size w w' := hB.trans (hb.mono hs)
        exact ⟨k + 1, by omega, by simp, _, hown2, ((hBw.alloc hBw.size _).alloc (by simp; omega) _).grown hgrow2 (by simp; omega) (fun j e => by have := (hown.lt j e).1; omega)⟩
      case measure => simp [intOf]; omega
    · obtain rfl : k = N := by omega
      clear hlt
      go_wp2
      go_ret
      obtain ⟨a2, c2, hv, _⟩ := own_cells hown
      subst hv
      exact ⟨a2, c2, rfl, hB⟩

set_option maxRecDepth 100000 in
set_option maxHeartbeats 2000000 in
theorem copyGrammar_any (u : Value) (G : Gram) (w : World) (h : IsGram w u G) (hs : G.syms.length ≤ 1000000000000) (hp : G.prods.length ≤ 100000000000) :
    Calls Try.prog 12 #[u] w fun e w' => ∃ g1 c1 g2 c2, e = .returned (.agg #[.int .i64 G.terms, .slice g1 G.syms.length c1, .slice g2 G.prods.length c2]) ∧
      IsSyms w' (.slice g1 G.syms.length c1) G.syms ∧ Below w.heap.size w w' := by
  obtain ⟨hterms, vs, vp, rfl, hvs, hvp⟩ := h
  have hs0 := hvs
  have hp0 := hvp
  have HOK := Lib.hid (syms_fit hvs)
  obtain ⟨_, sa, sc, rfl, hz1⟩ := hvs
  obtain ⟨_, pa, pc, rfl, hz2⟩ := hvp
  clear hz1 hz2
  obtain ⟨terms, syms, prods⟩ := G
  simp only at hs hp hs0 hp0 HOK
  simp only
  have HLS := Lib.hid fun (x : World) (hx : Fr nothing w x) => copySyms_any _ syms x (hs0.fr hx) hs
  have HLP := Lib.hid fun (x : World) (hx : Fr nothing w x) => copyProds_any _ prods x (hp0.fr hx) hp
  have hx := two_boxes w (.cells #[.int .i64 terms, .slice sa syms.length sc, .slice pa prods.length pc] 25 (0, 0)) (.cells #[.int .i64 0, .slice none 0 0, .slice none 0 0] 25 (0, 0))
  obtain ⟨w1, hw1⟩ : ∃ w1, w1 = (w.alloc (.cells #[.int .i64 terms, .slice sa syms.length sc, .slice pa prods.length pc] 25 (0, 0))).alloc (.cells #[.int .i64 0, .slice none 0 0, .slice none 0 0] 25 (0, 0)) := ⟨_, rfl⟩
  rw [← hw1] at hx
  obtain ⟨o0, o1, hB1⟩ := hx
  have z1 : w1.cell? ⟨w.heap.size, 1, none⟩ = some (.slice sa syms.length sc) := obj_cell o0 1 rfl
  have HLS1 := Lib.hid (HLS.out w1 (Fr.new hB1))
  have HW := Lib.hid hw1
  have HO := Lib.hid (And.intro o0 (And.intro o1 hB1))
  have hsz1 : w.heap.size + 1 < w1.heap.size := (Array.getElem?_eq_some_iff.1 o1).1
  clear HLS hw1 hB1 o0 o1 hs0 hp0
  go_enter Try.func12, Try.ntmps12
  go_upto_region 1 with fail
  rw [← HW.out]
  go_upto_region 2 with (go_at_call 30; refine HLS1.out.mono ?_; rintro e w2 ⟨g1, c1, rfl, hown, _, hb⟩; have p0 := (Fr.new hb).obj HO.out.1 fun e => e; have d1 := obj_cell p0 1 rfl; have f1 := obj_frozen p0 1)
  refine wp_atW (F := fun W => W.heap[w.heap.size]? = some (.cells #[.int .i64 terms, .slice g1 syms.length c1, .slice pa prods.length pc] 25 (0, 0)) ∧ W.heap[w.heap.size + 1]? = some (.cells #[.int .i64 0, .slice none 0 0, .slice none 0 0] 25 (0, 0)) ∧ Fr (only w.heap.size) w2 W) ?_ ?_
  · exact ⟨setCell_obj p0 _, (Fr.setCell w2 ⟨w.heap.size, 1, none⟩ _).obj ((Fr.new hb).obj HO.out.2.1 fun e => e) (fun e => by unfold only at e; simp at e), Fr.setCell' _ _ rfl⟩
  rintro W ⟨q0, q1, hfr⟩
  have hBW : Below w.heap.size w W := (HO.out.2.2.trans (hb.mono HO.out.2.2.size)).trans (hfr.below (Nat.le_trans HO.out.2.2.size hb.size) fun k e => by unfold only at e; omega)
  have hl2 := own_frB hown hfr fun g hg e => by unfold only at e; omega
  have HL2 := Lib.hid (And.intro hl2 hBW)
  have HLP1 := Lib.hid (HLP.out W (Fr.new hBW))
  have HQ := Lib.hid (And.intro q0 q1)
  have hszW : w.heap.size + 1 < W.heap.size := (Array.getElem?_eq_some_iff.1 q1).1
  have e2 : W.cell? ⟨w.heap.size, 2, none⟩ = some (.slice pa prods.length pc) := obj_cell q0 2 rfl
  clear hown hb p0 d1 f1 hfr hl2 hBW q0 q1 HLP HLS1 z1
  go_upto_region 3 with (go_at_call 31; refine HLP1.out.mono ?_; rintro e w3 ⟨g2, c2, rfl, hb3⟩; have p0 := (Fr.new hb3).obj HQ.out.1 fun e => e; have d2 := obj_cell p0 2 rfl; have f2 := obj_frozen p0 2)
  refine wp_atW (F := fun X => X.heap[w.heap.size]? = some (.cells #[.int .i64 terms, .slice g1 syms.length c1, .slice g2 prods.length c2] 25 (0, 0)) ∧ X.heap[w.heap.size + 1]? = some (.cells #[.int .i64 0, .slice none 0 0, .slice none 0 0] 25 (0, 0)) ∧ Fr (only w.heap.size) w3 X) ?_ ?_
  · exact ⟨setCell_obj p0 _, (Fr.setCell w3 ⟨w.heap.size, 2, none⟩ _).obj ((Fr.new hb3).obj HQ.out.2 fun e => e) (fun e => by unfold only at e; simp at e), Fr.setCell' _ _ rfl⟩
  rintro X ⟨q0, q1, hfr⟩
  have x0 : X.cell? ⟨w.heap.size, 0, none⟩ = some (.int .i64 terms) := obj_cell q0 0 rfl
  have x1 : X.cell? ⟨w.heap.size, 1, none⟩ = some (.slice g1 syms.length c1) := obj_cell q0 1 rfl
  have x2 : X.cell? ⟨w.heap.size, 2, none⟩ = some (.slice g2 prods.length c2) := obj_cell q0 2 rfl
  have y0 : X.cell? ⟨w.heap.size + 1, 0, none⟩ = some (.int .i64 0) := obj_cell q1 0 rfl
  have y1 : X.cell? ⟨w.heap.size + 1, 1, none⟩ = some (.slice none 0 0) := obj_cell q1 1 rfl
  have y2 : X.cell? ⟨w.heap.size + 1, 2, none⟩ = some (.slice none 0 0) := obj_cell q1 2 rfl
  have f0 := obj_frozen q1 0
  have f1 := obj_frozen q1 1
  have f3 := obj_frozen q1 2
  have HX := Lib.hid (And.intro hb3 hfr)
  clear hb3 p0 d2 f2 hfr HLP1 e2 q0 q1
  go_wp2
  refine at_world (Q := bodyPost _ _ _ _ _) (F := fun Y => (Y.cell? ⟨w.heap.size + 1, 0, none⟩ = some (.int .i64 terms) ∧ Y.cell? ⟨w.heap.size + 1, 1, none⟩ = some (.slice g1 syms.length c1) ∧ Y.cell? ⟨w.heap.size + 1, 2, none⟩ = some (.slice g2 prods.length c2)) ∧ Fr (only (w.heap.size + 1)) X Y) ?_ ?_
  · refine ⟨⟨?_, ?_, ?_⟩, ?_⟩
    · simp [go_sem, y0]
    · simp [go_sem, y1]
    · simp [go_sem, y2]
    · repeat (first | with_reducible exact Fr.refl _ _ | refine Fr.trans ?_ (Fr.setCell' _ _ rfl))
  · rintro Y ⟨⟨r0, r1, r2⟩, hfY⟩
    refine bodyPost_ret (by simp [results, Try.results12, go_sem, r0, r1, r2]; try rfl) rfl ?_
    have hF : Fr (fun k => k = w.heap.size ∨ k = w.heap.size + 1) W Y := ((Fr.new HX.out.1).wide.trans (HX.out.2.mono fun _ _ e => .inl e)).trans (hfY.mono fun _ _ e => .inr e)
    have hown := own_frB HL2.out.1 hF fun g hg e => by omega
    exact ⟨g1, c1, g2, c2, rfl, own_syms hown HOK.out (by omega), HL2.out.2.trans (hF.below HL2.out.2.size fun k e => by omega)⟩
end Go.Proofs.Ytiiceickjaeehaa
