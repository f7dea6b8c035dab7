/-
  Package run: Parse, Reductions.
-/
import Derived.Test.YtpnihegmhalcfaaRunG35
import Derived.Test.YtpnihegmhalcfaaRunG10
namespace Go.Proofs.Ytpnihegmhalcfaa
open Go.RowKit Go.MapKept Go.ChangeMaps
set_option maxHeartbeats 400000

/-- What is told as the tree. -/
def treeOf (err : Int) (st : Au) : Tr := if err = 0 then lastT st.stack else noTr
theorem row_last {w : World} {B ab : Nat} {A : AuA} {G : Gram} {T : Tbl} {terms : List Int} {sv pv : Value} {L : List ((Int × Tr) × Value)} {st : Au} (h : AuM w B ab A G T terms sv pv L st) (hn : 1 ≤ st.stack.length) :
    ∃ (g c m : Nat) (kv : Value), st.stack.length = m + 1 ∧ sv = .slice (some ⟨g, 0, none⟩) (m + 1) c ∧ B ≤ g ∧ w.cell? ⟨g, m * 4 + 1, none⟩ = some (.int .i64 (lastT st.stack).p) ∧ w.cell? ⟨g, m * 4 + 2, none⟩ = some (.int .i64 (lastT st.stack).a) ∧ w.cell? ⟨g, m * 4 + 3, none⟩ = some kv ∧ KidsV w (isTr B w) (lastT st.stack).kids kv := by
  have hL := h.len
  obtain ⟨m, hm⟩ : ∃ m, L.length = m + 1 := ⟨L.length - 1, by omega⟩
  obtain ⟨g, c, hsv, hg, -, -, -, c1, c2, c3⟩ := st_cell h.own m (by omega)
  have hlast : L[m].1.2 = lastT st.stack := by
    unfold lastT
    have hml : L.length - 1 = m := by omega
    rw [← h.row, List.length_map, hml, List.getD_eq_getElem?_getD, List.getElem?_map, List.getElem?_eq_getElem (by omega)]
    rfl
  have hk := h.kids L[m] (List.getElem_mem _)
  rw [hlast] at c1 c2 hk
  exact ⟨g, c, m, _, by omega, by rw [hsv, hm], hg, c1, c2, c3, hk⟩

set_option maxRecDepth 100000 in
set_option maxHeartbeats 8000000 in
theorem parse_any (G : Gram) (T : Tbl) (terms : List Int) (gv tv nv : Value) (w : World) (hg : IsGram w gv G) (ht : IsTbl w tv T) (hn : Ints w nv terms) (hl : terms.length ≤ 100) :
    Calls Try.prog 13 #[gv, tv, nv] w fun e w' => ∃ (xv : Value) (err : Int) (st : Au), e = .returned (.tuple #[xv, .int .i64 (st.pos : Int), .int .i64 err]) ∧ RunTo G T terms (err, st) ∧ st.pos ≤ terms.length ∧ (∃ kv, xv = .agg #[.int .i64 (treeOf err st).p, .int .i64 (treeOf err st).a, kv] ∧ KidsV w' (fun b => w.heap.size ≤ b) (treeOf err st).kids kv) ∧ Below w.heap.size w w' := by
  obtain ⟨_, vs, vp, rfl, hs, hp⟩ := id hg
  obtain ⟨-, sa, sc, rfl, -, -, -⟩ := id hs
  obtain ⟨-, pa, pc, rfl, -, -, -⟩ := id hp
  obtain ⟨av, gvv, rfl, hta, htg⟩ := id ht
  obtain ⟨aa, ac, rfl, -, -, -⟩ := Rows'.parts hta
  obtain ⟨ga, gc, rfl, -, -, -⟩ := Rows'.parts htg
  obtain ⟨-, hnl, na, nc, rfl, -, -, -⟩ := id hn
  have hx := three_boxes w (.cells #[.int .i64 G.terms, .slice sa G.syms.length sc, .slice pa G.prods.length pc] 25 (0, 0)) (.cells #[.slice aa T.acts.length ac, .slice ga T.gotos.length gc] 29 (0, 0)) (.cells #[.int .i64 0, .int .i64 0, .slice none 0 0] 40 (0, 0))
  have HI := Lib.hid (And.intro hg (And.intro ht hn))
  have HX := Lib.hid hx
  clear hg hs hp ht hta htg hn hx
  go_enter Try.func13, Try.ntmps13
  go_upto_region 1 with fail
  generalize ((w.alloc (Obj.cells #[.int .i64 G.terms, .slice sa G.syms.length sc, .slice pa G.prods.length pc] 25 (0, 0))).alloc (Obj.cells #[.slice aa T.acts.length ac, .slice ga T.gotos.length gc] 29 (0, 0))).alloc (Obj.cells #[.int .i64 0, .int .i64 0, .slice none 0 0] 40 (0, 0)) = W1 at *
  have d0 := obj_cell HX.out.1 0 (v := .int .i64 G.terms) rfl
  have d1 := obj_cell HX.out.1 1 (v := .slice sa G.syms.length sc) rfl
  have d2 := obj_cell HX.out.1 2 (v := .slice pa G.prods.length pc) rfl
  have e0 := obj_cell HX.out.2.1 0 (v := .slice aa T.acts.length ac) rfl
  have e1 := obj_cell HX.out.2.1 1 (v := .slice ga T.gotos.length gc) rfl
  have k1 := Fr.new HX.out.2.2.2
  have HRN := Lib.hid (run_any G T terms _ _ _ W1 (HI.out.1.fr k1) (HI.out.2.1.fr k1) (HI.out.2.2.fr k1) hl)
  obtain ⟨n0, hn0⟩ : ∃ n0, w.heap.size = n0 := ⟨_, rfl⟩
  rw [hn0] at d0 d1 d2 e0 e1 ⊢
  have HN0 := Lib.hid hn0
  clear k1 hn0
  go_upto_region 2 with (go_at_call 34; refine HRN.out.mono ?_; rintro e w2 ⟨B, ab, err, st, pv, rfl, hto, hB1, hBab, hend, hz, hbnd, hb2⟩)
  have hob := (Fr.new hb2).obj HX.out.2.2.1 id
  rw [HN0.out] at hob
  have hbw := HX.out.2.2.2.trans (hb2.mono HX.out.2.2.2.size)
  have htl : n0 + 2 < W1.heap.size := by rw [← HN0.out]; exact (Array.getElem?_eq_some_iff.1 HX.out.2.2.1).1
  have hab : n0 + 2 < ab := by omega
  have H2 := Lib.hid (And.intro hto (And.intro hbnd (And.intro hbw hz)))
  clear d0 d1 d2 e0 e1 hto hbnd hbw hz hb2 HRN
  have c7 := hend.c7
  have HP := Lib.hid (show (st.pos : Int) = (st.pos : Int) from rfl)
  obtain ⟨p, hp⟩ : ∃ p, st.pos = p := ⟨_, rfl⟩
  rw [hp] at c7
  have HPP := Lib.hid hp
  clear hp HP
  by_cases herr : err = 0
  · subst herr
    obtain ⟨hlen, A, sv, L, hM⟩ := H2.out.2.2.2 rfl
    obtain ⟨g, c, m, kv, hm, rfl, hgB, x1, x2, x3, hkd⟩ := row_last hM (by omega)
    have hmb : m ≤ 1000000 := by have := H2.out.2.1.2.1; omega
    have c6 := obj_cell hM.obj 6 (v := .slice (some ⟨g, 0, none⟩) (m + 1) c) rfl
    obtain ⟨ka, kc, hkv, -, -, -⟩ := id hkd
    subst hkv
    have HKD := Lib.hid hkd
    clear hkd hlen hM hm
    obtain ⟨x, hx⟩ : ∃ x, lastT st.stack = x := ⟨_, rfl⟩
    rw [hx] at x1 x2 x3 HKD
    have HXT := Lib.hid hx
    clear hx
    obtain ⟨xp, xa, xk⟩ := x
    simp only at x1 x2 x3 HKD
    generalize xk.len = xl at *
    have e1 : IntKind.i64.wrap (m : Int) = (m : Int) := IntWalk.i64_in _ (by omega)
    have hmlt : (m : Int) < (m : Int) + 1 := by omega
    have hgb : n0 + 2 < g := by omega
    have hcf : ∀ (ch : Nat → Prop) (W : World), Fr ch w2 W → ¬ ch ab → ¬ ch g → W.cell? ⟨ab, 6, none⟩ = some (.slice (some ⟨g, 0, none⟩) (m + 1) c) ∧ W.cell? ⟨ab, 7, none⟩ = some (.int .i64 (p : Int)) ∧ W.cell? ⟨g, m * 4 + 1, none⟩ = some (.int .i64 xp) ∧ W.cell? ⟨g, m * 4 + 2, none⟩ = some (.int .i64 xa) ∧ W.cell? ⟨g, m * 4 + 3, none⟩ = some (.slice ka xl kc) := fun ch W k ha hg => ⟨k.cell c6 ha, k.cell c7 ha, k.cell x1 hg, k.cell x2 hg, k.cell x3 hg⟩
    have HCF := Lib.hid hcf
    have HE := Lib.hid hob
    clear hob hend hcf
    go_upto_region 4 with fail
    refine wp_region_anyT (fun j W => j < 20 → W.cell? ⟨ab, 6, none⟩ = some (.slice (some ⟨g, 0, none⟩) (m + 1) c) ∧ W.cell? ⟨ab, 7, none⟩ = some (.int .i64 (p : Int)) ∧ W.cell? ⟨g, m * 4 + 1, none⟩ = some (.int .i64 xp) ∧ W.cell? ⟨g, m * 4 + 2, none⟩ = some (.int .i64 xa) ∧ W.cell? ⟨g, m * 4 + 3, none⟩ = some (.slice ka xl kc)) (by kernel_rfl) ?_
    have hS0 := HCF.out _ _ (Fr.drew (ch := nothing) w2) id id
    have hk := Fr.drew (ch := nothing) w2
    have HK := Lib.hid hk
    have hob3 := hk.obj HE.out id
    have t0 := obj_cell hob3 0 (v := .int .i64 0) rfl
    have t1 := obj_cell hob3 1 (v := .int .i64 0) rfl
    have t2 := obj_cell hob3 2 (v := .slice none 0 0) rfl
    have z0 := obj_frozen hob3 0
    have z1 := obj_frozen hob3 1
    have z2 := obj_frozen hob3 2
    have HO3 := Lib.hid hob3
    clear c6 c7 x1 x2 x3 hk hob3
    generalize hwq : w2.drew = wq at *
    clear hwq
    refine anyT_take (R := _) (i := 0) (v := ?_) (fun j => decide (j < 20)) (fun j w h k => k (of_decide_eq_true h)) (fun w h _ => h) rfl (by kernel_rfl) (fun _ _ _ h => h) _ _ _ _ (by kernel_rfl) (by kernel_rfl) (by kernel_rfl) (by kernel_rfl) (Or.inl ⟨by rfl, ?_⟩) (by assumption) ?_
    rotate_left
    · (intro w hSw; (try dsimp only at hSw); go_simp)
      try with_reducible rfl
    refine anyT_take (R := _) (i := 1) (v := ?_) (fun j => decide (j < 20)) (fun j w h k => k (of_decide_eq_true h)) (fun w h _ => h) rfl (by kernel_rfl) (fun _ _ _ h => h) _ _ _ _ (by kernel_rfl) (by kernel_rfl) (by kernel_rfl) (by kernel_rfl) (Or.inl ⟨by rfl, ?_⟩) (by assumption) ?_
    rotate_left
    · (intro w hSw; (try dsimp only at hSw); go_simp)
      try with_reducible rfl
    refine anyT_take (R := _) (i := 2) (v := ?_) (fun j => decide (j < 20)) (fun j w h k => k (of_decide_eq_true h)) (fun w h _ => h) rfl (by kernel_rfl) (fun _ _ _ h => h) _ _ _ _ (by kernel_rfl) (by kernel_rfl) (by kernel_rfl) (by kernel_rfl) (Or.inl ⟨by rfl, ?_⟩) (by assumption) ?_
    rotate_left
    · (intro w hSw; (try dsimp only at hSw); go_simp)
      try with_reducible rfl
    refine anyT_take (R := _) (i := 3) (v := ?_) (fun j => decide (j < 20)) (fun j w h k => k (of_decide_eq_true h)) (fun w h _ => h) rfl (by kernel_rfl) (fun _ _ _ h => h) _ _ _ _ (by kernel_rfl) (by kernel_rfl) (by kernel_rfl) (by kernel_rfl) (Or.inl ⟨by rfl, ?_⟩) (by assumption) ?_
    rotate_left
    · (intro w hSw; (try dsimp only at hSw); go_simp)
      try with_reducible rfl
    refine anyT_take (R := _) (i := 4) (v := ?_) (fun j => decide (j < 20)) (fun j w h k => k (of_decide_eq_true h)) (fun w h _ => h) rfl (by kernel_rfl) (fun _ _ _ h => h) _ _ _ _ (by kernel_rfl) (by kernel_rfl) (by kernel_rfl) (by kernel_rfl) (Or.inl ⟨by rfl, ?_⟩) (by assumption) ?_
    rotate_left
    · (intro w hSw; (try dsimp only at hSw); go_simp)
      try with_reducible rfl
    refine anyT_take (R := _) (i := 5) (v := ?_) (fun j => decide (j < 20)) (fun j w h k => k (of_decide_eq_true h)) (fun w h _ => h) rfl (by kernel_rfl) (fun _ _ _ h => h) _ _ _ _ (by kernel_rfl) (by kernel_rfl) (by kernel_rfl) (by kernel_rfl) (Or.inl ⟨by rfl, ?_⟩) (by assumption) ?_
    rotate_left
    · (intro w hSw; (try dsimp only at hSw); go_simp)
      try with_reducible rfl
    refine anyT_take (R := _) (i := 6) (v := ?_) (fun j => decide (j < 20)) (fun j w h k => k (of_decide_eq_true h)) (fun w h _ => h) rfl (by kernel_rfl) (fun _ _ _ h => h) _ _ _ _ (by kernel_rfl) (by kernel_rfl) (by kernel_rfl) (by kernel_rfl) (Or.inl ⟨by rfl, ?_⟩) (by assumption) ?_
    rotate_left
    · (intro w hSw; (try dsimp only at hSw); go_simp)
      try with_reducible rfl
    refine anyT_take (R := _) (i := 7) (v := ?_) (fun j => decide (j < 20)) (fun j w h k => k (of_decide_eq_true h)) (fun w h _ => h) rfl (by kernel_rfl) (fun _ _ _ h => h) _ _ _ _ (by kernel_rfl) (by kernel_rfl) (by kernel_rfl) (by kernel_rfl) (Or.inl ⟨by rfl, ?_⟩) (by assumption) ?_
    rotate_left
    · (intro w hSw; (try dsimp only at hSw); go_simp)
      try with_reducible rfl
    refine anyT_take (R := _) (i := 8) (v := ?_) (fun j => decide (j < 20)) (fun j w h k => k (of_decide_eq_true h)) (fun w h _ => h) rfl (by kernel_rfl) (fun _ _ _ h => h) _ _ _ _ (by kernel_rfl) (by kernel_rfl) (by kernel_rfl) (by kernel_rfl) (Or.inl ⟨by rfl, ?_⟩) (by assumption) ?_
    rotate_left
    · (intro w hSw; (try dsimp only at hSw); go_simp)
      try with_reducible rfl
    refine anyT_take (R := _) (i := 9) (v := ?_) (fun j => decide (j < 20)) (fun j w h k => k (of_decide_eq_true h)) (fun w h _ => h) rfl (by kernel_rfl) (fun _ _ _ h => h) _ _ _ _ (by kernel_rfl) (by kernel_rfl) (by kernel_rfl) (by kernel_rfl) (Or.inl ⟨by rfl, ?_⟩) (by assumption) ?_
    rotate_left
    · (intro w hSw; (try dsimp only at hSw); go_simp)
      try with_reducible rfl
    refine anyT_take (R := _) (i := 10) (v := ?_) (fun j => decide (j < 20)) (fun j w h k => k (of_decide_eq_true h)) (fun w h _ => h) rfl (by kernel_rfl) (fun _ _ _ h => h) _ _ _ _ (by kernel_rfl) (by kernel_rfl) (by kernel_rfl) (by kernel_rfl) (Or.inl ⟨by rfl, ?_⟩) (by assumption) ?_
    rotate_left
    · (intro w hSw; (try dsimp only at hSw); go_simp)
      try with_reducible rfl
    refine anyT_take (R := _) (i := 11) (v := ?_) (fun j => decide (j < 20)) (fun j w h k => k (of_decide_eq_true h)) (fun w h _ => h) rfl (by kernel_rfl) (fun _ _ _ h => h) _ _ _ _ (by kernel_rfl) (by kernel_rfl) (by kernel_rfl) (by kernel_rfl) (Or.inl ⟨by rfl, ?_⟩) (by assumption) ?_
    rotate_left
    · (intro w hSw; (try dsimp only at hSw); go_simp)
      try with_reducible rfl
    refine anyT_take (R := _) (i := 12) (v := ?_) (fun j => decide (j < 20)) (fun j w h k => k (of_decide_eq_true h)) (fun w h _ => h) rfl (by kernel_rfl) (fun _ _ _ h => h) _ _ _ _ (by kernel_rfl) (by kernel_rfl) (by kernel_rfl) (by kernel_rfl) (Or.inl ⟨by rfl, ?_⟩) (by assumption) ?_
    rotate_left
    · (intro w hSw; (try dsimp only at hSw); go_simp)
      try with_reducible rfl
    refine anyT_take (R := _) (i := 13) (v := ?_) (fun j => decide (j < 20)) (fun j w h k => k (of_decide_eq_true h)) (fun w h _ => h) rfl (by kernel_rfl) (fun _ _ _ h => h) _ _ _ _ (by kernel_rfl) (by kernel_rfl) (by kernel_rfl) (by kernel_rfl) (Or.inl ⟨by rfl, ?_⟩) (by assumption) ?_
    rotate_left
    · (intro w hSw; (try dsimp only at hSw); go_simp)
      try with_reducible rfl
    refine anyT_take (R := _) (i := 14) (v := ?_) (fun j => decide (j < 20)) (fun j w h k => k (of_decide_eq_true h)) (fun w h _ => h) rfl (by kernel_rfl) (fun _ _ _ h => h) _ _ _ _ (by kernel_rfl) (by kernel_rfl) (by kernel_rfl) (by kernel_rfl) (Or.inl ⟨by rfl, ?_⟩) (by assumption) ?_
    rotate_left
    · (intro w hSw; (try dsimp only at hSw); go_simp)
      try with_reducible rfl
    refine anyT_take (R := _) (i := 15) (v := ?_) (fun j => decide (j < 20)) (fun j w h k => k (of_decide_eq_true h)) (fun w h _ => h) rfl (by kernel_rfl) (fun _ _ _ h => h) _ _ _ _ (by kernel_rfl) (by kernel_rfl) (by kernel_rfl) (by kernel_rfl) (Or.inl ⟨by rfl, ?_⟩) (by assumption) ?_
    rotate_left
    · (intro w hSw; (try dsimp only at hSw); go_simp)
      try with_reducible rfl
    refine anyT_take (R := _) (i := 16) (v := ?_) (fun j => decide (j < 20)) (fun j w h k => k (of_decide_eq_true h)) (fun w h _ => h) rfl (by kernel_rfl) (fun _ _ _ h => h) _ _ _ _ (by kernel_rfl) (by kernel_rfl) (by kernel_rfl) (by kernel_rfl) (Or.inl ⟨by rfl, ?_⟩) (by assumption) ?_
    rotate_left
    · (intro w hSw; (try dsimp only at hSw); go_simp)
      try with_reducible rfl
    have k3 : Fr (only (n0 + 1 + 1)) wq (((wq.setCell ⟨n0 + 1 + 1, 0, none⟩ (.int .i64 xp)).setCell ⟨n0 + 1 + 1, 1, none⟩ (.int .i64 xa)).setCell ⟨n0 + 1 + 1, 2, none⟩ (.slice ka xl kc)) := ((Fr.setCell wq ⟨n0 + 1 + 1, 0, none⟩ _).trans (Fr.setCell _ ⟨n0 + 1 + 1, 1, none⟩ _)).trans (Fr.setCell _ ⟨n0 + 1 + 1, 2, none⟩ _)
    have ho3 := setCell_obj (setCell_obj (setCell_obj HO3.out (i := 0) (.int .i64 xp)) (i := 1) (.int .i64 xa)) (i := 2) (.slice ka xl kc)
    have hS3 := HCF.out _ _ (HK.out.wide.trans k3) (fun e => by have e' : ab = n0 + 1 + 1 := e; omega) (fun e => by have e' : g = n0 + 1 + 1 := e; omega)
    have HW3 := Lib.hid (And.intro k3 ho3)
    clear k3 ho3
    refine anyT_ready (rs := [17]) (by kernel_rfl) (by simp) ?_
    intro j hj
    obtain rfl := List.mem_singleton.1 hj
    clear hj
    refine wpOp_plain rfl rfl ?_
    go_simp
    try refine ⟨hS3, ?_⟩
    generalize ((wq.setCell ⟨n0 + 1 + 1, 0, none⟩ (.int .i64 xp)).setCell ⟨n0 + 1 + 1, 1, none⟩ (.int .i64 xa)).setCell ⟨n0 + 1 + 1, 2, none⟩ (.slice ka xl kc) = w3 at *
    obtain ⟨y1, y2, y3, y4, y5⟩ := hS3
    refine anyT_ready (rs := [18]) (by kernel_rfl) (by simp) ?_
    intro j hj
    obtain rfl := List.mem_singleton.1 hj
    clear hj
    refine wpOp_plain rfl rfl ?_
    go_simp
    refine anyT_ready (rs := [19]) (by kernel_rfl) (by simp) ?_
    intro j hj
    obtain rfl := List.mem_singleton.1 hj
    clear hj
    refine wpOp_plain rfl rfl ?_
    go_simp
    refine anyT_done (by kernel_rfl) ?_ _
    have g0 := obj_cell HW3.out.2 0 (v := .int .i64 xp) (by simp)
    have g1 := obj_cell HW3.out.2 1 (v := .int .i64 xa) (by simp)
    have g2 := obj_cell HW3.out.2 2 (v := .slice ka xl kc) (by simp)
    go_wp2
    refine bodyPost_ret (by simp [results, Try.results13, go_sem, g0, g1, g2]; try rfl) rfl ?_
    refine ⟨_, 0, st, by rw [HPP.out], H2.out.1, H2.out.2.1.2.2.1, ?_, ?_⟩
    · unfold treeOf
      rw [if_pos rfl, HXT.out]
      exact ⟨_, rfl, KidsV.fr HKD.out (HK.out.wide.trans HW3.out.1) (fun b hb hc e => by
        have e' : b = n0 + 1 + 1 := e
        have := hc.1
        omega) fun b hb hc => by
        have h1 := hc.1
        have h2 := HN0.out
        show w.heap.size ≤ b
        omega⟩
    · exact (H2.out.2.2.1.trans ((HK.out.below_new).mono H2.out.2.2.1.size)).trans ((HW3.out.1).below (by have := H2.out.2.2.1.size; have := HK.out.size; omega) fun b e => by have e' : b = n0 + 1 + 1 := e; have := HN0.out; omega)
  · have hne : (err == 0) = false := beq_eq_false_iff_ne.2 herr
    have hne2 : (err != 0) = true := bne_iff_ne.2 herr
    have t0 := obj_cell hob 0 (v := .int .i64 0) rfl
    have t1 := obj_cell hob 1 (v := .int .i64 0) rfl
    have t2 := obj_cell hob 2 (v := .slice none 0 0) rfl
    have z0 := obj_frozen hob 0
    have z1 := obj_frozen hob 1
    have z2 := obj_frozen hob 2
    have HE := Lib.hid (And.intro hob (And.intro hend herr))
    clear hob hend herr
    go_upto_region 3 with fail
    refine wp_region_anyT (fun j W => j < 9 → W.cell? ⟨ab, 7, none⟩ = some (.int .i64 (p : Int))) (by kernel_rfl) ?_
    have hS0 := (Fr.drew (ch := nothing) w2).cell c7 id
    have t0 := (Fr.drew (ch := nothing) w2).cell t0 id
    have t1 := (Fr.drew (ch := nothing) w2).cell t1 id
    have t2 := (Fr.drew (ch := nothing) w2).cell t2 id
    have hk := Fr.drew (ch := nothing) w2
    have HK := Lib.hid hk
    have hob3 := hk.obj HE.out.1 id
    have z0 := obj_frozen hob3 0
    have z1 := obj_frozen hob3 1
    have z2 := obj_frozen hob3 2
    have HO3 := Lib.hid hob3
    clear c7 hk hob3
    generalize hwq : w2.drew = wq at *
    clear hwq
    refine anyT_take (R := _) (i := 0) (v := ?_) (fun j => decide (j < 9)) (fun j w h k => k (of_decide_eq_true h)) (fun w h _ => h) rfl (by kernel_rfl) (fun _ _ _ h => h) _ _ _ _ (by kernel_rfl) (by kernel_rfl) (by kernel_rfl) (by kernel_rfl) (Or.inl ⟨by rfl, ?_⟩) (by assumption) ?_
    rotate_left
    · (intro w hSw; (try dsimp only at hSw); go_simp)
      try with_reducible rfl
    refine anyT_take (R := _) (i := 1) (v := ?_) (fun j => decide (j < 9)) (fun j w h k => k (of_decide_eq_true h)) (fun w h _ => h) rfl (by kernel_rfl) (fun _ _ _ h => h) _ _ _ _ (by kernel_rfl) (by kernel_rfl) (by kernel_rfl) (by kernel_rfl) (Or.inl ⟨by rfl, ?_⟩) (by assumption) ?_
    rotate_left
    · (intro w hSw; (try dsimp only at hSw); go_simp)
      try with_reducible rfl
    refine anyT_take (R := _) (i := 2) (v := ?_) (fun j => decide (j < 9)) (fun j w h k => k (of_decide_eq_true h)) (fun w h _ => h) rfl (by kernel_rfl) (fun _ _ _ h => h) _ _ _ _ (by kernel_rfl) (by kernel_rfl) (by kernel_rfl) (by kernel_rfl) (Or.inl ⟨by rfl, ?_⟩) (by assumption) ?_
    rotate_left
    · (intro w hSw; (try dsimp only at hSw); go_simp)
      try with_reducible rfl
    refine anyT_take (R := _) (i := 3) (v := ?_) (fun j => decide (j < 9)) (fun j w h k => k (of_decide_eq_true h)) (fun w h _ => h) rfl (by kernel_rfl) (fun _ _ _ h => h) _ _ _ _ (by kernel_rfl) (by kernel_rfl) (by kernel_rfl) (by kernel_rfl) (Or.inl ⟨by rfl, ?_⟩) (by assumption) ?_
    rotate_left
    · (intro w hSw; (try dsimp only at hSw); go_simp)
      try with_reducible rfl
    refine anyT_take (R := _) (i := 4) (v := ?_) (fun j => decide (j < 9)) (fun j w h k => k (of_decide_eq_true h)) (fun w h _ => h) rfl (by kernel_rfl) (fun _ _ _ h => h) _ _ _ _ (by kernel_rfl) (by kernel_rfl) (by kernel_rfl) (by kernel_rfl) (Or.inl ⟨by rfl, ?_⟩) (by assumption) ?_
    rotate_left
    · (intro w hSw; (try dsimp only at hSw); go_simp)
      try with_reducible rfl
    refine anyT_take (R := _) (i := 5) (v := ?_) (fun j => decide (j < 9)) (fun j w h k => k (of_decide_eq_true h)) (fun w h _ => h) rfl (by kernel_rfl) (fun _ _ _ h => h) _ _ _ _ (by kernel_rfl) (by kernel_rfl) (by kernel_rfl) (by kernel_rfl) (Or.inl ⟨by rfl, ?_⟩) (by assumption) ?_
    rotate_left
    · (intro w hSw; (try dsimp only at hSw); go_simp)
      try with_reducible rfl
    have k3 : Fr (only (n0 + 1 + 1)) wq (((wq.setCell ⟨n0 + 1 + 1, 0, none⟩ (.int .i64 0)).setCell ⟨n0 + 1 + 1, 1, none⟩ (.int .i64 0)).setCell ⟨n0 + 1 + 1, 2, none⟩ (.slice none 0 0)) := ((Fr.setCell wq ⟨n0 + 1 + 1, 0, none⟩ _).trans (Fr.setCell _ ⟨n0 + 1 + 1, 1, none⟩ _)).trans (Fr.setCell _ ⟨n0 + 1 + 1, 2, none⟩ _)
    have ho3 := setCell_obj (setCell_obj (setCell_obj HO3.out (i := 0) (.int .i64 0)) (i := 1) (.int .i64 0)) (i := 2) (.slice none 0 0)
    have c73 := k3.cell hS0 (fun e => by have e' : ab = n0 + 1 + 1 := e; omega)
    have HW3 := Lib.hid (And.intro k3 ho3)
    clear k3 ho3
    refine anyT_ready (rs := [6]) (by kernel_rfl) (by simp) ?_
    intro j hj
    obtain rfl := List.mem_singleton.1 hj
    clear hj
    refine wpOp_plain rfl rfl ?_
    go_simp
    generalize ((wq.setCell ⟨n0 + 1 + 1, 0, none⟩ (.int .i64 0)).setCell ⟨n0 + 1 + 1, 1, none⟩ (.int .i64 0)).setCell ⟨n0 + 1 + 1, 2, none⟩ (.slice none 0 0) = w3 at *
    refine anyT_ready (rs := [7]) (by kernel_rfl) (by simp) ?_
    intro j hj
    obtain rfl := List.mem_singleton.1 hj
    clear hj
    refine wpOp_plain rfl rfl ?_
    go_simp
    refine anyT_ready (rs := [8]) (by kernel_rfl) (by simp) ?_
    intro j hj
    obtain rfl := List.mem_singleton.1 hj
    clear hj
    refine wpOp_plain rfl rfl ?_
    go_simp
    refine anyT_done (by kernel_rfl) ?_ _
    have g0 := obj_cell HW3.out.2 0 (v := .int .i64 0) (by simp)
    have g1 := obj_cell HW3.out.2 1 (v := .int .i64 0) (by simp)
    have g2 := obj_cell HW3.out.2 2 (v := .slice none 0 0) (by simp)
    go_wp2
    refine bodyPost_ret (by simp [results, Try.results13, go_sem, g0, g1, g2]; try rfl) rfl ?_
    refine ⟨_, err, st, by rw [HPP.out], H2.out.1, H2.out.2.1.2.2.1, ?_, ?_⟩
    · unfold treeOf
      rw [if_neg HE.out.2.2]
      exact ⟨_, rfl, KidsV.nil (by unfold maxLen; omega)⟩
    · exact (H2.out.2.2.1.trans ((HK.out.below_new).mono H2.out.2.2.1.size)).trans ((HW3.out.1).below (by have := H2.out.2.2.1.size; have := HK.out.size; omega) fun b e => by have e' : b = n0 + 1 + 1 := e; have := HN0.out; omega)

set_option maxRecDepth 100000 in
set_option maxHeartbeats 1000000 in
theorem cloneInts_any (v : Value) (xs : List Int) (w : World) (h : Ints w v xs) (hl : xs.length ≤ 1000000) :
    Calls Try.prog 35 #[v] w fun e w' => ∃ r, e = .returned r ∧ Ints w' r xs ∧ Below w.heap.size w w' := by
  obtain ⟨i0, hi, hz0, hz1, hz2⟩ := info_parts Try.infoInt'
  obtain ⟨hbd, hlen, a, c, rfl, _, _, hx⟩ := h
  cases a with
  | none =>
    have h0 : xs = [] := by
      rcases hx with h | ⟨b, o, e, _⟩
      · exact h
      · cases e
    subst h0
    have hnil := fun n c => Lib.run_eql_slice_nil (P := Try.prog) w 30 3 none n c 0 0 (by kernel_rfl)
    clear hx
    go_enter Try.func35, Try.ntmps35
    go_wp2
    go_ret
    exact ⟨_, rfl, ⟨by simp, by simp, none, 0, rfl, Nat.le_refl _, by unfold maxLen; omega, .inl rfl⟩, Below.refl _ _⟩
  | some ad =>
    have hnil := fun (n c : Nat) => Lib.run_eql_slice_nil (P := Try.prog) w 30 3 (some ad) n c 0 0 (by kernel_rfl)
    have hcs : ∀ j u, (xs.map (Value.int .i64))[j]? = some u → w.cell? (ad.add j) = some u := by
      rcases hx with rfl | ⟨b, o, e, hc⟩
      · intro j u h; simp at h
      · simp only [Option.some.injEq] at e
        subst e
        exact cells_add hc
    have HC := Lib.hid fun (o : Obj) j u hj => (Fr.alloc (ch := nothing) w o).cell (hcs j u hj) id
    have HL := Lib.hid (show (xs.map (Value.int .i64)).length = xs.length * 1 by simp)
    have HO := Lib.hid (show ∀ u ∈ xs.map (Value.int .i64), u.oneCell' = true from fun u hu => by
      obtain ⟨x, -, rfl⟩ := List.mem_map.1 hu
      rfl)
    have HW := Lib.hid (show ∀ (w4 : World) (B : Nat) (u : Value), w4.ownsRow B 3 1 u xs.length (xs.map (Value.int .i64)) → Ints w4 u xs from fun w4 B u h => own_ints h hbd hlen)
    clear hx hcs hbd
    generalize xs.map (Value.int .i64) = cs at *
    generalize hn : xs.length = n at *
    have HN := Lib.hid hn
    clear hn
    go_enter Try.func35, Try.ntmps35
    go_wp2_with (at_builtin; refine wpList_append_any rfl _ _ 30 rfl w.heap.size 3 i0 _ 1 8 Try.underlying30 hi hz0 hz1 hz2 rfl (by decide) (.slice (some ⟨w.heap.size, 0, none⟩) 0 0) 0 [] rfl (own_laid0 (alloc_obj w _) (Nat.le_refl _) (by simp) (by unfold maxLen; omega)) (some ad) n c cs rfl HL.out (.inr ⟨ad, rfl, HC.out _⟩) HO.out (by unfold maxLen; omega) (by omega) (by simp) ?_; intro v' w2 hown2 hgrow2)
    go_ret
    refine ⟨_, rfl, HW.out _ _ _ (by simpa using hown2), ((Below.refl _ w).alloc (Nat.le_refl _) _).grown hgrow2 (by simp) fun g e => ?_⟩
    simp only [Value.ownBlock, Option.some.injEq] at e
    omega

set_option maxRecDepth 100000 in
set_option maxHeartbeats 4000000 in
theorem reductions_any (G : Gram) (T : Tbl) (terms : List Int) (gv tv nv : Value) (w : World) (hg : IsGram w gv G) (ht : IsTbl w tv T) (hn : Ints w nv terms) (hl : terms.length ≤ 100) :
    Calls Try.prog 17 #[gv, tv, nv] w fun e w' => ∃ (rv : Value) (err : Int) (st : Au), e = .returned rv ∧ RunTo G T terms (err, st) ∧ Ints w' rv st.prods ∧ Below w.heap.size w w' := by
  obtain ⟨_, vs, vp, rfl, hs, hp⟩ := id hg
  obtain ⟨-, sa, sc, rfl, -, -, -⟩ := id hs
  obtain ⟨-, pa, pc, rfl, -, -, -⟩ := id hp
  obtain ⟨av, gvv, rfl, hta, htg⟩ := id ht
  obtain ⟨aa, ac, rfl, -, -, -⟩ := Rows'.parts hta
  obtain ⟨ga, gc, rfl, -, -, -⟩ := Rows'.parts htg
  obtain ⟨-, hnl, na, nc, rfl, -, -, -⟩ := id hn
  have hx := two_boxes w (.cells #[.int .i64 G.terms, .slice sa G.syms.length sc, .slice pa G.prods.length pc] 25 (0, 0)) (.cells #[.slice aa T.acts.length ac, .slice ga T.gotos.length gc] 29 (0, 0))
  have HI := Lib.hid (And.intro hg (And.intro ht hn))
  have HX := Lib.hid hx
  clear hg hs hp ht hta htg hn hx
  go_enter Try.func17, Try.ntmps17
  go_upto_region 1 with fail
  generalize (w.alloc (Obj.cells #[.int .i64 G.terms, .slice sa G.syms.length sc, .slice pa G.prods.length pc] 25 (0, 0))).alloc (Obj.cells #[.slice aa T.acts.length ac, .slice ga T.gotos.length gc] 29 (0, 0)) = W1 at *
  have d0 := obj_cell HX.out.1 0 (v := .int .i64 G.terms) rfl
  have d1 := obj_cell HX.out.1 1 (v := .slice sa G.syms.length sc) rfl
  have d2 := obj_cell HX.out.1 2 (v := .slice pa G.prods.length pc) rfl
  have e0 := obj_cell HX.out.2.1 0 (v := .slice aa T.acts.length ac) rfl
  have e1 := obj_cell HX.out.2.1 1 (v := .slice ga T.gotos.length gc) rfl
  have k1 := Fr.new HX.out.2.2
  have HRN := Lib.hid (run_any G T terms _ _ _ W1 (HI.out.1.fr k1) (HI.out.2.1.fr k1) (HI.out.2.2.fr k1) hl)
  clear k1
  go_upto_region 2 with (go_at_call 34; refine HRN.out.mono ?_; rintro e w2 ⟨B, ab, err, st, pv, rfl, hto, hB1, hBab, hend, hz, hbnd, hb2⟩)
  have hIn : Ints w2 pv st.prods := own_ints hend.prods (fun x hx => by have := hbnd.2.2.2 x hx; omega) (by omega)
  have HCL := Lib.hid (cloneInts_any pv st.prods w2 hIn hbnd.1)
  have c9 := hend.c9
  obtain ⟨pa2, pc2, hpv, -, -, -⟩ := own_as_cells hend.prods
  have hbw := HX.out.2.2.trans (hb2.mono HX.out.2.2.size)
  have H2 := Lib.hid (And.intro hto hbw)
  clear d0 d1 d2 e0 e1 hto hbw hz hb2 HRN hend hbnd hIn
  subst hpv
  generalize st.prods.length = npl at *
  go_wp2_with (go_at_call 35; refine HCL.out.mono ?_; rintro e w3 ⟨r, rfl, hr, hb3⟩)
  go_ret
  exact ⟨_, err, st, rfl, H2.out.1, hr, H2.out.2.trans (hb3.mono H2.out.2.size)⟩
end Go.Proofs.Ytpnihegmhalcfaa
