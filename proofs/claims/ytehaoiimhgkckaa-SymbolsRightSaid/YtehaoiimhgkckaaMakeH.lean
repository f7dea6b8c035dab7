/-
  Package symbols: Make, where nothing is thrown; Make of no text.
-/
import Derived.Test.YtehaoiimhgkckaaMakeG
import Derived.Test.YtehaoiimhgkckaaMakeF
namespace Go.Proofs.Ytehaoiimhgkckaa
open Go.RowKit Go.MapKept Go.ChangeMaps
set_option maxHeartbeats 400000

theorem gram_of_mem {w : World} {B mb : Nat} {M : Mst} {sv pv nv : Value} {tb rb : Nat} (h : Mem w B mb M sv pv nv tb rb) (ht : i64 M.terms) (hs : ∀ s ∈ M.syms, SymOk s) (hp : ∀ p ∈ M.prods, PrdOk p ∧ (∀ x ∈ p.right, -9223372036854775808 ≤ x ∧ x ≤ 9223372036854775807) ∧ p.right.length ≤ 1000) (hl : M.syms.length ≤ 1000 ∧ M.prods.length ≤ 1000) :
    IsGram w (.agg #[.int .i64 M.terms, sv, pv]) ⟨M.terms, M.syms, M.prods⟩ := by
  obtain ⟨h1, h2, h3, ⟨xs, h4, h5, h6⟩, h7, h8, h9, h10⟩ := h
  refine ⟨ht, sv, pv, rfl, ?_, ?_⟩
  · obtain ⟨a, c, rfl, q1, q2, q3⟩ := own_cells h2
    refine ⟨by show M.syms.length ≤ _; omega, a, c, rfl, q1, q2, ?_⟩
    rcases q3 with q3 | ⟨g, e, _, hc⟩
    · refine .inl ?_
      show M.syms = []
      cases hm : M.syms with
      | nil => rfl
      | cons x l => rw [hm] at q3; simp [symCells] at q3
    · exact .inr ⟨g, 0, e, fun i hi => ⟨hs _ (List.getElem_mem hi), flat_cells (m := 4) (f := symCells) (fun _ => rfl) hc i hi⟩⟩
  · obtain ⟨a, c, rfl, q1, q2, q3⟩ := own_cells h5
    have hxl : xs.length = M.prods.length := by rw [← h4, List.length_map]
    refine ⟨by show M.prods.length ≤ _; omega, a, c, by rw [hxl], by show M.prods.length ≤ _; omega, q2, ?_⟩
    rcases q3 with q3 | ⟨g, e, _, hc⟩
    · refine .inl ?_
      show M.prods = []
      rw [← h4]
      cases hm : xs with
      | nil => rfl
      | cons x l => rw [hm] at q3; simp [cellsP, prdCells] at q3
    · refine .inr ⟨g, 0, e, fun i hi => ?_⟩
      have hi' : i < xs.length := by rw [hxl]; exact hi
      have hpi : M.prods[i]'hi = xs[i].1 := by simp only [← h4, List.getElem_map]
      obtain ⟨r1, r2, r3⟩ := hp _ (List.getElem_mem hi)
      show PrdAt w g (0 + i * 6) (M.prods[i]'hi)
      rw [hpi] at r1 r2 r3 ⊢
      exact ⟨r1, xs[i].2, own_ints (h6 _ (List.getElem_mem hi')) r2 (by omega), flat_cells (m := 6) (f := cellsP) (fun _ => rfl) hc i hi'⟩
theorem Mem.off {ch : Nat → Prop} {w w' : World} {B mb : Nat} {M : Mst} {sv pv nv : Value} {tb rb : Nat} (h : Mem w B mb M sv pv nv tb rb) (k : Fr ch w w') (hc : ∀ g, ch g → ∃ cs t, w.heap[g]? = some (.cells cs t (0, 0)) ∧ 106 ≠ t ∧ 65 ≠ t ∧ 62 ≠ t ∧ 3 ≠ t) : Mem w' B mb M sv pv nv tb rb := by
  obtain ⟨h1, h2, h3, ⟨xs, h4, h5, h6⟩, h7, h8, h9, h10⟩ := h
  refine ⟨k.obj h1 fun e => ?_, own_fr h2 k fun g hg e => ?_, own_fr h3 k fun g hg e => ?_, ⟨xs, h4, own_fr h5 k fun g hg e => ?_, fun x hx => own_fr (h6 x hx) k fun g hg e => ?_⟩, h7.fr k fun e => ?_, h8.fr k fun e => ?_, h9, h10⟩
  · obtain ⟨cs, t, ho, n1, _⟩ := hc _ e
    rw [h1] at ho
    simp only [mkO, Option.some.injEq, Obj.cells.injEq] at ho
    exact n1 ho.2.1
  · obtain ⟨cs, t, ho, _, n2, _⟩ := hc _ e
    exact own_ne h2 ho n2 hg
  · obtain ⟨cs, t, ho, _, n2, _⟩ := hc _ e
    exact own_ne h3 ho n2 hg
  · obtain ⟨cs, t, ho, _, _, n3, _⟩ := hc _ e
    exact own_ne h5 ho n3 hg
  · obtain ⟨cs, t, ho, _, _, _, n4⟩ := hc _ e
    exact own_ne (h6 x hx) ho n4 hg
  · obtain ⟨cs, t, ho, _⟩ := hc _ e
    exact map_ne h7 ho rfl
  · obtain ⟨cs, t, ho, _⟩ := hc _ e
    exact map_ne h8 ho rfl
/-- A maker that was just laid. -/
theorem lies_new (w : World) (mb : Nat) {tb rb B : Nat} (hm : w.heap[mb]? = some (mkO M0 (.slice none 0 0) (.slice none 0 0) (.slice none 0 0) tb rb)) (ht : IsMap w .string tb []) (hr : IsMap w .string rb []) (hB : B ≤ mb ∧ B ≤ tb ∧ B ≤ rb ∧ tb ≠ rb) : Lies w B mb tb rb M0 :=
  ⟨.slice none 0 0, .slice none 0 0, .slice none 0 0, hm, World.ownsRow_nil _ _ _ _, World.ownsRow_nil _ _ _ _, ⟨[], rfl, World.ownsRow_nil _ _ _ _, (fun x hx => by cases hx)⟩, ht, hr, (fun g hg _ => by cases hg), hB⟩
set_option maxRecDepth 100000 in
set_option maxHeartbeats 4000000 in
theorem make_ok (T : Txt) (v : Value) (M1 M2 M3 : Mst) (w : World) (ht : IsTxt w v T)
    (hp : ∀ r ∈ T.rules, plainOk r = true) (hd : declsN M0e T.decls = some M1) (hr : rulesN M1 T.rules = some M2) (ha : prodsN 0 (midM M2) T.rules = some M3) (hne : T.rules ≠ []) (hk : M3.terms ≤ 64 ∧ M3.named.length < 64 ∧ M3.prods.length ≤ 128) (hnm : 0 < M3.named.length)
    (hz1 : T.decls.length ≤ 100) (hz2 : T.rules.length ≤ 100) (hz3 : ∀ d ∈ T.decls, d.names.length ≤ 10) (hz4 : ∀ r ∈ T.rules, r.alts.length ≤ 100)
    (k1 : i64 M3.terms) (k2 : ∀ s ∈ (finM M3).syms, SymOk s) (k3 : ∀ p ∈ M3.prods, PrdOk p ∧ (∀ x ∈ p.right, -9223372036854775808 ≤ x ∧ x ≤ 9223372036854775807) ∧ p.right.length ≤ 1000) (k4 : (finM M3).syms.length ≤ 1000 ∧ M3.prods.length ≤ 1000) :
    Calls Try.prog 22 #[v] w fun e w' => ∃ s p, e = .returned (.tuple #[.agg #[.int .i64 M3.terms, s, p], .agg #[.int .i64 0, .int .i64 0]]) ∧ IsGram w' (.agg #[.int .i64 M3.terms, s, p]) ⟨M3.terms, (finM M3).syms, M3.prods⟩ ∧ Below w.heap.size w w' := by
  have hmf : ∀ (fn : Fn) (first cap : Array Value) (w : World), (Instr.makeFunc fn first cap).run Try.prog w = .ok (.func fn first cap) w := fun _ _ _ _ => rfl
  have hmm := @run_makeMap Try.prog
  obtain ⟨dv, rv, rfl, hD, hR⟩ := id ht
  obtain ⟨da, dc, rfl, _⟩ := Rows'.parts hD
  obtain ⟨ra, rc, rfl, _⟩ := Rows'.parts hR
  have HA := Lib.hid fun (W : World) (mb tb rb : Nat) (h0 : Below w.heap.size w W) (h : Lies W w.heap.size mb tb rb M0) => all_ok T _ M1 M2 M3 w W mb tb rb ht h0 h hp hd hr ha hne hk hnm hz1 hz2 hz3 hz4
  have HK := Lib.hid (And.intro k1 (And.intro k2 (And.intro k3 k4)))
  clear hD hR ht hp hd hr ha hne hk hnm hz1 hz2 hz3 hz4 k1 k2 k3 k4
  go_enter_defers Try.func22, Try.ntmps22
  go_upto_region 3 with fail
  refine wp_atW (F := fun W => Fr nothing w W ∧ W.heap[w.heap.size]? = some (.cells #[.slice da T.decls.length dc, .slice ra T.rules.length rc] 47 (0, 0)) ∧ W.heap[w.heap.size + 1]? = some (.cells #[.int .i64 0, .slice none 0 0, .slice none 0 0] 39 (0, 0)) ∧ W.heap[w.heap.size + 1 + 1]? = some (.cells #[.int .i64 0, .int .i64 0] 51 (0, 0)) ∧
      W.heap[w.heap.size + 1 + 1 + 1]? = some (.map #[] 0) ∧ W.heap[w.heap.size + 1 + 1 + 1 + 1]? = some (.map #[] 0) ∧
      W.heap[w.heap.size + 1 + 1 + 1 + 1 + 1]? = some (.cells #[.int .i64 0, .slice none 0 0, .slice none 0 0, .map (some (w.heap.size + 1 + 1 + 1)), .map (some (w.heap.size + 1 + 1 + 1 + 1)), .slice none 0 0, .int .i64 0, .string ⟨#[]⟩] 106 (0, 0))) ⟨?_, ?_, ?_, ?_, ?_, ?_, ?_⟩ ?_
  · exact (((((Fr.alloc _ _).trans (Fr.alloc _ _)).trans (Fr.alloc _ _)).trans (Fr.alloc _ _)).trans (Fr.alloc _ _)).trans (Fr.alloc _ _)
  · exact alloc_older (alloc_older (alloc_older (alloc_older (alloc_older (laid_at rfl)))))
  · exact alloc_older (alloc_older (alloc_older (alloc_older (laid_at (by simp)))))
  · exact alloc_older (alloc_older (alloc_older (laid_at (by simp))))
  · exact alloc_older (alloc_older (laid_at (by simp)))
  · exact alloc_older (laid_at (by simp))
  · exact laid_at (by simp)
  rintro W ⟨hW, o0, o1, o2, ot, or_, om⟩
  obtain ⟨gb, hgb⟩ : ∃ gb, gb = w.heap.size + 1 := ⟨_, rfl⟩
  rw [← hgb] at o1 o2 ot or_ om ⊢
  obtain ⟨fb, hfb⟩ : ∃ fb, fb = gb + 1 := ⟨_, rfl⟩
  rw [← hfb] at o2 ot or_ om ⊢
  obtain ⟨tb, htb⟩ : ∃ tb, tb = fb + 1 := ⟨_, rfl⟩
  rw [← htb] at ot or_ om ⊢
  obtain ⟨rb, hrb⟩ : ∃ rb, rb = tb + 1 := ⟨_, rfl⟩
  rw [← hrb] at or_ om ⊢
  obtain ⟨mb, hmb⟩ : ∃ mb, mb = rb + 1 := ⟨_, rfl⟩
  rw [← hmb] at om ⊢
  have hne : (fb ≠ gb ∧ gb ≠ mb ∧ fb ≠ mb ∧ gb ≠ tb ∧ gb ≠ rb ∧ fb ≠ tb ∧ fb ≠ rb) ∧ w.heap.size < gb ∧ w.heap.size < fb ∧ w.heap.size < mb ∧ w.heap.size < tb ∧ w.heap.size < rb ∧ tb ≠ rb := by omega
  have b0 : W.cell? ⟨w.heap.size, 0, none⟩ = some (.slice da T.decls.length dc) := obj_cell o0 0 rfl
  have b1 : W.cell? ⟨w.heap.size, 1, none⟩ = some (.slice ra T.rules.length rc) := obj_cell o0 1 rfl
  have hLi : Lies W w.heap.size mb tb rb M0 := lies_new W mb om ⟨_, _, ot, rfl, by simp⟩ ⟨_, _, or_, rfl, by simp⟩ (by omega)
  have HE := Lib.hid (HA.out W mb tb rb hW.below_new hLi)
  have HO := Lib.hid (And.intro hW (And.intro o1 o2))
  clear hW o0 o1 o2 ot or_ om hgb hfb htb hrb hmb hmm HA hLi
  go_upto_region 4 with (go_at_call 48; refine HE.out.mono ?_; rintro e w2 ⟨hF, rfl, hL2⟩)
  have q1 := hF.keep HO.out.2.1 hne.1.2.1 hne.1.2.2.2.1 hne.1.2.2.2.2.1 (by decide) (by decide)
  have q2 := hF.keep HO.out.2.2 hne.1.2.2.1 hne.1.2.2.2.2.2.1 hne.1.2.2.2.2.2.2 (by decide) (by decide)
  obtain ⟨sv, pv, nv, hM⟩ := hL2
  obtain ⟨sa, sc, rfl, _⟩ := own_cells hM.syms
  obtain ⟨pa, pc, rfl⟩ : ∃ pa pc, pv = .slice pa M3.prods.length pc := by
    obtain ⟨xs, hx1, hx2, _⟩ := hM.prods
    obtain ⟨pa, pc, rfl, _⟩ := own_cells hx2
    have hx3 : (finM M3).prods = M3.prods := rfl
    refine ⟨pa, pc, ?_⟩
    rw [← hx3, ← hx1, List.length_map]
  have m0 : w2.cell? ⟨mb, 0, none⟩ = some (.int .i64 M3.terms) := obj_cell hM.obj 0 rfl
  have m1 : w2.cell? ⟨mb, 1, none⟩ = some (.slice sa (finM M3).syms.length sc) := obj_cell hM.obj 1 rfl
  have m2 : w2.cell? ⟨mb, 2, none⟩ = some (.slice pa M3.prods.length pc) := obj_cell hM.obj 2 rfl
  have g0 := obj_cell q1 0 rfl
  have g1 := obj_cell q1 1 rfl
  have g2 := obj_cell q1 2 rfl
  have zf0 := obj_frozen q1 0
  have zf1 := obj_frozen q1 1
  have zf2 := obj_frozen q1 2
  have x0 := obj_cell q2 0 rfl
  have x1 := obj_cell q2 1 rfl
  have xf0 := obj_frozen q2 0
  have xf1 := obj_frozen q2 1
  have HGR := Lib.hid fun (Z : World) (h : Mem Z w.heap.size mb (finM M3) (.slice sa (finM M3).syms.length sc) (.slice pa M3.prods.length pc) nv tb rb) => gram_of_mem h HK.out.1 HK.out.2.1 HK.out.2.2.1 HK.out.2.2.2
  have HG := Lib.hid (And.intro hM (And.intro hF (And.intro q1 q2)))
  clear hM hF q1 q2
  generalize (finM M3).syms.length = ls at *
  generalize M3.prods.length = lp at *
  have hfg := hne.1.1
  have hgf : gb ≠ fb := fun e => hfg e.symm
  go_wp2
  refine leaves_cons (f := 47) (args := #[.pointer (some ⟨fb, 0, none⟩), .pointer (some ⟨gb, 0, none⟩)]) (by simp) (by simp [go_sem]) ?_
  refine (make1_idle _ _ _).mono ?_
  rintro e u' w3 ⟨rfl, rfl, rfl⟩
  obtain ⟨hM, hF, q1, q2⟩ := HG.out
  have hne1 : ∀ (X : World) (i : Nat) (x : Value) {o : Obj}, X.heap[gb]? = some o → (X.setCell ⟨fb, i, none⟩ x).heap[gb]? = some o := fun X i x o h => (Fr.setCell X ⟨fb, i, none⟩ x).obj h fun e => hfg (show fb = gb from (show gb = fb from e).symm)
  have hne2 : ∀ (X : World) (i : Nat) (x : Value) {o : Obj}, X.heap[fb]? = some o → (X.setCell ⟨gb, i, none⟩ x).heap[fb]? = some o := fun X i x o h => (Fr.setCell X ⟨gb, i, none⟩ x).obj h fun e => hfg (show fb = gb from e)
  have c1 : (w2.setCell ⟨gb, 0, none⟩ (.int .i64 M3.terms)).heap[gb]? = some (.cells #[.int .i64 M3.terms, .slice none 0 0, .slice none 0 0] 39 (0, 0)) := by simpa using setCell_obj q1 (i := 0) (.int .i64 M3.terms)
  have c2 : ((w2.setCell ⟨gb, 0, none⟩ (.int .i64 M3.terms)).setCell ⟨gb, 1, none⟩ (.slice sa ls sc)).heap[gb]? = some (.cells #[.int .i64 M3.terms, .slice sa ls sc, .slice none 0 0] 39 (0, 0)) := by simpa using setCell_obj c1 (i := 1) (.slice sa ls sc)
  have c3 : (((w2.setCell ⟨gb, 0, none⟩ (.int .i64 M3.terms)).setCell ⟨gb, 1, none⟩ (.slice sa ls sc)).setCell ⟨gb, 2, none⟩ (.slice pa lp pc)).heap[gb]? = some (.cells #[.int .i64 M3.terms, .slice sa ls sc, .slice pa lp pc] 39 (0, 0)) := by simpa using setCell_obj c2 (i := 2) (.slice pa lp pc)
  have a3 := hne2 _ 2 (.slice pa lp pc) (hne2 _ 1 (.slice sa ls sc) (hne2 _ 0 (.int .i64 M3.terms) q2))
  have k3 : Fr (fun g => g = gb ∨ g = fb) w2 (((w2.setCell ⟨gb, 0, none⟩ (.int .i64 M3.terms)).setCell ⟨gb, 1, none⟩ (.slice sa ls sc)).setCell ⟨gb, 2, none⟩ (.slice pa lp pc)) := (((Fr.setCell w2 ⟨gb, 0, none⟩ (.int .i64 M3.terms)).mono fun g _ e => .inl e).trans ((Fr.setCell _ ⟨gb, 1, none⟩ (.slice sa ls sc)).mono fun g _ e => .inl e)).trans ((Fr.setCell _ ⟨gb, 2, none⟩ (.slice pa lp pc)).mono fun g _ e => .inl e)
  generalize ((w2.setCell ⟨gb, 0, none⟩ (.int .i64 M3.terms)).setCell ⟨gb, 1, none⟩ (.slice sa ls sc)).setCell ⟨gb, 2, none⟩ (.slice pa lp pc) = Y at *
  have a4 : (Y.setCell ⟨fb, 0, none⟩ (.int .i64 0)).heap[fb]? = some (.cells #[.int .i64 0, .int .i64 0] 51 (0, 0)) := by simpa using setCell_obj a3 (i := 0) (.int .i64 0)
  have a5 : ((Y.setCell ⟨fb, 0, none⟩ (.int .i64 0)).setCell ⟨fb, 1, none⟩ (.int .i64 0)).heap[fb]? = some (.cells #[.int .i64 0, .int .i64 0] 51 (0, 0)) := by simpa using setCell_obj a4 (i := 1) (.int .i64 0)
  have c5 := hne1 _ 1 (.int .i64 0) (hne1 _ 0 (.int .i64 0) c3)
  have k5 : Fr (fun g => g = gb ∨ g = fb) w2 ((Y.setCell ⟨fb, 0, none⟩ (.int .i64 0)).setCell ⟨fb, 1, none⟩ (.int .i64 0)) := (k3.trans ((Fr.setCell Y ⟨fb, 0, none⟩ (.int .i64 0)).mono fun g _ e => .inr e)).trans ((Fr.setCell _ ⟨fb, 1, none⟩ (.int .i64 0)).mono fun g _ e => .inr e)
  generalize (Y.setCell ⟨fb, 0, none⟩ (.int .i64 0)).setCell ⟨fb, 1, none⟩ (.int .i64 0) = Z at *
  have r0 : Z.cell? ⟨gb, 0, none⟩ = some (.int .i64 M3.terms) := obj_cell c5 0 rfl
  have r1 : Z.cell? ⟨gb, 1, none⟩ = some (.slice sa ls sc) := obj_cell c5 1 rfl
  have r2 : Z.cell? ⟨gb, 2, none⟩ = some (.slice pa lp pc) := obj_cell c5 2 rfl
  have s0 : Z.cell? ⟨fb, 0, none⟩ = some (.int .i64 0) := obj_cell a5 0 rfl
  have s1 : Z.cell? ⟨fb, 1, none⟩ = some (.int .i64 0) := obj_cell a5 1 rfl
  have hMZ := hM.off k5 fun g e => by
    rcases e with e | e
    · exact ⟨_, _, e ▸ q1, by decide, by decide, by decide, by decide⟩
    · exact ⟨_, _, e ▸ q2, by decide, by decide, by decide, by decide⟩
  have hG := HGR.out Z hMZ
  have hBf : Below w.heap.size w Z := (HO.out.1.below_new.trans (hF.below HO.out.1.size ⟨by omega, by omega, by omega, hne.2.2.2.2.2.2⟩)).trans (k5.below (Nat.le_trans HO.out.1.size (Fr.size hF)) fun g e => by rcases e with e | e <;> omega)
  have hG' : IsGram Z (.agg #[.int .i64 M3.terms, .slice sa ls sc, .slice pa lp pc]) ⟨M3.terms, (finM M3).syms, M3.prods⟩ := hG
  simp [Leaves, settle, results, Try.results22, go_sem, r0, r1, r2, s0, s1]
  exact ⟨_, _, ⟨rfl, rfl⟩, hG', hBf⟩
end Go.Proofs.Ytehaoiimhgkckaa
