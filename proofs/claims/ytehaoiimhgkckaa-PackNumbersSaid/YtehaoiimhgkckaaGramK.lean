/-
  The statements' own helpers on grammars: LentGrammar, SameGrammar, KeptGrammar.
-/
import Derived.Test.YtehaoiimhgkckaaProdK4
import Derived.Test.YtehaoiimhgkckaaKeptS
namespace Go.Proofs.Ytehaoiimhgkckaa
open Go.RowKit
set_option maxHeartbeats 400000

/-- What LentGrammar answers. -/
def LentG (w : World) (B : Nat) (v : Value) (G : Gram) : Prop := i64 G.terms ∧ ∃ s p, v = .agg #[.int .i64 G.terms, s, p] ∧ LentS w B s G.syms ∧ LentPs w B p G.prods
theorem LentG.fr {w w' : World} {B : Nat} {v : Value} {G : Gram} (h : LentG w B v G) (k : Fr nothing w w') : LentG w' B v G := by
  obtain ⟨h0, s, p, h1, h2, h3⟩ := h
  exact ⟨h0, s, p, h1, h2.fr k, h3.fr k⟩
theorem LentG.gram {w : World} {B : Nat} {v : Value} {G : Gram} (h : LentG w B v G) : IsGram w v G := by
  obtain ⟨h0, s, p, h1, h2, h3⟩ := h
  exact ⟨h0, s, p, h1, h2.syms, h3.prds⟩
theorem LentS.wide {ch : Nat → Prop} {w w' : World} {B : Nat} {v : Value} {l : List Sym} (h : LentS w B v l) (k : Fr ch w w') (hc : ∀ g, B ≤ g → ¬ ch g) : LentS w' B v l := by
  obtain ⟨g, cap, h1, h2, h3, h4, h5, h6, h7⟩ := h
  exact ⟨g, cap, h1, h2, h3, h4, h5.fr k (hc g h2), h6, h7⟩
theorem LentPs.wide {ch : Nat → Prop} {w w' : World} {B : Nat} {v : Value} {l : List Prd} (h : LentPs w B v l) (k : Fr ch w w') (hc : ∀ g, B ≤ g → ¬ ch g) : LentPs w' B v l := by
  obtain ⟨g, cap, xs, h1, h2, h3, h4, h5, h6, h7, h8, h9⟩ := h
  exact ⟨g, cap, xs, h1, h2, h3, h4, h5, h6.fr k (hc g h2), fun x hx => (h7 x hx).fr k hc, h8, h9⟩
theorem LentS.mono {w : World} {B B' : Nat} {v : Value} {l : List Sym} (h : LentS w B v l) (hb : B' ≤ B) : LentS w B' v l := by
  obtain ⟨g, cap, h1, h2, h3⟩ := h
  exact ⟨g, cap, h1, Nat.le_trans hb h2, h3⟩
theorem LentPs.mono {w : World} {B B' : Nat} {v : Value} {l : List Prd} (h : LentPs w B v l) (hb : B' ≤ B) : LentPs w B' v l := by
  obtain ⟨g, cap, xs, h1, h2, h3, h4, h5, h6, h7, h8, h9⟩ := h
  exact ⟨g, cap, xs, h1, Nat.le_trans hb h2, h3, h4, h5, h6, fun x hx => (h7 x hx).mono hb, h8, h9⟩

theorem wp_atW {P : Program} {c : Code} {Q : Exit → Act → World → Prop} {a : Act} {w : World} (F : World → Prop) (hF : F w) (h : ∀ W, F W → c.wp P Q a W) : c.wp P Q a w := h w hF
theorem setCell_obj {w : World} {b i : Nat} {cs : Array Value} {t : TypeId} {f : Nat × Nat} (h : w.heap[b]? = some (.cells cs t f)) (v : Value) : (w.setCell ⟨b, i, none⟩ v).heap[b]? = some (.cells (cs.setIfInBounds i v) t f) := by
  obtain ⟨hb, he⟩ := Array.getElem?_eq_some_iff.1 h
  simp [World.setCell, hb, Array.getElem_modify, he]

set_option maxRecDepth 100000 in
set_option maxHeartbeats 2000000 in
theorem lentGrammar_any (u : Value) (G : Gram) (w : World) (h : IsGram w u G) (hs : G.syms.length ≤ 1000000000000) (hp : G.prods.length ≤ 1000000000000) :
    Calls Try.prog 17 #[u] w fun e w' => ∃ g1 c1 g2 c2, e = .returned (.agg #[.int .i64 G.terms, .slice (some ⟨g1, 0, none⟩) G.syms.length c1, .slice (some ⟨g2, 0, none⟩) G.prods.length c2]) ∧
      LentG w' w.heap.size (.agg #[.int .i64 G.terms, .slice (some ⟨g1, 0, none⟩) G.syms.length c1, .slice (some ⟨g2, 0, none⟩) G.prods.length c2]) G ∧ Below w.heap.size w w' := by
  obtain ⟨hterms, vs, vp, rfl, hvs, hvp⟩ := h
  have hs0 := hvs
  have hp0 := hvp
  obtain ⟨_, sa, sc, rfl, hz1⟩ := hvs
  obtain ⟨_, pa, pc, rfl, hz2⟩ := hvp
  clear hz1 hz2
  obtain ⟨terms, syms, prods⟩ := G
  simp only at hs hp hs0 hp0 hterms
  simp only
  have HLS := Lib.hid fun (x : World) (hx : Fr nothing w x) => lentSyms_any _ syms x (hs0.fr hx) hs
  have HLP := Lib.hid fun (x : World) (hx : Fr nothing w x) => lentProds_any _ prods x (hp0.fr hx) hp
  have hx := two_boxes w (.cells #[.int .i64 terms, .slice sa syms.length sc, .slice pa prods.length pc] 39 (0, 0)) (.cells #[.int .i64 0, .slice none 0 0, .slice none 0 0] 39 (0, 0))
  obtain ⟨w1, hw1⟩ : ∃ w1, w1 = (w.alloc (.cells #[.int .i64 terms, .slice sa syms.length sc, .slice pa prods.length pc] 39 (0, 0))).alloc (.cells #[.int .i64 0, .slice none 0 0, .slice none 0 0] 39 (0, 0)) := ⟨_, rfl⟩
  rw [← hw1] at hx
  obtain ⟨o0, o1, hB1⟩ := hx
  have z1 : w1.cell? ⟨w.heap.size, 1, none⟩ = some (.slice sa syms.length sc) := obj_cell o0 1 rfl
  have HLS1 := Lib.hid (HLS.out w1 (Fr.new hB1))
  have HW := Lib.hid hw1
  have HO := Lib.hid (And.intro o0 (And.intro o1 hB1))
  have hsz1 : w.heap.size + 1 < w1.heap.size := (Array.getElem?_eq_some_iff.1 o1).1
  clear HLS hw1 hB1 o0 o1 hs0 hp0
  go_enter Try.func17, Try.ntmps17
  go_upto_region 1 with fail
  rw [← HW.out]
  go_upto_region 2 with (go_at_call 36; refine HLS1.out.mono ?_; rintro e w2 ⟨v, rfl, hl, hb⟩; obtain ⟨g1, c1, rfl, hlr⟩ := id hl; have p0 := (Fr.new hb).obj HO.out.1 fun e => e; have d1 := obj_cell p0 1 rfl; have f1 := obj_frozen p0 1)
  refine wp_atW (F := fun W => W.heap[w.heap.size]? = some (.cells #[.int .i64 terms, .slice (some ⟨g1, 0, none⟩) syms.length c1, .slice pa prods.length pc] 39 (0, 0)) ∧ W.heap[w.heap.size + 1]? = some (.cells #[.int .i64 0, .slice none 0 0, .slice none 0 0] 39 (0, 0)) ∧ Fr (only w.heap.size) w2 W) ?_ ?_
  · exact ⟨setCell_obj p0 _, (Fr.setCell w2 ⟨w.heap.size, 1, none⟩ _).obj ((Fr.new hb).obj HO.out.2.1 fun e => e) (fun e => by unfold only at e; simp at e), Fr.setCell' _ _ rfl⟩
  rintro W ⟨q0, q1, hfr⟩
  have hBW : Below w.heap.size w W := (HO.out.2.2.trans (hb.mono HO.out.2.2.size)).trans (hfr.below (Nat.le_trans HO.out.2.2.size hb.size) fun k e => by unfold only at e; omega)
  have hl2 : LentS W (w.heap.size + 2) (.slice (some ⟨g1, 0, none⟩) syms.length c1) syms := (hl.mono (by omega)).wide hfr fun g hg e => by unfold only at e; omega
  have HL2 := Lib.hid (And.intro hl2 (And.intro hBW hfr.size))
  have HLP1 := Lib.hid (HLP.out W (Fr.new hBW))
  have HQ := Lib.hid (And.intro q0 q1)
  have hszW : w.heap.size + 1 < W.heap.size := (Array.getElem?_eq_some_iff.1 q1).1
  have e2 : W.cell? ⟨w.heap.size, 2, none⟩ = some (.slice pa prods.length pc) := obj_cell q0 2 rfl
  clear hl hlr hb p0 d1 f1 hfr hl2 hBW q0 q1 HLP HLS1 z1
  go_upto_region 3 with (go_at_call 37; refine HLP1.out.mono ?_; rintro e w3 ⟨v, rfl, hl3, hb3⟩; obtain ⟨g2, c2, xs, rfl, hlr⟩ := id hl3; have p0 := (Fr.new hb3).obj HQ.out.1 fun e => e; have d2 := obj_cell p0 2 rfl; have f2 := obj_frozen p0 2)
  refine wp_atW (F := fun X => X.heap[w.heap.size]? = some (.cells #[.int .i64 terms, .slice (some ⟨g1, 0, none⟩) syms.length c1, .slice (some ⟨g2, 0, none⟩) prods.length c2] 39 (0, 0)) ∧ X.heap[w.heap.size + 1]? = some (.cells #[.int .i64 0, .slice none 0 0, .slice none 0 0] 39 (0, 0)) ∧ Fr (only w.heap.size) w3 X) ?_ ?_
  · exact ⟨setCell_obj p0 _, (Fr.setCell w3 ⟨w.heap.size, 2, none⟩ _).obj ((Fr.new hb3).obj HQ.out.2 fun e => e) (fun e => by unfold only at e; simp at e), Fr.setCell' _ _ rfl⟩
  rintro X ⟨q0, q1, hfr⟩
  have x0 : X.cell? ⟨w.heap.size, 0, none⟩ = some (.int .i64 terms) := obj_cell q0 0 rfl
  have x1 : X.cell? ⟨w.heap.size, 1, none⟩ = some (.slice (some ⟨g1, 0, none⟩) syms.length c1) := obj_cell q0 1 rfl
  have x2 : X.cell? ⟨w.heap.size, 2, none⟩ = some (.slice (some ⟨g2, 0, none⟩) prods.length c2) := obj_cell q0 2 rfl
  have y0 : X.cell? ⟨w.heap.size + 1, 0, none⟩ = some (.int .i64 0) := obj_cell q1 0 rfl
  have y1 : X.cell? ⟨w.heap.size + 1, 1, none⟩ = some (.slice none 0 0) := obj_cell q1 1 rfl
  have y2 : X.cell? ⟨w.heap.size + 1, 2, none⟩ = some (.slice none 0 0) := obj_cell q1 2 rfl
  have f0 := obj_frozen q1 0
  have f1 := obj_frozen q1 1
  have f3 := obj_frozen q1 2
  have HX := Lib.hid (And.intro hl3 (And.intro hb3 hfr))
  clear hl3 hlr hb3 p0 d2 f2 hfr HLP1 e2 q0 q1
  go_wp2
  refine at_world (Q := bodyPost _ _ _ _ _) (F := fun Y => (Y.cell? ⟨w.heap.size + 1, 0, none⟩ = some (.int .i64 terms) ∧ Y.cell? ⟨w.heap.size + 1, 1, none⟩ = some (.slice (some ⟨g1, 0, none⟩) syms.length c1) ∧ Y.cell? ⟨w.heap.size + 1, 2, none⟩ = some (.slice (some ⟨g2, 0, none⟩) prods.length c2)) ∧ Fr (only (w.heap.size + 1)) X Y) ?_ ?_
  · refine ⟨⟨?_, ?_, ?_⟩, ?_⟩
    · simp [go_sem, y0]
    · simp [go_sem, y1]
    · simp [go_sem, y2]
    · repeat (first | with_reducible exact Fr.refl _ _ | refine Fr.trans ?_ (Fr.setCell' _ _ rfl))
  · rintro Y ⟨⟨r0, r1, r2⟩, hfY⟩
    refine bodyPost_ret (by simp [results, Try.results17, go_sem, r0, r1, r2]; try rfl) rfl ?_
    have hF : Fr (fun k => k = w.heap.size ∨ k = w.heap.size + 1) W Y := ((Fr.new HX.out.2.1).wide.trans (HX.out.2.2.mono fun _ _ e => .inl e)).trans (hfY.mono fun _ _ e => .inr e)
    have hF3 : Fr (fun k => k = w.heap.size ∨ k = w.heap.size + 1) w3 Y := (HX.out.2.2.mono fun _ _ e => .inl e).trans (hfY.mono fun _ _ e => .inr e)
    have hno : ∀ g, w.heap.size + 2 ≤ g → ¬ (g = w.heap.size ∨ g = w.heap.size + 1) := fun g hg e => by omega
    exact ⟨g1, c1, g2, c2, rfl, ⟨hterms, _, _, rfl, (HL2.out.1.wide hF hno).mono (by omega), ((HX.out.1.mono (by omega : w.heap.size + 2 ≤ W.heap.size)).wide hF3 hno).mono (by omega)⟩, HL2.out.2.1.trans (hF.below HL2.out.2.1.size fun k e => by omega)⟩

set_option maxRecDepth 100000 in
set_option maxHeartbeats 2000000 in
theorem sameGrammar_any (u v : Value) (G : Gram) (w : World) (hu : IsGram w u G) (hv : IsGram w v G) :
    Calls Try.prog 23 #[u, v] w fun e w' => e = .returned (.bool true) ∧ Below w.heap.size w w' := by
  have hg1 := hu
  have hg2 := hv
  obtain ⟨_, us, up, rfl, hus, hup⟩ := hu
  obtain ⟨_, vs, vp, rfl, hvs, hvp⟩ := hv
  obtain ⟨_, sa, sc, rfl, hz1⟩ := id hus
  obtain ⟨_, pa, pc, rfl, hz2⟩ := id hup
  obtain ⟨_, sb, sd, rfl, hz3⟩ := id hvs
  obtain ⟨_, pb, pd, rfl, hz4⟩ := id hvp
  clear hz1 hz2 hz3 hz4
  obtain ⟨terms, syms, prods⟩ := G
  simp only at hus hup hvs hvp hg1 hg2
  simp only
  have hx := two_boxes w (.cells #[.int .i64 terms, .slice sa syms.length sc, .slice pa prods.length pc] 39 (0, 0)) (.cells #[.int .i64 terms, .slice sb syms.length sd, .slice pb prods.length pd] 39 (0, 0))
  obtain ⟨w1, hw1⟩ : ∃ w1, w1 = (w.alloc (.cells #[.int .i64 terms, .slice sa syms.length sc, .slice pa prods.length pc] 39 (0, 0))).alloc (.cells #[.int .i64 terms, .slice sb syms.length sd, .slice pb prods.length pd] 39 (0, 0)) := ⟨_, rfl⟩
  rw [← hw1] at hx
  obtain ⟨o0, o1, hB1⟩ := hx
  have g0 : ∀ q : After w1, q.w.cell? ⟨w.heap.size, 0, none⟩ = some (.int .i64 terms) := after_obj o0 0 rfl
  have g1 : ∀ q : After w1, q.w.cell? ⟨w.heap.size, 1, none⟩ = some (.slice sa syms.length sc) := after_obj o0 1 rfl
  have g2 : ∀ q : After w1, q.w.cell? ⟨w.heap.size, 2, none⟩ = some (.slice pa prods.length pc) := after_obj o0 2 rfl
  have k0 : ∀ q : After w1, q.w.cell? ⟨w.heap.size + 1, 0, none⟩ = some (.int .i64 terms) := after_obj o1 0 rfl
  have k1 : ∀ q : After w1, q.w.cell? ⟨w.heap.size + 1, 1, none⟩ = some (.slice sb syms.length sd) := after_obj o1 1 rfl
  have k2 : ∀ q : After w1, q.w.cell? ⟨w.heap.size + 1, 2, none⟩ = some (.slice pb prods.length pd) := after_obj o1 2 rfl
  have z0 : w1.cell? ⟨w.heap.size, 0, none⟩ = some (.int .i64 terms) := obj_cell o0 0 rfl
  have z1 : w1.cell? ⟨w.heap.size, 1, none⟩ = some (.slice sa syms.length sc) := obj_cell o0 1 rfl
  have z2 : w1.cell? ⟨w.heap.size, 2, none⟩ = some (.slice pa prods.length pc) := obj_cell o0 2 rfl
  have y0 : w1.cell? ⟨w.heap.size + 1, 0, none⟩ = some (.int .i64 terms) := obj_cell o1 0 rfl
  have y1 : w1.cell? ⟨w.heap.size + 1, 1, none⟩ = some (.slice sb syms.length sd) := obj_cell o1 1 rfl
  have y2 : w1.cell? ⟨w.heap.size + 1, 2, none⟩ = some (.slice pb prods.length pd) := obj_cell o1 2 rfl
  have HS := Lib.hid ((sameSyms_any _ _ syms w1 (hus.fr (Fr.new hB1)) (hvs.fr (Fr.new hB1))).mono fun e w' hh => (show e = .returned (.bool true) ∧ ∃ q : After w1, w' = q.w from ⟨hh.1, ⟨w', hh.2⟩, rfl⟩))
  have HP := Lib.hid fun q : After w1 => after_call q (sameProds_any _ _ prods q.w ((hup.fr (Fr.new hB1)).fr (Fr.new q.ok)) ((hvp.fr (Fr.new hB1)).fr (Fr.new q.ok)))
  have HW := Lib.hid hw1
  have HB := Lib.hid hB1
  clear hw1 hB1 o0 o1 hus hup hvs hvp hg1 hg2
  go_enter Try.func23, Try.ntmps23
  go_upto_region 1 with fail
  rw [← HW.out]
  go_wp2_with (first | (go_at_call 49; refine HS.out.mono ?_; rintro e w' ⟨rfl, q, rfl⟩) | (go_at_call 50; refine (HP.out _).mono ?_; rintro e w' ⟨rfl, q', rfl⟩))
  go_ret
  exact ⟨rfl, HB.out.trans (q'.ok.mono HB.out.size)⟩

set_option maxRecDepth 100000 in
set_option maxHeartbeats 2000000 in
theorem keptGrammar_any (B : Nat) (u v : Value) (G : Gram) (w : World) (hu : LentG w B u G) (hv : IsGram w v G) :
    Calls Try.prog 20 #[u, v] w fun e w' => e = .returned (.bool true) ∧ Below w.heap.size w w' := by
  have hg1 := hu.gram
  have hg2 := hv
  obtain ⟨_, us, up, rfl, hus, hup⟩ := hu
  obtain ⟨_, vs, vp, rfl, hvs, hvp⟩ := hv
  obtain ⟨_, sa, sc, rfl, hz1⟩ := id hus.syms
  obtain ⟨_, pa, pc, rfl, hz2⟩ := id hup.prds
  obtain ⟨_, sb, sd, rfl, hz3⟩ := id hvs
  obtain ⟨_, pb, pd, rfl, hz4⟩ := id hvp
  clear hz1 hz2 hz3 hz4
  obtain ⟨terms, syms, prods⟩ := G
  simp only at hus hup hvs hvp hg1 hg2
  simp only
  have hx := two_boxes w (.cells #[.int .i64 terms, .slice sa syms.length sc, .slice pa prods.length pc] 39 (0, 0)) (.cells #[.int .i64 terms, .slice sb syms.length sd, .slice pb prods.length pd] 39 (0, 0))
  obtain ⟨w1, hw1⟩ : ∃ w1, w1 = (w.alloc (.cells #[.int .i64 terms, .slice sa syms.length sc, .slice pa prods.length pc] 39 (0, 0))).alloc (.cells #[.int .i64 terms, .slice sb syms.length sd, .slice pb prods.length pd] 39 (0, 0)) := ⟨_, rfl⟩
  rw [← hw1] at hx
  obtain ⟨o0, o1, hB1⟩ := hx
  have g0 : ∀ q : After w1, q.w.cell? ⟨w.heap.size, 0, none⟩ = some (.int .i64 terms) := after_obj o0 0 rfl
  have g1 : ∀ q : After w1, q.w.cell? ⟨w.heap.size, 1, none⟩ = some (.slice sa syms.length sc) := after_obj o0 1 rfl
  have g2 : ∀ q : After w1, q.w.cell? ⟨w.heap.size, 2, none⟩ = some (.slice pa prods.length pc) := after_obj o0 2 rfl
  have k0 : ∀ q : After w1, q.w.cell? ⟨w.heap.size + 1, 0, none⟩ = some (.int .i64 terms) := after_obj o1 0 rfl
  have k1 : ∀ q : After w1, q.w.cell? ⟨w.heap.size + 1, 1, none⟩ = some (.slice sb syms.length sd) := after_obj o1 1 rfl
  have k2 : ∀ q : After w1, q.w.cell? ⟨w.heap.size + 1, 2, none⟩ = some (.slice pb prods.length pd) := after_obj o1 2 rfl
  have z0 : w1.cell? ⟨w.heap.size, 0, none⟩ = some (.int .i64 terms) := obj_cell o0 0 rfl
  have z1 : w1.cell? ⟨w.heap.size, 1, none⟩ = some (.slice sa syms.length sc) := obj_cell o0 1 rfl
  have z2 : w1.cell? ⟨w.heap.size, 2, none⟩ = some (.slice pa prods.length pc) := obj_cell o0 2 rfl
  have y0 : w1.cell? ⟨w.heap.size + 1, 0, none⟩ = some (.int .i64 terms) := obj_cell o1 0 rfl
  have y1 : w1.cell? ⟨w.heap.size + 1, 1, none⟩ = some (.slice sb syms.length sd) := obj_cell o1 1 rfl
  have y2 : w1.cell? ⟨w.heap.size + 1, 2, none⟩ = some (.slice pb prods.length pd) := obj_cell o1 2 rfl
  have HG := Lib.hid ((sameGrammar_any _ _ ⟨terms, syms, prods⟩ w1 (hg1.fr (Fr.new hB1)) (hg2.fr (Fr.new hB1))).mono fun e w' hh => (show e = .returned (.bool true) ∧ ∃ q : After w1, w' = q.w from ⟨hh.1, ⟨w', hh.2⟩, rfl⟩))
  have HS := Lib.hid fun q : After w1 => after_call q (keptSyms_any B _ _ syms q.w ((hus.fr (Fr.new hB1)).fr (Fr.new q.ok)) ((hvs.fr (Fr.new hB1)).fr (Fr.new q.ok)))
  have HP := Lib.hid fun q : After w1 => after_call q (keptProds_any B _ _ prods q.w ((hup.fr (Fr.new hB1)).fr (Fr.new q.ok)) ((hvp.fr (Fr.new hB1)).fr (Fr.new q.ok)))
  have HW := Lib.hid hw1
  have HB := Lib.hid hB1
  clear hw1 hB1 o0 o1 hus hup hvs hvp hg1 hg2
  go_enter Try.func20, Try.ntmps20
  go_upto_region 1 with fail
  rw [← HW.out]
  go_wp2_with (first | (go_at_call 23; refine HG.out.mono ?_; rintro e w' ⟨rfl, q, rfl⟩) | (go_at_call 44; refine (HS.out _).mono ?_; rintro e w' ⟨rfl, q1, rfl⟩) | (go_at_call 45; refine (HP.out _).mono ?_; rintro e w' ⟨rfl, q2, rfl⟩))
  go_ret
  exact ⟨rfl, HB.out.trans (q2.ok.mono HB.out.size)⟩
end Go.Proofs.Ytehaoiimhgkckaa
