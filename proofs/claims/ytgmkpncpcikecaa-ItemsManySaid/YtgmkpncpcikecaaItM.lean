/-
  Package items: Collection.
-/
import Derived.Test.YtgmkpncpcikecaaItL
namespace Go.Proofs.Ytgmkpncpcikecaa
open Go.RowKit Go.MapKept Go.ChangeMaps
set_option maxHeartbeats 400000

/-- What Collection answers. -/
def ColP (G : Gram) (w : World) (e : Ending) (w' : World) : Prop := Below w.heap.size w w' ∧
  if rightG G = false then e = .returned (.tuple #[.slice none 0 0, .int .i64 2]) else match colI G with
  | some (ks, gs) => ∃ B sb am lv vs, e = .returned (.tuple #[lv, .int .i64 0]) ∧ StsM w' B sb am lv vs ks gs ∧ w.heap.size ≤ B
  | none => e = .returned (.tuple #[.slice none 0 0, .int .i64 104])

set_option maxRecDepth 100000 in
set_option maxHeartbeats 4000000 in
theorem colF_bad (G : Gram) (v : Value) (w : World) (h : IsGram w v G) (hr : rightG G = false) :
    Calls Try.prog 7 #[v] w (ColP G w) := by
  have hG := h
  have h0 := h
  obtain ⟨hterms, vs, vp, rfl, hs, hp⟩ := h
  have HRT := Lib.hid fun W (k : Below w.heap.size w W) => right_gram G _ W (hG.fr (Fr.new k))
  rw [hr] at HRT
  obtain ⟨-, sa, sc, rfl, -, -, -⟩ := id hs
  obtain ⟨-, pa, pc, rfl, -, -, -⟩ := id hp
  have HR := Lib.hid hr
  clear hG hs hp hr
  have HG := Lib.hid h0
  clear h0
  go_enter Try.func7, Try.ntmps7
  go_upto_region 1 with fail
  refine wp_at (F := fun W => W.heap[w.heap.size]? = some (.cells #[.int .i64 G.terms, .slice sa G.syms.length sc, .slice pa G.prods.length pc] 25 (0, 0)) ∧ Boxed W (w.heap.size + 1) 27 (.slice none 0 0) ∧ Boxed W (w.heap.size + 1 + 1) 28 (.int .i64 0) ∧ Below w.heap.size w W) ?_ ?_
  · refine ⟨alloc_older (alloc_older (alloc_obj _ _)), ?_, ?_, (((Below.refl _ w).alloc (Nat.le_refl _) _).alloc (by simp) _).alloc (by simp; omega) _⟩
    · exact alloc_older (alloc_at (by simp))
    · exact alloc_at (by simp)
  intro W0 ⟨hgb, hb1, hb2, hB0⟩
  have c0 := obj_cell hgb 0 (v := .int .i64 G.terms) rfl
  have c1 := obj_cell hgb 1 (v := .slice sa G.syms.length sc) rfl
  have c2 := obj_cell hgb 2 (v := .slice pa G.prods.length pc) rfl
  have HR0 := Lib.hid (HRT.out W0 hB0)
  have HB := Lib.hid (And.intro hb1 (And.intro hb2 hB0))
  generalize hn0 : w.heap.size = n0 at *
  have HN0 := Lib.hid hn0
  clear hn0
  clear hgb hb1 hb2 hB0 HRT
  go_wp2_with (go_at_call 12; refine HR0.out.mono ?_; rintro e w2 ⟨rfl, hb2⟩; have x1 := boxed_below HB.out.1 hb2; have x2 := boxed_below HB.out.2.1 hb2; have y1 := x1.cell; have y2 := x2.cell; have z1 := x1.frozen; have z2 := x2.frozen)
  have f2 : ((w2.setCell ⟨n0 + 1, 0, none⟩ (.slice none 0 0)).setCell ⟨n0 + 1 + 1, 0, none⟩ (.int .i64 2)).cell? ⟨n0 + 1 + 1, 0, none⟩ = some (.int .i64 2) := World.cell?_setCell_same _ _ _ ((World.cell?_setCell_other _ _ _ _ (by simp)).trans y2)
  have f1 : ((w2.setCell ⟨n0 + 1, 0, none⟩ (.slice none 0 0)).setCell ⟨n0 + 1 + 1, 0, none⟩ (.int .i64 2)).cell? ⟨n0 + 1, 0, none⟩ = some (.slice none 0 0) := (World.cell?_setCell_other _ _ _ _ (by simp)).trans (World.cell?_setCell_same _ _ _ y1)
  refine bodyPost_ret (v := .tuple #[.slice none 0 0, .int .i64 2]) (by simp [results, Try.results7, go_sem, f1, f2]) rfl ?_
  unfold ColP
  rw [if_pos HR.out, HN0.out]
  have hB2 : Below n0 w w2 := HB.out.2.2.trans (hb2.mono (by have := HB.out.2.2.size; rw [HN0.out] at this; exact this))
  exact ⟨(hB2.setCell (p := ⟨n0 + 1, 0, none⟩) (by simp) _).setCell (p := ⟨n0 + 1 + 1, 0, none⟩) (by simp; omega) _, rfl⟩
end Go.Proofs.Ytgmkpncpcikecaa
