/-
  Package pack: Pack of no table.
-/
import Derived.Test.YtehaoiimhgkckaaPb3
namespace Go.Proofs.Ytehaoiimhgkckaa
open Go.RowKit
set_option maxHeartbeats 400000

theorem tableRight_none (sa qa : Option Addr) (sc qc : Nat) (w : World) (hg : IsGram w (.agg #[.int .i64 3, .slice sa 5 sc, .slice qa 3 qc]) oneG) :
    Calls Try.prog 51 #[.agg #[.int .i64 3, .slice sa 5 sc, .slice qa 3 qc], .agg #[nilS, nilS]] w fun e w' => e = .returned (.bool false) ∧ Below w.heap.size w w' := by
  have hx := three_boxes w (.cells #[.int .i64 3, .slice sa 5 sc, .slice qa 3 qc] 39 (0, 0)) (.cells #[nilS, nilS] 74 (0, 0)) (.cells #[.int .i64 3, .slice sa 5 sc, .slice qa 3 qc, .int .i64 0] 135 (0, 0))
  obtain ⟨w1, hw1⟩ : ∃ w1, w1 = (((w.alloc (.cells #[.int .i64 3, .slice sa 5 sc, .slice qa 3 qc] 39 (0, 0))).alloc (.cells #[nilS, nilS] 74 (0, 0))).alloc (.cells #[.int .i64 3, .slice sa 5 sc, .slice qa 3 qc, .int .i64 0] 135 (0, 0))) := ⟨_, rfl⟩
  rw [← hw1] at hx
  obtain ⟨o0, o1, o2, hB1⟩ := hx
  have hr : rightG oneG = true := one_right
  have HS := Lib.hid (hr ▸ right_gram oneG _ w1 (hg.fr (Fr.new hB1)))
  have z0 : w1.cell? ⟨w.heap.size, 0, none⟩ = some (.int .i64 3) := obj_cell o0 0 rfl
  have z1 : w1.cell? ⟨w.heap.size, 1, none⟩ = some (.slice sa 5 sc) := obj_cell o0 1 rfl
  have z2 : w1.cell? ⟨w.heap.size, 2, none⟩ = some (.slice qa 3 qc) := obj_cell o0 2 rfl
  have HO := Lib.hid o2
  have HW := Lib.hid hw1
  have HB := Lib.hid hB1
  have t1 : decide ((0 : Int) < 1) = true := by decide
  clear hg hr o0 o1 o2 hB1 hw1
  go_enter Try.func51, Try.ntmps51
  go_upto_region 2 with fail
  rw [← HW.out]
  go_wp2_with (go_at_call 18; refine HS.out.mono ?_; rintro e w2 ⟨rfl, hb2⟩; have q3 : w2.cell? ⟨w.heap.size + 2, 3, none⟩ = some (.int .i64 0) := obj_cell ((Fr.new hb2).obj HO.out fun e => e) 3 rfl)
  go_ret
  exact ⟨rfl, HB.out.trans (hb2.mono HB.out.size)⟩

set_option maxRecDepth 100000 in
theorem pack_none (sa qa : Option Addr) (sc qc : Nat) (w : World) (hg : IsGram w (.agg #[.int .i64 3, .slice sa 5 sc, .slice qa 3 qc]) oneG) :
    Calls Try.prog 24 #[.agg #[.int .i64 3, .slice sa 5 sc, .slice qa 3 qc], .agg #[nilS, nilS]] w fun e w' => e = .returned (.tuple #[.agg #[nilS, nilS, nilS, nilS, nilS, nilS, nilS], .int .i64 4]) ∧ Below w.heap.size w w' := by
  have hx := three_boxes w (.cells #[.int .i64 3, .slice sa 5 sc, .slice qa 3 qc] 39 (0, 0)) (.cells #[nilS, nilS] 74 (0, 0)) (outO nilS nilS nilS nilS nilS nilS nilS)
  obtain ⟨w1, hw1⟩ : ∃ w1, w1 = ((w.alloc (.cells #[.int .i64 3, .slice sa 5 sc, .slice qa 3 qc] 39 (0, 0))).alloc (.cells #[nilS, nilS] 74 (0, 0))).alloc (outO nilS nilS nilS nilS nilS nilS nilS) := ⟨_, rfl⟩
  rw [← hw1] at hx
  obtain ⟨o0, o1, o2, hB1⟩ := hx
  have HRT := Lib.hid (tableRight_none sa qa sc qc w1 (hg.fr (Fr.new hB1)))
  have z0 : w1.cell? ⟨w.heap.size, 0, none⟩ = some (.int .i64 3) := obj_cell o0 0 rfl
  have z1 : w1.cell? ⟨w.heap.size, 1, none⟩ = some (.slice sa 5 sc) := obj_cell o0 1 rfl
  have z2 : w1.cell? ⟨w.heap.size, 2, none⟩ = some (.slice qa 3 qc) := obj_cell o0 2 rfl
  have y0 : w1.cell? ⟨w.heap.size + 1, 0, none⟩ = some nilS := obj_cell o1 0 rfl
  have y1 : w1.cell? ⟨w.heap.size + 1, 1, none⟩ = some nilS := obj_cell o1 1 rfl
  have HO := Lib.hid o2
  have HW := Lib.hid hw1
  have HB := Lib.hid hB1
  clear hg o0 o1 o2 hB1 hw1
  go_enter Try.func24, Try.ntmps24
  go_upto_region 1 with fail
  have hout : (Obj.cells #[Value.slice none 0 0, Value.slice none 0 0, Value.slice none 0 0, Value.slice none 0 0, Value.slice none 0 0, Value.slice none 0 0, Value.slice none 0 0] 25 (0, 0)) = outO nilS nilS nilS nilS nilS nilS nilS := rfl
  rw [hout, ← HW.out]
  clear hout
  go_upto_region 2 with (go_at_call 51; refine HRT.out.mono ?_; rintro e w2 ⟨rfl, hb2⟩)
  have hb : w2.heap[w.heap.size + 1 + 1]? = some (outO nilS nilS nilS nilS nilS nilS nilS) := (Fr.new hb2).obj HO.out fun e => e
  have x0 : w2.cell? ⟨w.heap.size + 1 + 1, 0, none⟩ = some nilS := obj_cell hb 0 rfl
  have x1 : w2.cell? ⟨w.heap.size + 1 + 1, 1, none⟩ = some nilS := obj_cell hb 1 rfl
  have x2 : w2.cell? ⟨w.heap.size + 1 + 1, 2, none⟩ = some nilS := obj_cell hb 2 rfl
  have x3 : w2.cell? ⟨w.heap.size + 1 + 1, 3, none⟩ = some nilS := obj_cell hb 3 rfl
  have x4 : w2.cell? ⟨w.heap.size + 1 + 1, 4, none⟩ = some nilS := obj_cell hb 4 rfl
  have x5 : w2.cell? ⟨w.heap.size + 1 + 1, 5, none⟩ = some nilS := obj_cell hb 5 rfl
  have x6 : w2.cell? ⟨w.heap.size + 1 + 1, 6, none⟩ = some nilS := obj_cell hb 6 rfl
  have f0 := obj_frozen hb 0
  have f1 := obj_frozen hb 1
  have f2 := obj_frozen hb 2
  have f3 := obj_frozen hb 3
  have f4 := obj_frozen hb 4
  have f5 := obj_frozen hb 5
  have f6 := obj_frozen hb 6
  have HB2 := Lib.hid (HB.out.trans (hb2.mono HB.out.size))
  clear hb hb2 HRT y0 y1 z0 z1 z2
  go_wp2
  refine at_world (Q := bodyPost _ _ _ _ _) (F := fun Y => (Y.cell? ⟨w.heap.size + 1 + 1, 0, none⟩ = some nilS ∧ Y.cell? ⟨w.heap.size + 1 + 1, 1, none⟩ = some nilS ∧ Y.cell? ⟨w.heap.size + 1 + 1, 2, none⟩ = some nilS ∧ Y.cell? ⟨w.heap.size + 1 + 1, 3, none⟩ = some nilS ∧ Y.cell? ⟨w.heap.size + 1 + 1, 4, none⟩ = some nilS ∧ Y.cell? ⟨w.heap.size + 1 + 1, 5, none⟩ = some nilS ∧ Y.cell? ⟨w.heap.size + 1 + 1, 6, none⟩ = some nilS) ∧ Fr (only (w.heap.size + 1 + 1)) w2 Y) ?_ ?_
  · refine ⟨⟨?_, ?_, ?_, ?_, ?_, ?_, ?_⟩, ?_⟩
    · simp [go_sem, x0]
    · simp [go_sem, x1]
    · simp [go_sem, x2]
    · simp [go_sem, x3]
    · simp [go_sem, x4]
    · simp [go_sem, x5]
    · simp [go_sem, x6]
    · repeat (first | with_reducible exact Fr.refl _ _ | refine Fr.trans ?_ (Fr.setCell' _ _ rfl))
  · rintro Y ⟨⟨r0, r1, r2, r3, r4, r5, r6⟩, hY⟩
    refine bodyPost_ret (by simp [results, Try.results24, go_sem, r0, r1, r2, r3, r4, r5, r6]; try rfl) rfl ?_
    exact ⟨rfl, HB2.out.trans (hY.below HB2.out.size fun k e => by unfold only at e; omega)⟩
end Go.Proofs.Ytehaoiimhgkckaa
