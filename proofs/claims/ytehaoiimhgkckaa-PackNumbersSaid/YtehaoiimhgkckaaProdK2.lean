/-
  The statements' own helpers on productions: markProd, LentProd, LentProds.
-/
import Derived.Test.YtehaoiimhgkckaaProdK1
namespace Go.Proofs.Ytehaoiimhgkckaa
open Go.RowKit
set_option maxHeartbeats 400000

def cellsP (x : Prd × Value) : List Value := prdCells x.1 x.2
/-- A place's mark. -/
def markP (i : Int) : Prd × Value := (⟨0, [], 0, false, nNone, markOf i⟩, .slice none 0 0)
def markPs (k : Nat) : List (Prd × Value) := (List.range k).map fun j : Nat => markP j
theorem markPs_succ (k : Nat) : markPs (k + 1) = markPs k ++ [markP k] := by simp [markPs, List.range_succ]
theorem markPs_length (k : Nat) : (markPs k).length = k := by simp [markPs]

theorem markProd_any (i : Int) (w : World) (h0 : 0 ≤ i) (hi : i < 100) :
    Calls Try.prog 64 #[.int .i64 1, .int .i64 i] w fun e w' => e = .returned (.agg #[.int .i64 0, .slice none 0 0, .int .i64 0, .bool false, .string ⟨#[]⟩, .int .i64 (markOf i)]) ∧ Below w.heap.size w w' := by
  have HM := Lib.hid fun w => mark_any i w h0 hi
  go_enter Try.func64, Try.ntmps64
  go_wp2_with (go_at_call 57; refine (HM.out _).mono ?_; rintro e w' ⟨rfl, rfl⟩)
  go_returns
  exact ⟨rfl, (Below.refl _ _).alloc (Nat.le_refl _) _⟩

theorem lentInts_any (v : Value) (xs : List Int) (w : World) (h : Ints w v xs) : Calls Try.prog 26 #[v] w fun e w' => ∃ a cap, e = .returned (.slice a xs.length cap) ∧ Lent w' w.heap.size (.slice a xs.length cap) xs ∧ Below w.heap.size w w' := by
  obtain ⟨_, h1, a, c, rfl, _, _, hx⟩ := h
  refine (lent_any a c xs w h1 hx).mono ?_
  rintro e w' ⟨v, rfl, hl, hb⟩
  obtain ⟨g, cap, rfl, hr⟩ := id hl
  exact ⟨_, _, rfl, hl, hb⟩

theorem at_world {Q : World → Prop} {w : World} (F : World → Prop) (hF : F w) (h : ∀ W, F W → Q W) : Q w := h w hF
theorem obj_frozen {w : World} {b : Nat} {cs : Array Value} {t : TypeId} (h : w.heap[b]? = some (.cells cs t (0, 0))) (i : Nat) : w.frozen? ⟨b, i, none⟩ = false := by
  simp only [World.frozen?, h]
  simp
theorem prod_boxes {w : World} {b b' : Nat} {u0 u1 u2 u3 u4 u5 v0 v1 v2 v3 v4 v5 : Value} {t t' : TypeId} (h : w.heap[b]? = some (.cells #[u0, u1, u2, u3, u4, u5] t (0, 0))) (h' : w.heap[b']? = some (.cells #[v0, v1, v2, v3, v4, v5] t' (0, 0))) :
    (w.cell? ⟨b, 0, none⟩ = some u0 ∧ w.cell? ⟨b, 1, none⟩ = some u1 ∧ w.cell? ⟨b, 2, none⟩ = some u2 ∧ w.cell? ⟨b, 3, none⟩ = some u3 ∧ w.cell? ⟨b, 4, none⟩ = some u4 ∧ w.cell? ⟨b, 5, none⟩ = some u5) ∧
    (w.cell? ⟨b', 0, none⟩ = some v0 ∧ w.cell? ⟨b', 1, none⟩ = some v1 ∧ w.cell? ⟨b', 2, none⟩ = some v2 ∧ w.cell? ⟨b', 3, none⟩ = some v3 ∧ w.cell? ⟨b', 4, none⟩ = some v4 ∧ w.cell? ⟨b', 5, none⟩ = some v5) ∧
    w.frozen? ⟨b, 1, none⟩ = false ∧ w.frozen? ⟨b', 0, none⟩ = false ∧ w.frozen? ⟨b', 1, none⟩ = false ∧ w.frozen? ⟨b', 2, none⟩ = false ∧ w.frozen? ⟨b', 3, none⟩ = false ∧ w.frozen? ⟨b', 4, none⟩ = false ∧ w.frozen? ⟨b', 5, none⟩ = false :=
  ⟨⟨obj_cell h 0 rfl, obj_cell h 1 rfl, obj_cell h 2 rfl, obj_cell h 3 rfl, obj_cell h 4 rfl, obj_cell h 5 rfl⟩, ⟨obj_cell h' 0 rfl, obj_cell h' 1 rfl, obj_cell h' 2 rfl, obj_cell h' 3 rfl, obj_cell h' 4 rfl, obj_cell h' 5 rfl⟩, obj_frozen h 1,
    obj_frozen h' 0, obj_frozen h' 1, obj_frozen h' 2, obj_frozen h' 3, obj_frozen h' 4, obj_frozen h' 5⟩

set_option maxRecDepth 100000 in
set_option maxHeartbeats 2000000 in
theorem lentProd_any (u : Value) (p : Prd) (w : World) (hu : IsPrd w u p) :
    Calls Try.prog 63 #[u] w fun e w' => ∃ a cap, e = .returned (.agg #[.int .i64 p.left, .slice a p.right.length cap, .int .i64 p.prec, .bool p.has, .string p.action, .int .i64 p.whr]) ∧ Lent w' w.heap.size (.slice a p.right.length cap) p.right ∧ Below w.heap.size w w' := by
  obtain ⟨_, ra, hra, rfl⟩ := hu
  have ha := hra
  obtain ⟨_, _, a, ac, rfl, _⟩ := hra
  obtain ⟨left, right, prec, has, action, whr⟩ := p
  simp only at ha
  unfold prdVal
  simp only
  have HL := Lib.hid fun (x : World) (hx : Fr nothing w x) => lentInts_any _ right x (ha.fr hx)
  clear ha
  go_enter Try.func63, Try.ntmps63
  have hx := two_boxes w (.cells #[.int .i64 left, .slice a right.length ac, .int .i64 prec, .bool has, .string action, .int .i64 whr] 62 (0, 0)) (.cells #[.int .i64 0, .slice none 0 0, .int .i64 0, .bool false, .string ⟨#[]⟩, .int .i64 0] 62 (0, 0))
  obtain ⟨w1, hw1⟩ : ∃ w1, w1 = (w.alloc (.cells #[.int .i64 left, .slice a right.length ac, .int .i64 prec, .bool has, .string action, .int .i64 whr] 62 (0, 0))).alloc (.cells #[.int .i64 0, .slice none 0 0, .int .i64 0, .bool false, .string ⟨#[]⟩, .int .i64 0] 62 (0, 0)) := ⟨_, rfl⟩
  rw [← hw1] at hx
  obtain ⟨o0, o1, hB1⟩ := hx
  have z1 : w1.cell? ⟨w.heap.size, 1, none⟩ = some (.slice a right.length ac) := obj_cell o0 1 rfl
  have HL1 := Lib.hid (HL.out w1 (Fr.new hB1))
  have HW := Lib.hid hw1
  have HO := Lib.hid (And.intro o0 (And.intro o1 hB1))
  clear HL hw1 hB1 o0 o1
  go_upto_region 1 with fail
  rw [← HW.out]
  go_wp2_with (go_at_call 26; refine HL1.out.mono ?_; rintro e w' ⟨b, bc, rfl, hl, hb⟩; obtain ⟨⟨c0, c1, c2, c3, c4, c5⟩, ⟨d0, d1, d2, d3, d4, d5⟩, f1, ⟨e0, e1, e2, e3, e4, e5⟩⟩ := prod_boxes ((Fr.new hb).obj HO.out.1 fun e => e) ((Fr.new hb).obj HO.out.2.1 fun e => e))
  refine at_world (Q := bodyPost _ _ _ _ _) (F := fun W => (W.cell? ⟨w.heap.size + 1, 0, none⟩ = some (.int .i64 left) ∧ W.cell? ⟨w.heap.size + 1, 1, none⟩ = some (.slice b right.length bc) ∧ W.cell? ⟨w.heap.size + 1, 2, none⟩ = some (.int .i64 prec) ∧
      W.cell? ⟨w.heap.size + 1, 3, none⟩ = some (.bool has) ∧ W.cell? ⟨w.heap.size + 1, 4, none⟩ = some (.string action) ∧ W.cell? ⟨w.heap.size + 1, 5, none⟩ = some (.int .i64 whr)) ∧ Fr (fun k => k = w.heap.size ∨ k = w.heap.size + 1) w' W) ?_ ?_
  · refine ⟨⟨?_, ?_, ?_, ?_, ?_, ?_⟩, ?_⟩
    · simp [go_sem, d0]
    · simp [go_sem, d1]
    · simp [go_sem, d2]
    · simp [go_sem, d3]
    · simp [go_sem, d4]
    · simp [go_sem, d5]
    · repeat (first | with_reducible exact Fr.refl _ _ | refine Fr.trans ?_ (Fr.setCell' _ _ (by first | exact .inl rfl | exact .inr rfl)))
  · rintro W ⟨⟨x0, x1, x2, x3, x4, x5⟩, hf⟩
    refine bodyPost_ret (by simp [results, Try.results63, go_sem, x0, x1, x2, x3, x4, x5]; try rfl) rfl ?_
    have hs := HO.out.2.2.size
    have hw1s : w.heap.size + 1 < w1.heap.size := (Array.getElem?_eq_some_iff.1 HO.out.2.1).1
    refine ⟨b, bc, rfl, (hl.fr hf fun g hg => by omega).mono hs, (HO.out.2.2.trans (hb.mono hs)).trans (hf.below (Nat.le_trans hs hb.size) fun k hk => by omega)⟩
end Go.Proofs.Ytehaoiimhgkckaa
