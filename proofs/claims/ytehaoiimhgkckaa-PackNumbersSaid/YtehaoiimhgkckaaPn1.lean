/-
  PackNumbers: what its packed rows are laid from, in whatever order.
-/
import Derived.Test.YtehaoiimhgkckaaPb7
namespace Go.Proofs.Ytehaoiimhgkckaa
open Go.RowKit
set_option maxHeartbeats 400000

/-- Blocks known whole. -/
def rowI (xs : List Int) : Obj := .cells (xs.map (Value.int .i64)).toArray 3 (0, 0)
def rowA (xs : List Ac) : Obj := .cells (xs.flatMap acCells).toArray 31 (0, 0)
def acts5 : List Ac := [⟨1, 5⟩, ⟨2, 6⟩, ⟨3, 0⟩, ⟨1, 7⟩, ⟨1, 8⟩]
/-- The packed rows with a number x. -/
def numP (x : Int) : Pk := ⟨[x, 2, -1], [0, x, 1], [0, 1, 0, 2, 1], acts5, [1, x, 0], [2, 0, 1, 2, 0], [5, 6, 7, x, 9]⟩
/-- A list of numbers in a block of its own. -/
def SI (w : World) (v : Value) (n : Nat) (xs : List Int) : Prop := ∃ b, v = .slice (some ⟨b, 0, none⟩) n n ∧ w.heap[b]? = some (rowI xs)
def SA (w : World) (v : Value) : Prop := ∃ b, v = .slice (some ⟨b, 0, none⟩) 5 5 ∧ w.heap[b]? = some (rowA acts5)
theorem SI.fr {ch : Nat → Prop} {w w' : World} {v : Value} {n : Nat} {xs : List Int} (h : SI w v n xs) (k : Fr ch w w') (hc : ∀ g, ch g → ∃ cs z, w.heap[g]? = some (.cells cs 25 z)) : SI w' v n xs := by
  obtain ⟨b, h1, h2⟩ := h
  refine ⟨b, h1, k.obj h2 fun e => ?_⟩
  obtain ⟨cs, z, h3⟩ := hc b e
  rw [h2] at h3
  simp [rowI] at h3
theorem SA.fr {ch : Nat → Prop} {w w' : World} {v : Value} (h : SA w v) (k : Fr ch w w') (hc : ∀ g, ch g → ∃ cs z, w.heap[g]? = some (.cells cs 25 z)) : SA w' v := by
  obtain ⟨b, h1, h2⟩ := h
  refine ⟨b, h1, k.obj h2 fun e => ?_⟩
  obtain ⟨cs, z, h3⟩ := hc b e
  rw [h2] at h3
  simp [rowA] at h3
theorem SI.at {w : World} {b n : Nat} {xs : List Int} (h : SI w (.slice (some ⟨b, 0, none⟩) n n) n xs) : w.heap[b]? = some (rowI xs) := by
  obtain ⟨b', he, h⟩ := h
  simp only [Value.slice.injEq, Option.some.injEq, Addr.mk.injEq, and_true] at he
  rw [he]
  exact h
/-- The seven values. -/
structure S7 (w : World) (x : Int) (dv bv cv nv gb gc gn : Value) : Prop where
  dv : SI w dv 3 [x, 2, -1]
  bv : SI w bv 3 [0, x, 1]
  cv : SI w cv 5 [0, 1, 0, 2, 1]
  nv : SA w nv
  gb : SI w gb 3 [1, x, 0]
  gc : SI w gc 5 [2, 0, 1, 2, 0]
  gn : SI w gn 5 [5, 6, 7, x, 9]
theorem S7.fr {ch : Nat → Prop} {w w' : World} {x : Int} {dv bv cv nv gb gc gn : Value} (h : S7 w x dv bv cv nv gb gc gn) (k : Fr ch w w') (hc : ∀ g, ch g → ∃ cs z, w.heap[g]? = some (.cells cs 25 z)) : S7 w' x dv bv cv nv gb gc gn :=
  ⟨h.dv.fr k hc, h.bv.fr k hc, h.cv.fr k hc, h.nv.fr k hc, h.gb.fr k hc, h.gc.fr k hc, h.gn.fr k hc⟩
/-- The first m of such a list. -/
theorem SI.take {w : World} {b n m : Nat} {xs : List Int} (h : w.heap[b]? = some (rowI xs)) (hn : xs.length = n) (hm : m ≤ n) (hx : ∀ x ∈ xs, -9223372036854775808 ≤ x ∧ x ≤ 9223372036854775807) (hl : n ≤ 1000) : Ints w (.slice (some ⟨b, 0, none⟩) m n) (xs.take m) := by
  have hlen : (xs.take m).length = m := by rw [List.length_take]; omega
  refine ⟨fun x hx' => hx x (List.mem_of_mem_take hx'), by omega, some ⟨b, 0, none⟩, n, by rw [hlen], by omega, by unfold maxLen; omega, .inr ⟨b, 0, rfl, fun i hi => ?_⟩⟩
  rw [List.length_map] at hi
  have hi' : i < xs.length := by omega
  refine obj_cell h (0 + i) ?_
  simp only [Nat.zero_add, List.getElem?_toArray, List.getElem?_map, List.getElem_map, List.getElem_take]
  rw [List.getElem?_eq_getElem hi']
  rfl
theorem SA.acts {w : World} {v : Value} (h : SA w v) : IsActs w v acts5 := by
  obtain ⟨b, rfl, hb⟩ := h
  have hok : ∀ s ∈ acts5, AcOk s := by simp [acts5, AcOk, i64]
  have hc : Cells w b 0 (acts5.flatMap acCells) := fun i hi => obj_cell hb (0 + i) (by rw [Nat.zero_add, List.getElem?_toArray, List.getElem?_eq_getElem hi])
  exact ⟨by simp [acts5], some ⟨b, 0, none⟩, 5, rfl, by simp [acts5], by unfold maxLen; omega, .inr ⟨b, 0, rfl, fun i hi => ⟨(hok _ (List.getElem_mem hi)).1, (hok _ (List.getElem_mem hi)).2, flat_cells (m := 2) (fun _ => rfl) hc i hi⟩⟩⟩
end Go.Proofs.Ytehaoiimhgkckaa
