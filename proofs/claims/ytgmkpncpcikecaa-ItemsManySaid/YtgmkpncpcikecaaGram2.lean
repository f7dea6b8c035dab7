/-
  Grammars that a literal lays down: rows of cells in one new block.
-/
import Derived.Test.YtgmkpncpcikecaaGram
namespace Go.Proofs.Ytgmkpncpcikecaa
open Go.RowKit
set_option maxHeartbeats 400000

theorem alloc_at {w : World} {o : Obj} {k : Nat} (h : w.heap.size = k) : (w.alloc o).heap[k]? = some o := h ▸ alloc_obj w o
theorem alloc_older {w : World} {o o' : Obj} {k : Nat} (h : w.heap[k]? = some o') : (w.alloc o).heap[k]? = some o' := (Fr.alloc (ch := nothing) w o).obj h fun e => e
theorem below_alloc {w w' : World} {o : Obj} (h : Below w.heap.size w w') : Below w.heap.size w (w'.alloc o) := h.alloc h.size o

theorem flat_get {α β : Type} (f : α → List β) (m : Nat) (hf : ∀ x, (f x).length = m) : ∀ (l : List α) (i j : Nat) (hi : i < l.length), j < m → (l.flatMap f)[i * m + j]? = (f l[i])[j]?
  | [], i, _, hi, _ => by simp at hi
  | a :: l, 0, j, _, hj => by
    rw [List.flatMap_cons, List.getElem?_append_left (by rw [hf]; omega)]
    simp
  | a :: l, i + 1, j, hi, hj => by
    rw [List.flatMap_cons, List.getElem?_append_right (by rw [hf, Nat.add_mul]; omega), hf]
    have := flat_get f m hf l i j (by simpa using hi) hj
    rw [show (i + 1) * m + j - m = i * m + j by rw [Nat.add_mul]; omega, this]
    simp
theorem obj_flat {α : Type} {w : World} {b : Nat} {cs : Array Value} {t : TypeId} {z : Nat × Nat} {l : List α} {f : α → List Value} {m : Nat} (h : w.heap[b]? = some (.cells cs t z)) (hcs : cs = (l.flatMap f).toArray) (hf : ∀ x, (f x).length = m) (i : Nat) (hi : i < l.length) : Cells w b (i * m) (f l[i]) := fun j hj => by
  have h1 := flat_get f m hf l i j hi (by rw [hf] at hj; exact hj)
  rw [List.getElem?_eq_getElem hj] at h1
  refine obj_cell h (i * m + j) ?_
  rw [hcs]
  simpa using h1
theorem ints_obj {w : World} {b : Nat} {cs : Array Value} {t : TypeId} {z : Nat × Nat} {xs : List Int} {n : Nat} (h : w.heap[b]? = some (.cells cs t z)) (hcs : cs = (xs.map (Value.int .i64)).toArray) (hx : ∀ x ∈ xs, -9223372036854775808 ≤ x ∧ x ≤ 9223372036854775807) (hn : n = xs.length) (hl : xs.length ≤ 17592186044416) : Ints w (.slice (some ⟨b, 0, none⟩) n n) xs := by
  subst hn
  refine ⟨hx, hl, _, _, rfl, Nat.le_refl _, by unfold maxLen; omega, .inr ⟨b, 0, rfl, fun i hi => obj_cell h (0 + i) ?_⟩⟩
  rw [hcs]
  simp only [List.length_map] at hi
  simp [hi]
theorem syms_obj {w : World} {b : Nat} {cs : Array Value} {t : TypeId} {z : Nat × Nat} {l : List Sym} {n : Nat} (h : w.heap[b]? = some (.cells cs t z)) (hcs : cs = (l.flatMap symCells).toArray) (hok : ∀ s ∈ l, SymOk s) (hn : n = l.length) (hl : l.length ≤ 17592186044416) : IsSyms w (.slice (some ⟨b, 0, none⟩) n n) l := by
  subst hn
  refine ⟨hl, _, _, rfl, Nat.le_refl _, by unfold maxLen; omega, .inr ⟨b, 0, rfl, fun i hi => ⟨hok _ (List.getElem_mem hi), ?_⟩⟩⟩
  have := obj_flat (m := 4) h hcs (fun _ => rfl) i hi
  simpa using this
theorem prds_obj {w : World} {b : Nat} {cs : Array Value} {t : TypeId} {z : Nat × Nat} {l : List (Prd × Value)} {n : Nat} (h : w.heap[b]? = some (.cells cs t z)) (hcs : cs = (l.flatMap fun x => prdCells x.1 x.2).toArray) (hok : ∀ x ∈ l, PrdOk x.1 ∧ Ints w x.2 x.1.right) (hn : n = l.length) (hl : l.length ≤ 17592186044416) : IsPrds w (.slice (some ⟨b, 0, none⟩) n n) (l.map Prod.fst) := by
  subst hn
  refine ⟨by simpa using hl, some ⟨b, 0, none⟩, l.length, by simp, by simp, by unfold maxLen; omega, .inr ⟨b, 0, rfl, fun i hi => ?_⟩⟩
  have hi' : i < l.length := by simpa using hi
  have h1 := obj_flat (m := 6) h hcs (fun _ => rfl) i hi'
  have h2 := hok _ (List.getElem_mem hi')
  simp only [List.getElem_map]
  exact ⟨h2.1, _, h2.2, by simpa using h1⟩
end Go.Proofs.Ytgmkpncpcikecaa
