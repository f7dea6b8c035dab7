/-
  Package first: sets as they are made, one by one.
-/
import Derived.Test.YtfhleelechbdmaaDoorFi7
namespace Go.Proofs.YtfhleelechbdmaaDoor
open Go.RowKit
set_option maxHeartbeats 400000

/-- A row of pointers of which the first ones are laid. -/
def partO (ps : List (Nat × Value)) (n : Nat) : Obj := .cells (ps.map ptrV ++ List.replicate (n - ps.length) (Value.pointer none)).toArray 52 (0, 0)
theorem partO_full (ps : List (Nat × Value)) (n : Nat) (h : ps.length = n) : partO ps n = ptrRow ps := by
  unfold partO ptrRow
  rw [h, Nat.sub_self, List.replicate_zero, List.append_nil]
theorem made_ptrs {w : World} {B g n : Nat} (h : w.ownsRow B 52 1 (.slice (some ⟨g, 0, none⟩) n n) n (madeCells (Value.pointer none).cells (n * 1)).toList) : w.heap[g]? = some (partO [] n) := by
  have := own_obj h
  rw [this]
  have h2 : (madeCells (Value.pointer none).cells (n * 1)).toList = List.replicate n (.pointer none) := by rw [Nat.mul_one]; exact toList_madeCells_one _ _
  rw [h2]
  simp [partO]
theorem part_cell {w : World} {q n : Nat} {ps : List (Nat × Value)} (h : w.heap[q]? = some (partO ps n)) (hk : ps.length < n) : w.cell? ⟨q, ps.length, none⟩ = some (.pointer none) :=
  obj_cell h _ (by
    rw [List.getElem?_toArray, List.getElem?_append_right (by simp), List.length_map, Nat.sub_self, List.getElem?_replicate, if_pos (by omega)])
theorem part_last {w : World} {q n : Nat} {ps : List (Nat × Value)} {p : Nat × Value} (h : w.heap[q]? = some (partO (ps ++ [p]) n)) : w.cell? ⟨q, ps.length, none⟩ = some (.pointer (some ⟨p.1, 0, none⟩)) :=
  obj_cell h _ (by
    rw [List.getElem?_toArray, List.getElem?_append_left (by simp)]
    simp [ptrV])
theorem part_set {w : World} {q n : Nat} {ps : List (Nat × Value)} (h : w.heap[q]? = some (partO ps n)) (hk : ps.length < n) (p : Nat × Value) : (w.setCell ⟨q, ps.length, none⟩ (.pointer (some ⟨p.1, 0, none⟩))).heap[q]? = some (partO (ps ++ [p]) n) := by
  rw [setCell_obj h]
  unfold partO
  obtain ⟨m, hm⟩ : ∃ m, n - ps.length = m + 1 := ⟨n - ps.length - 1, by omega⟩
  have hm2 : n - (ps ++ [p]).length = m := by simp; omega
  rw [hm, hm2]
  congr 2
  simp only [List.setIfInBounds_toArray, List.map_append, List.map_cons, List.map_nil, List.append_assoc, List.cons_append, List.nil_append, List.replicate_succ]
  rw [List.set_append_right _ _ (by simp)]
  simp [ptrV]
/-- The first sets of begin, as they are laid. -/
structure PartM (w : World) (B q n T : Nat) (ps : List (Nat × Value)) : Prop where
  row : w.heap[q]? = some (partO ps n)
  len : ps.length ≤ n
  sets : ∀ i (h : i < ps.length), PSet w B ps[i].1 ps[i].2 (rowAt (initS n T) i)
  apart : Apart ps
theorem PSet.notAt {w : World} {B p b : Nat} {v : Value} {bs : List Bool} {cs : Array Value} {t : TypeId} {f : Nat × Nat} (h : PSet w B p v bs) (hb : w.heap[b]? = some (.cells cs t f)) (hne : 71 ≠ t) : p ≠ b := fun e => by
  obtain ⟨ws, h, _⟩ := h
  have := h.hp
  rw [e, hb] at this
  simp only [Option.some.injEq, Obj.cells.injEq] at this
  exact hne this.2.1.symm
theorem PartM.next {w w1 w3 : World} {B q n T p : Nat} {v : Value} {ps : List (Nat × Value)} {bs : List Bool} (h : PartM w B q n T ps) (hk : ps.length < n) (hB : B ≤ w.heap.size) (k1 : Fr nothing w w1) (hp : PSet w1 w.heap.size p v bs) (hq : w3.heap[q]? = some (partO (ps ++ [(p, v)]) n))
    (hp3 : PSet w3 w.heap.size p v (rowAt (initS n T) ps.length)) (k3 : Fr (fun g => g = q ∨ v.ownBlock = some g) w1 w3) : PartM w3 B q n T (ps ++ [(p, v)]) := by
  have hpw := hp.ge
  refine ⟨hq, by simp; omega, fun i hi => ?_, fun i j hi hj hij => ?_⟩
  · simp only [List.length_append, List.length_cons, List.length_nil] at hi
    by_cases e : i < ps.length
    · simp only [List.getElem_append_left e]
      have hs := h.sets i e
      have hlt := hs.lt
      refine (hs.fresh k1).fr k3 ?_ fun g hg => ?_
      · rintro (e1 | e1)
        · exact hs.notAt h.row (by decide) e1
        · have := hpw.2 _ e1; omega
      · rintro (e1 | e1)
        · subst e1
          exact hs.not h.row (by decide) hg
        · have := hpw.2 _ e1
          have := hlt.2 _ hg
          omega
    · obtain rfl : i = ps.length := by omega
      simp only [List.getElem_append_right (Nat.le_refl _), Nat.sub_self, List.getElem_cons_zero]
      exact hp3.weaken hB
  · simp only [List.length_append, List.length_cons, List.length_nil] at hi hj
    have hL : ∀ a (ha : a < ps.length), ps[a].1 < w.heap.size ∧ ∀ g, ps[a].2.ownBlock = some g → g < w.heap.size := fun a ha => (h.sets a ha).lt
    by_cases e1 : i < ps.length
    · by_cases e2 : j < ps.length
      · simp only [List.getElem_append_left e1, List.getElem_append_left e2]
        exact h.apart i j e1 e2 hij
      · obtain rfl : j = ps.length := by omega
        simp only [List.getElem_append_left e1, List.getElem_append_right (Nat.le_refl _), Nat.sub_self, List.getElem_cons_zero]
        have := hL i e1
        exact ⟨by omega, fun g h1 h2 => by have := this.2 g h1; have := hpw.2 g h2; omega⟩
    · obtain rfl : i = ps.length := by omega
      have e2 : j < ps.length := by omega
      simp only [List.getElem_append_left e2, List.getElem_append_right (Nat.le_refl _), Nat.sub_self, List.getElem_cons_zero]
      have := hL j e2
      exact ⟨by omega, fun g h1 h2 => by have := this.2 g h2; have := hpw.2 g h1; omega⟩
theorem initS_row {n T k : Nat} (h : k < n) : rowAt (initS n T) k = if k < T then addB (zeros T) (k : Int) else zeros T := by
  unfold rowAt initS
  rw [List.getElem?_map, List.getElem?_range h]
  rfl
end Go.Proofs.YtfhleelechbdmaaDoor
