/-
  Package items: sorted.
-/
import Derived.Test.YtgmkpncpcikecaaItA
import Derived.Test.YtgmkpncpcikecaaLayA
namespace Go.Proofs.Ytgmkpncpcikecaa
open Go.RowKit Go.MapKept Go.ChangeMaps Go.Sort Go.Lib
set_option maxHeartbeats 400000

theorem cfI_lt (x y : It) : ltOf cfI x y = decide (ltI x y) := by
  obtain ⟨a, b⟩ := x
  obtain ⟨c, d⟩ := y
  unfold ltOf cfI orI Lib.compareInt ltI
  simp only
  by_cases h1 : a < c <;> by_cases h2 : c < a <;> by_cases h3 : b < d <;> by_cases h4 : d < b <;> simp [h1, h2, h3, h4] <;> omega
theorem swoI : SWO (ltOf cfI) where
  irrefl x := by rw [cfI_lt]; exact decide_eq_false (ltI_irrefl x)
  trans x y z h1 h2 := by
    rw [cfI_lt, decide_eq_true_eq] at *
    exact ltI_trans h1 h2
  ntrans x y z h1 h2 := by
    rw [cfI_lt] at *
    simp only [decide_eq_false_iff_not] at *
    unfold ltI at *
    omega
theorem flat_enc (L : List It) : (flatK encI 2 L.toArray).toList = L.flatMap encI := by
  refine List.ext_getElem? fun t => ?_
  by_cases ht : t < L.length * 2
  · have h1 : t / 2 < L.length := by omega
    have h2 := enc_flat_at h1 (t % 2) (by omega)
    have e : t / 2 * 2 + t % 2 = t := by omega
    rw [e] at h2
    rw [h2]
    have hsz : t < (flatK encI 2 L.toArray).size := by rw [size_flatK]; simpa using ht
    rw [Array.getElem?_toList, Array.getElem?_eq_getElem hsz]
    have h3 := get_flatK encI 2 L.toArray t (by simpa using ht)
    rw [getElem!_pos _ t hsz] at h3
    rw [h3]
    have h4 : L.toArray[t / 2]! = L[t / 2] := by simp [h1]
    rw [h4, List.getElem?_eq_getElem (by simp [encI]; omega)]
    have h5 : t % 2 < (encI L[t / 2]).length := by simp [encI]; omega
    rw [getElem!_pos (encI L[t / 2]) (t % 2) h5]
  · rw [List.getElem?_eq_none (l := L.flatMap encI) (by rw [enc_len]; omega), Array.getElem?_toList, Array.getElem?_eq_none (by rw [size_flatK]; simp; omega)]
theorem heap_putK {w : World} {g n : Nat} {os : Array Obj} {cur : Array Value} {e : TypeId} {fr : Nat × Nat} (d : Array Value) (hb : w.heap[g]? = some (.cells cur e fr)) :
    (grow (putRow id (Sort.ahead w n) g 0 d) os).heap[g]? = some (.cells (putCells id 0 d cur) e fr) := by
  have hg : g < w.heap.size := (Array.getElem?_eq_some_iff.1 hb).1
  rw [heap_grow_old _ _ (by simpa using hg)]
  simp [putRow, mapBlock, Sort.ahead, Array.getElem?_modify, hb, onCells]
theorem grown_putK {w : World} {g n : Nat} {os : Array Obj} (d : Array Value) : Fr (only g) w (grow (putRow id (Sort.ahead w n) g 0 d) os) := by
  refine ⟨rfl, rfl, rfl, by simp, fun k hk hne => ?_⟩
  rw [heap_grow_old _ _ (by simpa using hk)]
  have : g ≠ k := fun e => hne e.symm
  simp [putRow, mapBlock, Sort.ahead, Array.getElem?_modify, this]
theorem take_putK (cur d : Array Value) (h : d.size ≤ cur.size) : (putCells id 0 d cur).toList.take d.size = d.toList := by
  apply List.ext_getElem?
  intro j
  by_cases hj : j < d.size
  · rw [List.getElem?_take_of_lt hj, Array.getElem?_toList]
    simp [putCells, hj, show j < cur.size by omega]
  · rw [List.getElem?_take_eq_none (by omega), List.getElem?_eq_none (by simpa using hj)]
def mergeI (L : List It) : List It := L.mergeSort fun x y => !ltOf cfI y x
theorem mergeI_len (L : List It) : (mergeI L).length = L.length := List.length_mergeSort _
theorem isAggItem (w : World) : (isAgg 41).run Try.prog w = .ok true w := Try.isAgg41 w
theorem sizeItem (w : World) : (Go.sizeOf 41).run Try.prog w = .ok 2 w := Try.sizeOf41 w

/-- The library's sort, of a list of items of its own. -/
theorem sortI_any (L : List It) (v : Value) (B : Nat) (w : World) (h : OwnI w B v L) (hl : L.length ≤ 1000000) :
    Calls Try.prog 50 #[v, .func (.func 51) #[] #[]] w fun e w' => e = .returned (.tuple #[]) ∧ OwnI w' B v (mergeI L) ∧ Fr (fun g => v.ownBlock = some g) w w' := by
  by_cases h0 : L = []
  · subst h0
    obtain ⟨a, c, rfl, -, -, -⟩ := own_as_cells2 h
    have := AnyF.slices_SortFunc_none Try.sortIt a c (.func (.func 51) #[] #[]) w
    change Calls Try.prog 50 _ _ _ at this
    refine this.mono ?_
    rintro e w' ⟨rfl, rfl⟩
    rw [show mergeI [] = [] from List.mergeSort_nil]
    exact ⟨rfl, h, Fr.refl _ _⟩
  · have h' := h
    obtain ⟨_, hh⟩ := h'
    rcases hh with ⟨_, hn⟩ | ⟨g, cap, cur, rfl, hb, hg, r1, r2, r3, r4⟩
    · exact absurd (List.eq_nil_of_length_eq_zero hn) h0
    · have hH : HoldsK encI 2 w g 0 L.toArray := by
        intro j hj
        rw [size_flatK] at hj
        have hj' : j < L.length * 2 := by simpa using hj
        refine ⟨?_, by simp [World.frozen?, hg]⟩
        have e1 : (flatK encI 2 L.toArray)[j]! = ((L.flatMap encI)[j]?).getD default := by
          have hsz : j < (flatK encI 2 L.toArray).size := by rw [size_flatK]; exact hj
          rw [← flat_enc, Array.getElem?_toList, Array.getElem?_eq_getElem hsz, getElem!_pos _ j hsz]
          rfl
        rw [e1, ← r4, List.getElem?_take_of_lt hj']
        simp only [World.cell?, hg, Nat.zero_add, Option.isSome_none, Bool.false_eq_true, if_false]
        have hjc : j < cur.size := by rw [r3]; omega
        rw [Array.getElem?_toList, Array.getElem?_eq_getElem hjc]
        rfl
      have hc := AnyQ.slices_SortFunc_total Try.sortIt 2 isAggItem sizeItem encI (fun _ => rfl) (fun x v hv => by simp [encI] at hv; rcases hv with rfl | rfl <;> rfl) cfI swoI 51 #[] g 0 cap L.toArray w
        (enters_of Try.func51 (by kernel_rfl) rfl) (fun _ _ _ _ x y => sorted1_any x y _) hH (Array.getElem?_eq_some_iff.1 hg).1 (by simp; omega) (fun x y h1 h2 => by
          rw [cfI_lt, decide_eq_false_iff_not] at h1 h2
          exact ltI_total h1 h2)
      change Calls Try.prog 50 #[.slice (some ⟨g, 0, none⟩) L.length cap, _] _ _ at hc
      refine hc.mono ?_
      rintro e w' ⟨rfl, n, os, rfl⟩
      have hF : (flatK encI 2 (mergeI L).toArray).toList = (mergeI L).flatMap encI := flat_enc _
      have hsz : (flatK encI 2 (mergeI L).toArray).size = L.length * 2 := by rw [size_flatK]; simp [mergeI_len]
      refine ⟨rfl, ⟨by rw [enc_len], .inr ⟨g, cap, _, by rw [mergeI_len], hb, heap_putK _ hg, by rw [mergeI_len]; exact r1, r2, by simp [putCells, r3], ?_⟩⟩, (grown_putK _).mono fun k _ e => by rw [show k = g from e]; rfl⟩
      have := take_putK cur (flatK encI 2 (mergeI L).toArray) (by rw [hsz, r3]; omega)
      rw [hsz, hF] at this
      rw [mergeI_len]
      exact this
end Go.Proofs.Ytgmkpncpcikecaa
