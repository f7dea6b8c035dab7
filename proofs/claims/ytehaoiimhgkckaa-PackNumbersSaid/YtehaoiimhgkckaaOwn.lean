/-
  Lists that a call has made are lists of numbers, of symbols, of productions.
-/
import Derived.Test.YtehaoiimhgkckaaProdK3
namespace Go.Proofs.Ytehaoiimhgkckaa
open Go.RowKit
set_option maxHeartbeats 400000

theorem own_ints {w : World} {B : Nat} {v : Value} {xs : List Int} (h : w.ownsRow B 3 1 v xs.length (xs.map (Value.int .i64))) (hx : ∀ x ∈ xs, -9223372036854775808 ≤ x ∧ x ≤ 9223372036854775807) (hl : xs.length ≤ 17592186044416) : Ints w v xs := by
  obtain ⟨a, cap, rfl, h1, h2, h3⟩ := own_cells h
  refine ⟨hx, hl, a, cap, rfl, h1, h2, ?_⟩
  rcases h3 with h3 | ⟨g, rfl, _, hc⟩
  · exact .inl (List.map_eq_nil_iff.1 h3)
  · exact .inr ⟨g, 0, rfl, hc⟩
theorem own_syms {w : World} {B : Nat} {v : Value} {l : List Sym} (h : w.ownsRow B 65 4 v l.length (l.flatMap symCells)) (hx : ∀ x ∈ l, SymOk x) (hl : l.length ≤ 17592186044416) : IsSyms w v l := by
  obtain ⟨a, cap, rfl, h1, h2, h3⟩ := own_cells h
  refine ⟨hl, a, cap, rfl, h1, h2, ?_⟩
  rcases h3 with h3 | ⟨g, rfl, _, hc⟩
  · left
    have := flat_len symCells 4 (fun _ => rfl) l
    rw [h3] at this
    exact List.eq_nil_of_length_eq_zero (by simp at this; omega)
  · exact .inr ⟨g, 0, rfl, fun i hi => ⟨hx _ (List.getElem_mem hi), flat_cells (m := 4) (fun _ => rfl) hc i hi⟩⟩
theorem own_prds {w : World} {B : Nat} {v : Value} {xs : List (Prd × Value)} (h : w.ownsRow B 62 6 v xs.length (xs.flatMap cellsP)) (hx : ∀ x ∈ xs, PrdOk x.1 ∧ Ints w x.2 x.1.right) (hl : xs.length ≤ 17592186044416) : IsPrds w v (xs.map Prod.fst) := by
  obtain ⟨a, cap, rfl, h1, h2, h3⟩ := own_cells h
  refine ⟨by rw [List.length_map]; exact hl, a, cap, by rw [List.length_map], by rw [List.length_map]; exact h1, h2, ?_⟩
  rcases h3 with h3 | ⟨g, rfl, _, hc⟩
  · left
    have := flat_len cellsP 6 (fun _ => rfl) xs
    rw [h3] at this
    rw [List.map_eq_nil_iff]
    exact List.eq_nil_of_length_eq_zero (by simp at this; omega)
  · refine .inr ⟨g, 0, rfl, fun i hi => ?_⟩
    have hi' : i < xs.length := by simpa using hi
    have hc' := flat_cells (m := 6) (fun _ => rfl) hc i hi'
    have hx' := hx _ (List.getElem_mem hi')
    simp only [List.getElem_map]
    exact ⟨hx'.1, xs[i].2, hx'.2, hc'⟩

theorem own_frB {ch : Nat → Prop} {w w' : World} {B e size n : Nat} {v : Value} {xs : List Value} (h : w.ownsRow B e size v n xs) (k : Fr ch w w') (hc : ∀ g, B ≤ g → ¬ ch g) : w'.ownsRow B e size v n xs := by
  obtain ⟨h1, h2⟩ := h
  refine ⟨h1, ?_⟩
  rcases h2 with h2 | ⟨g, cap, cur, hv, hb, hg, r⟩
  · exact .inl h2
  · exact .inr ⟨g, cap, cur, hv, hb, k.obj hg (hc g hb), r⟩
theorem syms_fit {w : World} {v : Value} {l : List Sym} (h : IsSyms w v l) : ∀ s ∈ l, SymOk s := fun s hs => by
  obtain ⟨i, hi, rfl⟩ := List.mem_iff_getElem.1 hs
  obtain ⟨_, a, cap, _, _, _, hx⟩ := h
  rcases hx with rfl | ⟨b, o, _, hx⟩
  · simp at hi
  · exact (hx i hi).1
/-- A list of one's own lies nowhere else. -/
theorem own_ne {w : World} {B e size n b : Nat} {v : Value} {xs : List Value} {cs : Array Value} {t : TypeId} {f : Nat × Nat} (h : w.ownsRow B e size v n xs) (hb : w.heap[b]? = some (.cells cs t f)) (hne : e ≠ t) : v.ownBlock ≠ some b := fun hv => by
  obtain ⟨_, h2⟩ := h
  rcases h2 with ⟨rfl, _⟩ | ⟨g, cap, cur, rfl, _, hg, _⟩
  · cases hv
  · simp only [Value.ownBlock, Option.some.injEq] at hv
    subst hv
    rw [hb] at hg
    simp only [Option.some.injEq, Obj.cells.injEq] at hg
    exact hne hg.2.1.symm
theorem own_apart {w : World} {B e size n B' e' size' n' : Nat} {v v' : Value} {xs xs' : List Value} (h : w.ownsRow B e size v n xs) (h' : w.ownsRow B' e' size' v' n' xs') (hne : e ≠ e') : ∀ g, v.ownBlock = some g → v'.ownBlock = some g → False := fun g hv hv' => by
  obtain ⟨_, h2⟩ := h'
  rcases h2 with ⟨rfl, _⟩ | ⟨g', cap, cur, rfl, _, hg, _⟩
  · cases hv'
  · simp only [Value.ownBlock, Option.some.injEq] at hv'
    subst hv'
    exact own_ne h hg hne hv
/-- A list that a literal lays. -/
theorem own_laid {w : World} {B e size g n : Nat} {cs : Array Value} (hg : w.heap[g]? = some (.cells cs e (0, 0))) (hb : B ≤ g) (hs : cs.size = n * size) (hn : n ≤ maxLen) : w.ownsRow B e size (.slice (some ⟨g, 0, none⟩) n n) n cs.toList :=
  ⟨by simpa using hs, .inr ⟨g, n, cs, rfl, hb, hg, Nat.le_refl _, hn, hs, by rw [List.take_of_length_le (by simp; omega)]⟩⟩
end Go.Proofs.Ytehaoiimhgkckaa
