/-
  ItemsClosed: the plain law.
-/
import Derived.Test.YtgmkpncpcikecaaItX
import Derived.Test.YtgmkpncpcikecaaItS
import Derived.Test.YtgmkpncpcikecaaParts
import Derived.Test.YtgmkpncpcikecaaStands
namespace Go.Proofs.Ytgmkpncpcikecaa
open Go.RowKit Go.MapKept Go.ChangeMaps
set_option maxHeartbeats 400000

/-- A production of what stands behind an item's dot, the dot ahead. -/
def StepI (G : Gram) (x y : It) : Prop := ∃ (p : Nat) (hp : p < G.prods.length), behI G x = some G.prods[p].left ∧ y = ((p : Int), 0)
/-- The same, of the first productions alone. -/
def StepTo (G : Gram) (x : It) (n : Nat) (y : It) : Prop := ∃ (p : Nat) (hp : p < G.prods.length), p < n ∧ behI G x = some G.prods[p].left ∧ y = ((p : Int), 0)
theorem stepTo_all {G : Gram} {x y : It} {n : Nat} (hn : G.prods.length ≤ n) : StepTo G x n y ↔ StepI G x y :=
  ⟨fun ⟨p, hp, _, h1, h2⟩ => ⟨p, hp, h1, h2⟩, fun ⟨p, hp, h1, h2⟩ => ⟨p, hp, by omega, h1, h2⟩⟩
theorem stepTo_zero {G : Gram} {x y : It} : ¬ StepTo G x 0 y := fun ⟨_, _, h, _⟩ => by omega
theorem stepTo_hit {G : Gram} {x y : It} {n : Nat} (hn : n < G.prods.length) (h : behI G x = some G.prods[n].left) : StepTo G x (n + 1) y ↔ y = ((n : Int), 0) ∨ StepTo G x n y := by
  constructor
  · rintro ⟨p, hp, h1, h2, h3⟩
    by_cases e : p = n
    · subst e; exact .inl h3
    · exact .inr ⟨p, hp, by omega, h2, h3⟩
  · rintro (rfl | ⟨p, hp, h1, h2, h3⟩)
    · exact ⟨n, hn, by omega, h, rfl⟩
    · exact ⟨p, hp, by omega, h2, h3⟩
theorem stepTo_miss {G : Gram} {x y : It} {n : Nat} (hn : n < G.prods.length) (h : behI G x ≠ some G.prods[n].left) : StepTo G x (n + 1) y ↔ StepTo G x n y := by
  constructor
  · rintro ⟨p, hp, h1, h2, h3⟩
    by_cases e : p = n
    · subst e; exact absurd h2 h
    · exact ⟨p, hp, by omega, h2, h3⟩
  · rintro ⟨p, hp, h1, h2, h3⟩
    exact ⟨p, hp, by omega, h2, h3⟩
theorem stepI_none {G : Gram} {x y : It} (h : behI G x = none) : ¬ StepI G x y := fun ⟨p, hp, h1, _⟩ => by rw [h] at h1; cases h1
theorem cloL_step {G : Gram} {K : List It} {x y : It} (hx : x ∈ cloL G K) (h : StepI G x y) : y ∈ cloL G K := by
  obtain ⟨p, hp, h1, rfl⟩ := h
  exact cloL_mem.2 (.step hp (cloL_mem.1 hx) h1 rfl)
theorem cloL_ker {G : Gram} {K : List It} {x : It} (hx : x ∈ K) : x ∈ cloL G K := cloL_mem.2 (.ker hx)
theorem cloL_from {G : Gram} {K : List It} {y : It} (hy : y ∈ cloL G K) : y ∈ K ∨ ∃ x ∈ cloL G K, StepI G x y := by
  cases cloL_mem.1 hy with
  | ker h => exact .inl h
  | @step x s p hp hx hb hl => exact .inr ⟨x, cloL_mem.2 hx, p, hp, by rw [hb, hl], rfl⟩
theorem ris_lt {l : List It} (h : RisI l) {i j : Nat} (hij : i < j) (hj : j < l.length) : ltI l[i] l[j] := List.pairwise_iff_getElem.1 h i j (by omega) hj hij
theorem ris_new {l : List It} (h : RisI l) {k : Nat} (hk : k < l.length) : l[k] ∉ l.take k := fun hm => by
  obtain ⟨i, hi, e⟩ := List.getElem_of_mem hm
  rw [List.length_take] at hi
  rw [List.getElem_take] at e
  have := ris_lt h (show i < k by omega) hk
  rw [e] at this
  exact ltI_irrefl _ this
theorem take_more {l : List It} {k : Nat} (hk : k < l.length) (y : It) : y ∈ l.take (k + 1) ↔ y = l[k] ∨ y ∈ l.take k := by
  have e : l.take (k + 1) = l.take k ++ [l[k]] := by rw [List.take_add_one, List.getElem?_eq_getElem hk]; rfl
  rw [e, List.mem_append, List.mem_singleton, or_comm]
/-- What is asked for behind k items of the closure. -/
def AskTo (G : Gram) (K L : List It) (k : Nat) (y : It) : Prop := y ∈ K ∨ ∃ x ∈ L.take k, StepI G x y
theorem askTo_next {G : Gram} {K L : List It} {k : Nat} (hk : k < L.length) (y : It) : AskTo G K L (k + 1) y ↔ AskTo G K L k y ∨ StepI G L[k] y := by
  unfold AskTo
  constructor
  · rintro (h | ⟨x, hx, h⟩)
    · exact .inl (.inl h)
    · rcases (take_more hk x).1 hx with rfl | hx
      · exact .inr h
      · exact .inl (.inr ⟨x, hx, h⟩)
  · rintro ((h | ⟨x, hx, h⟩) | h)
    · exact .inl h
    · exact .inr ⟨x, (take_more hk x).2 (.inr hx), h⟩
    · exact .inr ⟨_, (take_more hk _).2 (.inl rfl), h⟩
theorem askTo_end {G : Gram} {K : List It} {y : It} {n : Nat} (hn : (cloL G K).length ≤ n) (hy : y ∈ cloL G K) : AskTo G K (cloL G K) n y := by
  unfold AskTo
  rw [List.take_of_length_le hn]
  exact cloL_from hy
theorem behI_some {G : Gram} {x : It} (h : InI G x) (hd : x.2 < ((rightOf G x.1).length : Int)) : ∃ (d : Nat) (hl : d < (rightOf G x.1).length), x.2 = (d : Int) ∧ behI G x = some (rightOf G x.1)[d] := by
  obtain ⟨_, _, h3, _⟩ := h
  refine ⟨x.2.toNat, by omega, by omega, ?_⟩
  unfold behI
  rw [List.getElem?_eq_getElem]
theorem behI_end {G : Gram} {x : It} (hd : ¬ x.2 < ((rightOf G x.1).length : Int)) : behI G x = none := by
  unfold behI
  rw [List.getElem?_eq_none]
  omega
end Go.Proofs.Ytgmkpncpcikecaa
