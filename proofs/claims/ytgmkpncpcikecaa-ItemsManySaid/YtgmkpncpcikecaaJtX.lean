/-
  Maps of items: a set.
  ItemsClosed: the plain law.
-/
import Derived.Test.YtgmkpncpcikecaaIt4
import Derived.Test.YtgmkpncpcikecaaMap
import Derived.DeepKeys4
import Derived.Test.YtgmkpncpcikecaaJtS
import Derived.Test.YtgmkpncpcikecaaParts
import Derived.Test.YtgmkpncpcikecaaStands
namespace Go.Proofs.Ytgmkpncpcikecaa
open Go.RowKit Go.MapKept Go.ChangeMaps
set_option maxHeartbeats 400000

theorem itKey : WideMaps.KeyLaw Try.prog 41 := deep_law (m := 3) (by omega) (by kernel_rfl) (by kernel_rfl) (by kernel_rfl)
theorem lit_wf {a : Int} (h : i64 a) : (Lit.int .i64 a).wf = true := by
  unfold i64 at h
  simp [Lit.wf, IntKind.min, IntKind.max, IntKind.bits, IntKind.signed]
  omega
theorem itKeyed (x : It) (h1 : i64 x.1) (h2 : i64 x.2) : ∃ l, keyOf Try.prog 41 (itVal x) = some l := by
  obtain ⟨a, b⟩ := x
  have hk : Try.prog.keyType 41 = true := by kernel_rfl
  have hc : Try.prog.cellsOf 41 = 2 := by kernel_rfl
  have hc1 : Try.prog.cellsOf 3 = 1 := by kernel_rfl
  have hz : Try.prog.types.size + 1 = (Try.prog.types.size - 1) + 1 + 1 := by kernel_rfl
  have hu := Try.underlying3
  have hs := Try.underlying41
  have hl : ∀ (n : Nat) (c : Int), i64 c → Try.prog.keyLits (n + 1) 3 [.int .i64 c] = some [.int .i64 c] := fun n c hc => by
    unfold Program.keyLits
    simp only [hu]
    rw [if_pos ⟨trivial, lit_wf hc⟩]
  have h2' : ∀ n, Try.prog.keyLits (n + 1 + 1) 41 [.int .i64 a, .int .i64 b] = some [.int .i64 a, .int .i64 b] := fun n => by
    rw [Program.keyLits.eq_def]
    simp only [hs, hc]
    simp [hc1, hl n a h1, hl n b h2]
  unfold keyOf
  simp only [hs, hk, Bool.true_and]
  have hf : (itVal (a, b)).formed Try.prog 41 = true := by
    unfold itVal Value.formed
    simp only [hs, hc]
    rfl
  rw [if_pos hf, hz]
  unfold itVal
  simp only [Value.cells]
  rw [h2']
  exact ⟨_, rfl⟩
/-- Block b is a map whose keys are these items, each with true. -/
def ItSet (w : World) (b : Nat) (S : List It) : Prop :=
  ∃ es clock, w.heap[b]? = some (.map es clock) ∧ es.toList.map (fun e => e.key) = S.map itVal ∧ (∀ e ∈ es.toList, e.val = .bool true) ∧ ∀ x ∈ S, i64 x.1 ∧ i64 x.2
theorem itSet_new (w : World) : ItSet (w.alloc (.map #[] 0)) w.heap.size [] := ⟨#[], 0, (heap_alloc w _).1, rfl, by simp, by simp⟩
theorem ItSet.fr {ch : Nat → Prop} {w w' : World} {b : Nat} {S : List It} (h : ItSet w b S) (f : Fr ch w w') (hb : ¬ ch b) : ItSet w' b S := by
  obtain ⟨es, clock, h1, h2⟩ := h
  exact ⟨es, clock, f.obj h1 hb, h2⟩
theorem ItSet.lt {w : World} {b : Nat} {S : List It} (h : ItSet w b S) : b < w.heap.size := by
  obtain ⟨es, clock, h1, h2⟩ := h
  exact (Array.getElem?_eq_some_iff.1 h1).1
theorem itVal_inj {x y : It} (h : itVal x = itVal y) : x = y := by
  obtain ⟨a, b⟩ := x
  obtain ⟨c, d⟩ := y
  simpa [itVal] using h
theorem itSet_keys {es : List MapEntry} {S : List It} (h : es.map (fun e => e.key) = S.map itVal) (x : It) : (∃ e ∈ es, e.key = itVal x) ↔ x ∈ S := by
  constructor
  · rintro ⟨e, he, hk⟩
    have : itVal x ∈ S.map itVal := by rw [← h]; exact List.mem_map.2 ⟨e, he, hk⟩
    obtain ⟨y, hy, e⟩ := List.mem_map.1 this
    rw [← itVal_inj e]
    exact hy
  · intro hx
    have : itVal x ∈ es.map fun e => e.key := by rw [h]; exact List.mem_map.2 ⟨x, hx, rfl⟩
    obtain ⟨e, he, hk⟩ := List.mem_map.1 this
    exact ⟨e, he, hk⟩
theorem itSet_all {es : List MapEntry} {S : List It} (h : es.map (fun e => e.key) = S.map itVal) (hi : ∀ x ∈ S, i64 x.1 ∧ i64 x.2) : ∀ e ∈ es, ∃ l, keyOf Try.prog 41 e.key = some l := fun e he => by
  have : e.key ∈ S.map itVal := by rw [← h]; exact List.mem_map.2 ⟨e, he, rfl⟩
  obtain ⟨y, hy, e⟩ := List.mem_map.1 this
  rw [← e]
  exact itKeyed y (hi y hy).1 (hi y hy).2
theorem run_same_item (w : World) (a b : Int) : (Instr.keyThatStays (.agg #[.int .i64 a, .int .i64 b]) (.agg #[.int .i64 a, .int .i64 b])).run Try.prog w = .ok (.agg #[.int .i64 a, .int .i64 b]) w := by
  simp [Instr.keyThatStays, Instr.sameBits]
/-- Whether an item is there. -/
theorem ItSet.look {w : World} {b : Nat} {S : List It} (h : ItSet w b S) (x : It) (h1 : i64 x.1) (h2 : i64 x.2) :
    (Instr.lookup 49 (.map (some b)) (itVal x) false).run Try.prog w = .ok (.bool (decide (x ∈ S))) w := by
  obtain ⟨es, clock, hb, hk, hv, hi⟩ := h
  obtain ⟨l, hl⟩ := itKeyed x h1 h2
  have hch := fun em => itKey.check w em hl
  rcases itKey.find w hl es.toList (itSet_all hk hi) with ⟨h3, h4⟩ | ⟨j, e, h3, h4, h5⟩
  · have : ¬ x ∈ S := fun hx => by
      obtain ⟨e, he, hek⟩ := (itSet_keys hk x).2 hx
      exact h4 e he hek
    rw [decide_eq_false this]
    simp [Instr.lookup, run_underlying Try.underlying49, Go.MapKept.run_getObj_map hb, hch, h3, Result.andThen]
  · have he := List.mem_of_getElem? h4
    have : x ∈ S := (itSet_keys hk x).1 ⟨e, he, h5⟩
    rw [decide_eq_true this]
    simp [Instr.lookup, run_underlying Try.underlying49, Go.MapKept.run_getObj_map hb, hch, h3, hv e he, Result.andThen]
/-- An item is laid in. -/
theorem ItSet.store {w : World} {b : Nat} {S : List It} (h : ItSet w b S) (x : It) (h1 : i64 x.1) (h2 : i64 x.2) :
    ∃ w' S', (Instr.mapUpdate 49 (.map (some b)) (itVal x) (.bool true)).run Try.prog w = .ok () w' ∧ ItSet w' b S' ∧ (∀ y, y ∈ S' ↔ y = x ∨ y ∈ S) ∧ Fr (only b) w w' := by
  obtain ⟨es, clock, hb, hk, hv, hi⟩ := h
  obtain ⟨l, hl⟩ := itKeyed x h1 h2
  have hch := fun em => itKey.check w em hl
  rcases itKey.find w hl es.toList (itSet_all hk hi) with ⟨h3, h4⟩ | ⟨j, e, h3, h4, h5⟩
  · refine ⟨setBlock w b (.map (es.push ⟨itVal x, .bool true, clock⟩) (clock + 1)), S ++ [x], ?_, ⟨_, _, heap_setBlock_same hb _, by simp [hk], fun e he => ?_, fun y hy => ?_⟩, fun y => by simp [or_comm], ⟨rfl, rfl, rfl, by simp [setBlock], fun i _ hi => heap_setBlock_other hb _ (fun e => hi e)⟩⟩
    · simp [Instr.mapUpdate, run_underlying Try.underlying49, Go.MapKept.run_getObj_map hb, hch, h3, Go.MapKept.run_setObj_map _ hb, Result.andThen, setBlock]
    · simp only [Array.toList_push, List.mem_append, List.mem_singleton] at he
      rcases he with he | rfl
      · exact hv e he
      · rfl
    · rcases List.mem_append.1 hy with hy | hy
      · exact hi y hy
      · rw [List.mem_singleton.1 hy]; exact ⟨h1, h2⟩
  · have he := List.mem_of_getElem? h4
    have hx : x ∈ S := (itSet_keys hk x).1 ⟨e, he, h5⟩
    have h4' : es[j]? = some e := by simpa using h4
    have hst := itKey.stays w hl
    have hmod : es.modify j (fun e => { e with key := itVal x, val := .bool true }) = es := by
      apply Array.ext'
      rw [Array.toList_modify]
      apply List.ext_getElem?
      intro i
      rw [List.getElem?_modify]
      by_cases e' : j = i
      · subst e'
        rw [h4]
        have := hv e he
        obtain ⟨k, v, bo⟩ := e
        simp only at h5 this
        subst h5 this
        simp
      · simp [e']
    refine ⟨setBlock w b (.map es clock), S, ?_, ⟨_, _, heap_setBlock_same hb _, hk, hv, hi⟩, fun y => ⟨.inr, fun h => h.elim (fun e => e ▸ hx) id⟩, ⟨rfl, rfl, rfl, by simp [setBlock], fun i _ hi => heap_setBlock_other hb _ (fun e => hi e)⟩⟩
    simp [Instr.mapUpdate, run_underlying Try.underlying49, Go.MapKept.run_getObj_map hb, hch, h3, h4', h5, hst, hmod, Go.MapKept.run_setObj_map _ hb, Result.andThen, setBlock]
end Go.Proofs.Ytgmkpncpcikecaa
namespace Go.Proofs.Ytgmkpncpcikecaa
open Go.RowKit Go.MapKept Go.ChangeMaps
set_option maxHeartbeats 400000

/-- A production of what stands behind an item's dot, the dot ahead. -/
def StepI (G : Gram) (x y : It) : Prop := ∃ (p : Nat) (hp : p < G.prods.length), behI G x = some G.prods[p].left ∧ y = ((p : Int), 0)
/-- The same, of the first productions alone. -/
def StepTo (G : Gram) (x : It) (n : Nat) (y : It) : Prop := ∃ (p : Nat) (hp : p < G.prods.length), p < n ∧ behI G x = some G.prods[p].left ∧ y = ((p : Int), 0)
theorem stepTo_all {G : Gram} {x y : It} {n : Nat} (hn : G.prods.length ≤ n) : StepTo G x n y ↔ StepI G x y :=
  ⟨fun ⟨p, hp, _, h1, h2⟩ => ⟨p, hp, h1, h2⟩, fun ⟨p, hp, h1, h2⟩ => ⟨p, hp, by omega, h1, h2⟩⟩
theorem stepTo_zero {G : Gram} {x y : It} : ¬ StepTo G x 0 y := fun ⟨_, _, h, _⟩ => by omega
theorem stepTo_hit {G : Gram} {x y : It} {n : Nat} (hn : n < G.prods.length) (h : behI G x = some G.prods[n].left) : StepTo G x (n + 1) y ↔ y = ((n : Int), 0) ∨ StepTo G x n y := by
  constructor
  · rintro ⟨p, hp, h1, h2, h3⟩
    by_cases e : p = n
    · subst e; exact .inl h3
    · exact .inr ⟨p, hp, by omega, h2, h3⟩
  · rintro (rfl | ⟨p, hp, h1, h2, h3⟩)
    · exact ⟨n, hn, by omega, h, rfl⟩
    · exact ⟨p, hp, by omega, h2, h3⟩
theorem stepTo_miss {G : Gram} {x y : It} {n : Nat} (hn : n < G.prods.length) (h : behI G x ≠ some G.prods[n].left) : StepTo G x (n + 1) y ↔ StepTo G x n y := by
  constructor
  · rintro ⟨p, hp, h1, h2, h3⟩
    by_cases e : p = n
    · subst e; exact absurd h2 h
    · exact ⟨p, hp, by omega, h2, h3⟩
  · rintro ⟨p, hp, h1, h2, h3⟩
    exact ⟨p, hp, by omega, h2, h3⟩
theorem stepI_none {G : Gram} {x y : It} (h : behI G x = none) : ¬ StepI G x y := fun ⟨p, hp, h1, _⟩ => by rw [h] at h1; cases h1
theorem cloL_step {G : Gram} {K : List It} {x y : It} (hx : x ∈ cloL G K) (h : StepI G x y) : y ∈ cloL G K := by
  obtain ⟨p, hp, h1, rfl⟩ := h
  exact cloL_mem.2 (.step hp (cloL_mem.1 hx) h1 rfl)
theorem cloL_ker {G : Gram} {K : List It} {x : It} (hx : x ∈ K) : x ∈ cloL G K := cloL_mem.2 (.ker hx)
theorem cloL_from {G : Gram} {K : List It} {y : It} (hy : y ∈ cloL G K) : y ∈ K ∨ ∃ x ∈ cloL G K, StepI G x y := by
  cases cloL_mem.1 hy with
  | ker h => exact .inl h
  | @step x s p hp hx hb hl => exact .inr ⟨x, cloL_mem.2 hx, p, hp, by rw [hb, hl], rfl⟩
theorem ris_lt {l : List It} (h : RisI l) {i j : Nat} (hij : i < j) (hj : j < l.length) : ltI l[i] l[j] := List.pairwise_iff_getElem.1 h i j (by omega) hj hij
theorem ris_new {l : List It} (h : RisI l) {k : Nat} (hk : k < l.length) : l[k] ∉ l.take k := fun hm => by
  obtain ⟨i, hi, e⟩ := List.getElem_of_mem hm
  rw [List.length_take] at hi
  rw [List.getElem_take] at e
  have := ris_lt h (show i < k by omega) hk
  rw [e] at this
  exact ltI_irrefl _ this
theorem take_more {l : List It} {k : Nat} (hk : k < l.length) (y : It) : y ∈ l.take (k + 1) ↔ y = l[k] ∨ y ∈ l.take k := by
  have e : l.take (k + 1) = l.take k ++ [l[k]] := by rw [List.take_add_one, List.getElem?_eq_getElem hk]; rfl
  rw [e, List.mem_append, List.mem_singleton, or_comm]
/-- What is asked for behind k items of the closure. -/
def AskTo (G : Gram) (K L : List It) (k : Nat) (y : It) : Prop := y ∈ K ∨ ∃ x ∈ L.take k, StepI G x y
theorem askTo_next {G : Gram} {K L : List It} {k : Nat} (hk : k < L.length) (y : It) : AskTo G K L (k + 1) y ↔ AskTo G K L k y ∨ StepI G L[k] y := by
  unfold AskTo
  constructor
  · rintro (h | ⟨x, hx, h⟩)
    · exact .inl (.inl h)
    · rcases (take_more hk x).1 hx with rfl | hx
      · exact .inr h
      · exact .inl (.inr ⟨x, hx, h⟩)
  · rintro ((h | ⟨x, hx, h⟩) | h)
    · exact .inl h
    · exact .inr ⟨x, (take_more hk x).2 (.inr hx), h⟩
    · exact .inr ⟨_, (take_more hk _).2 (.inl rfl), h⟩
theorem askTo_end {G : Gram} {K : List It} {y : It} {n : Nat} (hn : (cloL G K).length ≤ n) (hy : y ∈ cloL G K) : AskTo G K (cloL G K) n y := by
  unfold AskTo
  rw [List.take_of_length_le hn]
  exact cloL_from hy
theorem behI_some {G : Gram} {x : It} (h : InI G x) (hd : x.2 < ((rightOf G x.1).length : Int)) : ∃ (d : Nat) (hl : d < (rightOf G x.1).length), x.2 = (d : Int) ∧ behI G x = some (rightOf G x.1)[d] := by
  obtain ⟨_, _, h3, _⟩ := h
  refine ⟨x.2.toNat, by omega, by omega, ?_⟩
  unfold behI
  rw [List.getElem?_eq_getElem]
theorem behI_end {G : Gram} {x : It} (hd : ¬ x.2 < ((rightOf G x.1).length : Int)) : behI G x = none := by
  unfold behI
  rw [List.getElem?_eq_none]
  omega
end Go.Proofs.Ytgmkpncpcikecaa
