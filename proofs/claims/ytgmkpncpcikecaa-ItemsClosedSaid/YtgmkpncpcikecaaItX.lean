/-
  Maps of items: a set.
-/
import Derived.Test.YtgmkpncpcikecaaIt4
import Derived.Test.YtgmkpncpcikecaaMap
import Derived.DeepKeys4
namespace Go.Proofs.Ytgmkpncpcikecaa
open Go.RowKit Go.MapKept Go.ChangeMaps
set_option maxHeartbeats 400000

theorem itKey : WideMaps.KeyLaw Try.prog 41 := deep_law (m := 3) (by omega) (by kernel_rfl) (by kernel_rfl) (by kernel_rfl)
theorem lit_wf {a : Int} (h : i64 a) : (Lit.int .i64 a).wf = true := by
  unfold i64 at h
  simp [Lit.wf, IntKind.min, IntKind.max, IntKind.bits, IntKind.signed]
  omega
theorem itKeyed (x : It) (h1 : i64 x.1) (h2 : i64 x.2) : ∃ l, keyOf Try.prog 41 (itVal x) = some l := by
  obtain ⟨a, b⟩ := x
  have hk : Try.prog.keyType 41 = true := by kernel_rfl
  have hc : Try.prog.cellsOf 41 = 2 := by kernel_rfl
  have hc1 : Try.prog.cellsOf 3 = 1 := by kernel_rfl
  have hz : Try.prog.types.size + 1 = (Try.prog.types.size - 1) + 1 + 1 := by kernel_rfl
  have hu := Try.underlying3
  have hs := Try.underlying41
  have hl : ∀ (n : Nat) (c : Int), i64 c → Try.prog.keyLits (n + 1) 3 [.int .i64 c] = some [.int .i64 c] := fun n c hc => by
    unfold Program.keyLits
    simp only [hu]
    rw [if_pos ⟨trivial, lit_wf hc⟩]
  have h2' : ∀ n, Try.prog.keyLits (n + 1 + 1) 41 [.int .i64 a, .int .i64 b] = some [.int .i64 a, .int .i64 b] := fun n => by
    rw [Program.keyLits.eq_def]
    simp only [hs, hc]
    simp [hc1, hl n a h1, hl n b h2]
  unfold keyOf
  simp only [hs, hk, Bool.true_and]
  have hf : (itVal (a, b)).formed Try.prog 41 = true := by
    unfold itVal Value.formed
    simp only [hs, hc]
    rfl
  rw [if_pos hf, hz]
  unfold itVal
  simp only [Value.cells]
  rw [h2']
  exact ⟨_, rfl⟩
/-- Block b is a map whose keys are these items, each with true. -/
def ItSet (w : World) (b : Nat) (S : List It) : Prop :=
  ∃ es clock, w.heap[b]? = some (.map es clock) ∧ es.toList.map (fun e => e.key) = S.map itVal ∧ (∀ e ∈ es.toList, e.val = .bool true) ∧ ∀ x ∈ S, i64 x.1 ∧ i64 x.2
theorem itSet_new (w : World) : ItSet (w.alloc (.map #[] 0)) w.heap.size [] := ⟨#[], 0, (heap_alloc w _).1, rfl, by simp, by simp⟩
theorem ItSet.fr {ch : Nat → Prop} {w w' : World} {b : Nat} {S : List It} (h : ItSet w b S) (f : Fr ch w w') (hb : ¬ ch b) : ItSet w' b S := by
  obtain ⟨es, clock, h1, h2⟩ := h
  exact ⟨es, clock, f.obj h1 hb, h2⟩
theorem ItSet.lt {w : World} {b : Nat} {S : List It} (h : ItSet w b S) : b < w.heap.size := by
  obtain ⟨es, clock, h1, h2⟩ := h
  exact (Array.getElem?_eq_some_iff.1 h1).1
theorem itVal_inj {x y : It} (h : itVal x = itVal y) : x = y := by
  obtain ⟨a, b⟩ := x
  obtain ⟨c, d⟩ := y
  simpa [itVal] using h
theorem itSet_keys {es : List MapEntry} {S : List It} (h : es.map (fun e => e.key) = S.map itVal) (x : It) : (∃ e ∈ es, e.key = itVal x) ↔ x ∈ S := by
  constructor
  · rintro ⟨e, he, hk⟩
    have : itVal x ∈ S.map itVal := by rw [← h]; exact List.mem_map.2 ⟨e, he, hk⟩
    obtain ⟨y, hy, e⟩ := List.mem_map.1 this
    rw [← itVal_inj e]
    exact hy
  · intro hx
    have : itVal x ∈ es.map fun e => e.key := by rw [h]; exact List.mem_map.2 ⟨x, hx, rfl⟩
    obtain ⟨e, he, hk⟩ := List.mem_map.1 this
    exact ⟨e, he, hk⟩
theorem itSet_all {es : List MapEntry} {S : List It} (h : es.map (fun e => e.key) = S.map itVal) (hi : ∀ x ∈ S, i64 x.1 ∧ i64 x.2) : ∀ e ∈ es, ∃ l, keyOf Try.prog 41 e.key = some l := fun e he => by
  have : e.key ∈ S.map itVal := by rw [← h]; exact List.mem_map.2 ⟨e, he, rfl⟩
  obtain ⟨y, hy, e⟩ := List.mem_map.1 this
  rw [← e]
  exact itKeyed y (hi y hy).1 (hi y hy).2
theorem run_same_item (w : World) (a b : Int) : (Instr.keyThatStays (.agg #[.int .i64 a, .int .i64 b]) (.agg #[.int .i64 a, .int .i64 b])).run Try.prog w = .ok (.agg #[.int .i64 a, .int .i64 b]) w := by
  simp [Instr.keyThatStays, Instr.sameBits]
/-- Whether an item is there. -/
theorem ItSet.look {w : World} {b : Nat} {S : List It} (h : ItSet w b S) (x : It) (h1 : i64 x.1) (h2 : i64 x.2) :
    (Instr.lookup 49 (.map (some b)) (itVal x) false).run Try.prog w = .ok (.bool (decide (x ∈ S))) w := by
  obtain ⟨es, clock, hb, hk, hv, hi⟩ := h
  obtain ⟨l, hl⟩ := itKeyed x h1 h2
  have hch := fun em => itKey.check w em hl
  rcases itKey.find w hl es.toList (itSet_all hk hi) with ⟨h3, h4⟩ | ⟨j, e, h3, h4, h5⟩
  · have : ¬ x ∈ S := fun hx => by
      obtain ⟨e, he, hek⟩ := (itSet_keys hk x).2 hx
      exact h4 e he hek
    rw [decide_eq_false this]
    simp [Instr.lookup, run_underlying Try.underlying49, Go.MapKept.run_getObj_map hb, hch, h3, Result.andThen]
  · have he := List.mem_of_getElem? h4
    have : x ∈ S := (itSet_keys hk x).1 ⟨e, he, h5⟩
    rw [decide_eq_true this]
    simp [Instr.lookup, run_underlying Try.underlying49, Go.MapKept.run_getObj_map hb, hch, h3, hv e he, Result.andThen]
/-- An item is laid in. -/
theorem ItSet.store {w : World} {b : Nat} {S : List It} (h : ItSet w b S) (x : It) (h1 : i64 x.1) (h2 : i64 x.2) :
    ∃ w' S', (Instr.mapUpdate 49 (.map (some b)) (itVal x) (.bool true)).run Try.prog w = .ok () w' ∧ ItSet w' b S' ∧ (∀ y, y ∈ S' ↔ y = x ∨ y ∈ S) ∧ Fr (only b) w w' := by
  obtain ⟨es, clock, hb, hk, hv, hi⟩ := h
  obtain ⟨l, hl⟩ := itKeyed x h1 h2
  have hch := fun em => itKey.check w em hl
  rcases itKey.find w hl es.toList (itSet_all hk hi) with ⟨h3, h4⟩ | ⟨j, e, h3, h4, h5⟩
  · refine ⟨setBlock w b (.map (es.push ⟨itVal x, .bool true, clock⟩) (clock + 1)), S ++ [x], ?_, ⟨_, _, heap_setBlock_same hb _, by simp [hk], fun e he => ?_, fun y hy => ?_⟩, fun y => by simp [or_comm], ⟨rfl, rfl, rfl, by simp [setBlock], fun i _ hi => heap_setBlock_other hb _ (fun e => hi e)⟩⟩
    · simp [Instr.mapUpdate, run_underlying Try.underlying49, Go.MapKept.run_getObj_map hb, hch, h3, Go.MapKept.run_setObj_map _ hb, Result.andThen, setBlock]
    · simp only [Array.toList_push, List.mem_append, List.mem_singleton] at he
      rcases he with he | rfl
      · exact hv e he
      · rfl
    · rcases List.mem_append.1 hy with hy | hy
      · exact hi y hy
      · rw [List.mem_singleton.1 hy]; exact ⟨h1, h2⟩
  · have he := List.mem_of_getElem? h4
    have hx : x ∈ S := (itSet_keys hk x).1 ⟨e, he, h5⟩
    have h4' : es[j]? = some e := by simpa using h4
    have hst := itKey.stays w hl
    have hmod : es.modify j (fun e => { e with key := itVal x, val := .bool true }) = es := by
      apply Array.ext'
      rw [Array.toList_modify]
      apply List.ext_getElem?
      intro i
      rw [List.getElem?_modify]
      by_cases e' : j = i
      · subst e'
        rw [h4]
        have := hv e he
        obtain ⟨k, v, bo⟩ := e
        simp only at h5 this
        subst h5 this
        simp
      · simp [e']
    refine ⟨setBlock w b (.map es clock), S, ?_, ⟨_, _, heap_setBlock_same hb _, hk, hv, hi⟩, fun y => ⟨.inr, fun h => h.elim (fun e => e ▸ hx) id⟩, ⟨rfl, rfl, rfl, by simp [setBlock], fun i _ hi => heap_setBlock_other hb _ (fun e => hi e)⟩⟩
    simp [Instr.mapUpdate, run_underlying Try.underlying49, Go.MapKept.run_getObj_map hb, hch, h3, h4', h5, hst, hmod, Go.MapKept.run_setObj_map _ hb, Result.andThen, setBlock]
end Go.Proofs.Ytgmkpncpcikecaa
