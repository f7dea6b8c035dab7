/-
  Maps whose keys are texts, numbers or bools, as lists of their entries: look-up and store, whatever the elements are.
-/
import Derived.Test.YtgmkpncpcikecaaBase
import Derived.Maps.OwnSet
import Derived.Maps.OwnOps
namespace Go.Proofs.Ytgmkpncpcikecaa
open Go.RowKit Go.MapKept Go.ChangeMaps

/-- Block b is a map of these entries, in the order in which they came. -/
def IsMap (w : World) (d : TypeDesc) (b : Nat) (kv : List (Value × Value)) : Prop :=
  ∃ es clock, w.heap[b]? = some (.map es clock) ∧ es.toList.map (fun e => (e.key, e.val)) = kv ∧ ∀ x ∈ kv, IsKey d x.1

section
variable {P : Program} {w w' : World} {d : TypeDesc} {b : Nat} {kv : List (Value × Value)} {t kt et : TypeId} {k : Value}

theorem IsMap.fr {ch : Nat → Prop} (h : IsMap w d b kv) (f : Fr ch w w') (hb : ¬ ch b) : IsMap w' d b kv := by
  obtain ⟨es, clock, h1, h2⟩ := h
  exact ⟨es, clock, f.obj h1 hb, h2⟩
theorem IsMap.lt (h : IsMap w d b kv) : b < w.heap.size := by
  obtain ⟨es, clock, h1, h2⟩ := h
  exact (Array.getElem?_eq_some_iff.1 h1).1
theorem IsMap.below (h : IsMap w d b kv) (f : Below w.heap.size w w') : IsMap w' d b kv := h.fr (Fr.new f) fun e => e
theorem isMap_new (w : World) (d : TypeDesc) : IsMap (w.alloc (.map #[] 0)) d w.heap.size [] := ⟨#[], 0, (heap_alloc w _).1, rfl, by simp⟩

theorem IsMap.look (h : IsMap w d b kv) (ht : P.underlying t = some (.map kt et)) (hd : P.underlying kt = some d) (hk : IsKey d k) {z : Value} (hz : (zeroValue et).run P w = .ok z w) :
    (∃ v, (k, v) ∈ kv ∧ ∀ c, (Instr.lookup t (.map (some b)) k c).run P w = .ok (if c then .tuple #[v, .bool true] else v) w) ∨
    ((∀ x ∈ kv, x.1 ≠ k) ∧ ∀ c, (Instr.lookup t (.map (some b)) k c).run P w = .ok (if c then .tuple #[z, .bool false] else z) w) := by
  obtain ⟨es, clock, hb, rfl, hks⟩ := h
  have hks' : ∀ e ∈ es.toList, IsKey d e.key := fun e he => hks (e.key, e.val) (List.mem_map.2 ⟨e, he, rfl⟩)
  have hch := fun em => run_checkKey (w := w) hd hk em 9999
  rcases findNow_spec hk es.toList 0 hks' with ⟨h1, h2⟩ | ⟨j, e0, h1, h2, h3⟩
  · refine .inr ⟨fun x hx => ?_, fun c => ?_⟩
    · obtain ⟨e, he, rfl⟩ := List.mem_map.1 hx
      exact h2 e he
    · have hf := run_findKey (w := w) hd h1
      simp [Instr.lookup, run_underlying ht, Go.MapKept.run_getObj_map hb, hch, hf, hz, Result.andThen]
  · refine .inl ⟨e0.val, List.mem_map.2 ⟨e0, List.mem_of_getElem? h2, by rw [h3]⟩, fun c => ?_⟩
    have hf := run_findKey (w := w) hd h1
    simp [Instr.lookup, run_underlying ht, Go.MapKept.run_getObj_map hb, hch, hf, Result.andThen]

theorem IsMap.store_new (h : IsMap w d b kv) (ht : P.underlying t = some (.map kt et)) (hd : P.underlying kt = some d) (hk : IsKey d k) (hn : ∀ x ∈ kv, x.1 ≠ k) (v : Value) :
    ∃ w', (Instr.mapUpdate t (.map (some b)) k v).run P w = .ok () w' ∧ IsMap w' d b (kv ++ [(k, v)]) ∧ Fr (only b) w w' := by
  obtain ⟨es, clock, hb, rfl, hks⟩ := h
  have hks' : ∀ e ∈ es.toList, IsKey d e.key := fun e he => hks (e.key, e.val) (List.mem_map.2 ⟨e, he, rfl⟩)
  have hch := fun em => run_checkKey (w := w) hd hk em 9999
  rcases findNow_spec hk es.toList 0 hks' with ⟨h1, h2⟩ | ⟨j, e0, h1, h2, h3⟩
  · have hf := run_findKey (w := w) hd h1
    refine ⟨setBlock w b (.map (es.push ⟨k, v, clock⟩) (clock + 1)), ?_, ⟨_, _, heap_setBlock_same hb _, by simp, ?_⟩, ⟨rfl, rfl, rfl, by simp [setBlock], fun i _ hi => heap_setBlock_other hb _ (fun e => hi e)⟩⟩
    · simp [Instr.mapUpdate, run_underlying ht, Go.MapKept.run_getObj_map hb, hch, hf, Go.MapKept.run_setObj_map _ hb, Result.andThen, setBlock]
    · intro x hx
      rcases List.mem_append.1 hx with hx | hx
      · exact hks x hx
      · simp only [List.mem_singleton] at hx
        subst hx
        exact hk
  · exact absurd h3 (hn (e0.key, e0.val) (List.mem_map.2 ⟨e0, List.mem_of_getElem? h2, rfl⟩))
end

/-- 'm[k] = v' at a key that is not yet there, at the operation. -/
theorem wpList_store_new {P : Program} (w : World) {ops : Array Oper} {rest : List Oper} {o : Oper} {a : Act} {Q : Exit → Act → World → Prop}
    (hg : o.guard = none) (m x v : Operand) (t : TypeId) (hop : o.op = Op.mapUpdate t m x v) (kt et : TypeId) (d : TypeDesc) (ht : P.underlying t = some (.map kt et)) (hd : P.underlying kt = some d)
    (b : Nat) (kv : List (Value × Value)) (hm : a.eval m = .map (some b)) (h : IsMap w d b kv) (key val : Value) (hx : a.eval x = key) (hv : a.eval v = val) (hk : IsKey d key) (hn : ∀ x ∈ kv, x.1 ≠ key)
    (hK : ∀ w', IsMap w' d b (kv ++ [(key, val)]) → Fr (only b) w w' → wpList P ops Q rest (a.put o.dst undef) w') : wpList P ops Q (o :: rest) a w := by
  refine wpList_plain hg fun K' hK' => ?_
  obtain ⟨w', hrun, r1, r2⟩ := h.store_new ht hd hk hn val
  unfold Oper.wp
  simp [execOp, hop, hm, hx, hv, hrun, Result.andThen]
  exact hK' _ _ (hK w' r1 r2)

/-- A set of texts. -/
def texts (l : List ByteArray) : List (Value × Value) := l.map fun s => (.string s, .bool true)
theorem texts_append (l : List ByteArray) (s : ByteArray) : texts (l ++ [s]) = texts l ++ [(.string s, .bool true)] := by simp [texts]
theorem texts_mem {l : List ByteArray} {s : ByteArray} {v : Value} (h : (Value.string s, v) ∈ texts l) : s ∈ l ∧ v = .bool true := by
  obtain ⟨x, hx, e⟩ := List.mem_map.1 h
  simp only [Prod.mk.injEq, Value.string.injEq] at e
  obtain ⟨rfl, rfl⟩ := e
  exact ⟨hx, rfl⟩
theorem texts_not {l : List ByteArray} {s : ByteArray} (h : ∀ x ∈ texts l, x.1 ≠ Value.string s) : s ∉ l := fun hs => h _ (List.mem_map.2 ⟨s, hs, rfl⟩) rfl
theorem texts_ne {l : List ByteArray} {s : ByteArray} (h : s ∉ l) : ∀ x ∈ texts l, x.1 ≠ Value.string s := fun x hx e => by
  obtain ⟨y, hy, rfl⟩ := List.mem_map.1 hx
  simp only [Value.string.injEq] at e
  subst e
  exact h hy
def hasName (l : List ByteArray) (s : ByteArray) : Bool := l.any fun x => decide (x = s)
theorem hasName_iff (l : List ByteArray) (s : ByteArray) : hasName l s = true ↔ s ∈ l := by simp [hasName]
theorem hasName_false (l : List ByteArray) (s : ByteArray) : hasName l s = false ↔ s ∉ l := by rw [← hasName_iff]; simp
theorem IsMap.has {P : Program} {w : World} {b : Nat} {l : List ByteArray} {t kt et : TypeId} (h : IsMap w .string b (texts l)) (ht : P.underlying t = some (.map kt et)) (hd : P.underlying kt = some .string) (hz : (zeroValue et).run P w = .ok (.bool false) w) (s : ByteArray) :
    (Instr.lookup t (.map (some b)) (.string s) false).run P w = .ok (.bool (hasName l s)) w := by
  rcases h.look (k := .string s) ht hd trivial hz with ⟨v, hv, hr⟩ | ⟨hn, hr⟩
  · obtain ⟨h1, rfl⟩ := texts_mem hv
    rw [hr]
    simp [(hasName_iff l s).2 h1]
  · rw [hr]
    simp [(hasName_false l s).2 (texts_not hn)]
end Go.Proofs.Ytgmkpncpcikecaa
