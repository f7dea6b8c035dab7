/-
  Maps by what each key holds: look-up and store, at a key that is there too.
-/
import Derived.Test.YtgmkpncpcikecaaMap
namespace Go.Proofs.Ytgmkpncpcikecaa
open Go.RowKit Go.MapKept Go.ChangeMaps

/-- What a list of entries holds at a key. -/
def valAt (d : TypeDesc) (k : Value) : List MapEntry → Option Value
  | [] => none
  | e :: es => match Instr.sameNow d k e.key with
    | some true => some e.val
    | _ => valAt d k es

theorem valAt_find {d : TypeDesc} {k : Value} (hk : IsKey d k) (v : Value) : ∀ (l : List MapEntry) (i : Nat), (∀ e ∈ l, IsKey d e.key) →
    (Instr.findNow d k l i = some none ∧ valAt d k l = none ∧ ∀ e ∈ l, e.key ≠ k) ∨
    ∃ j e, Instr.findNow d k l i = some (some (i + j, e.val)) ∧ l[j]? = some e ∧ e.key = k ∧ valAt d k l = some e.val ∧
      valAt d k (l.modify j fun e => { e with key := k, val := v }) = some v ∧
      ∀ k', IsKey d k' → k' ≠ k → valAt d k' (l.modify j fun e => { e with key := k, val := v }) = valAt d k' l
  | [], _, _ => .inl ⟨rfl, rfl, by simp⟩
  | e :: es, i, h => by
    obtain ⟨r, hr, hiff⟩ := sameNow_of_keys hk (h e (.head _))
    cases r with
    | true =>
      have he : e.key = k := (hiff.1 rfl).symm
      refine .inr ⟨0, e, by simp [Instr.findNow, hr], rfl, he, by simp [valAt, hr], ?_, fun k' hk' hne => ?_⟩
      · rw [he] at hr
        simp [valAt, hr]
      · rw [he] at hr
        simp [valAt, he]
        obtain ⟨r', hr', hiff'⟩ := sameNow_of_keys hk' (he ▸ h e (.head _))
        cases r' with
        | true => exact absurd (hiff'.1 rfl) hne
        | false => simp [hr']
    | false =>
      have hne0 : e.key ≠ k := fun e' => by have := hiff.2 e'.symm; cases this
      rcases valAt_find hk v es (i + 1) (fun x hx => h x (.tail _ hx)) with ⟨h1, h2, h3⟩ | ⟨j, e0, h1, h2, h3, h4, h5, h6⟩
      · refine .inl ⟨by simp [Instr.findNow, hr, h1], by simp [valAt, hr, h2], fun x hx => ?_⟩
        rcases List.mem_cons.1 hx with rfl | hx
        · exact hne0
        · exact h3 x hx
      · refine .inr ⟨j + 1, e0, by simp [Instr.findNow, hr, h1]; omega, by simpa using h2, h3, by simp [valAt, hr, h4], by simp [valAt, hr, h5], fun k' hk' hne => ?_⟩
        have := h6 k' hk' hne
        simp only [List.modify_succ_cons, valAt, this]

/-- Block b is a map that holds f k at k. -/
def MapIs (w : World) (d : TypeDesc) (b : Nat) (f : Value → Option Value) : Prop :=
  ∃ es clock, w.heap[b]? = some (.map es clock) ∧ (∀ e ∈ es.toList, IsKey d e.key) ∧ ∀ k, IsKey d k → valAt d k es.toList = f k
section
variable {P : Program} {w w' : World} {d : TypeDesc} {b : Nat} {f f' : Value → Option Value} {t kt et : TypeId} {k : Value}
theorem MapIs.fr {ch : Nat → Prop} (h : MapIs w d b f) (g : Fr ch w w') (hb : ¬ ch b) : MapIs w' d b f := by
  obtain ⟨es, clock, h1, h2⟩ := h
  exact ⟨es, clock, g.obj h1 hb, h2⟩
theorem MapIs.below (h : MapIs w d b f) (g : Below w.heap.size w w') : MapIs w' d b f := h.fr (Fr.new g) fun e => e
theorem MapIs.congr (h : MapIs w d b f) (e : ∀ k, IsKey d k → f k = f' k) : MapIs w d b f' := by
  obtain ⟨es, clock, h1, h2, h3⟩ := h
  exact ⟨es, clock, h1, h2, fun k hk => (h3 k hk).trans (e k hk)⟩
theorem mapIs_new (w : World) (d : TypeDesc) : MapIs (w.alloc (.map #[] 0)) d w.heap.size (fun _ => none) := ⟨#[], 0, (heap_alloc w _).1, by simp, fun _ _ => rfl⟩
theorem MapIs.look (h : MapIs w d b f) (ht : P.underlying t = some (.map kt et)) (hd : P.underlying kt = some d) (hk : IsKey d k) {z : Value} (hz : (zeroValue et).run P w = .ok z w) (c : Bool) :
    (Instr.lookup t (.map (some b)) k c).run P w = .ok (if c then .tuple #[(f k).getD z, .bool (f k).isSome] else (f k).getD z) w := by
  obtain ⟨es, clock, hb, hks, hf⟩ := h
  have hch := fun em => run_checkKey (w := w) hd hk em 9999
  have hfk := hf k hk
  rcases valAt_find hk z es.toList 0 hks with ⟨h1, h2, _⟩ | ⟨j, e0, h1, h2, h3, h4, _⟩
  · have hr := run_findKey (w := w) hd h1
    rw [h2] at hfk
    rw [← hfk]
    simp [Instr.lookup, run_underlying ht, Go.MapKept.run_getObj_map hb, hch, hr, hz, Result.andThen]
  · have hr := run_findKey (w := w) hd h1
    rw [h4] at hfk
    rw [← hfk]
    simp [Instr.lookup, run_underlying ht, Go.MapKept.run_getObj_map hb, hch, hr, Result.andThen]
theorem valAt_push (l : List MapEntry) (e : MapEntry) (k : Value) : valAt d k (l ++ [e]) = match valAt d k l with | some v => some v | none => valAt d k [e] := by
  induction l with
  | nil => simp [valAt]
  | cons x xs ih =>
    simp only [List.cons_append, valAt]
    split
    · rfl
    · exact ih
theorem MapIs.store (h : MapIs w d b f) (ht : P.underlying t = some (.map kt et)) (hd : P.underlying kt = some d) (hk : IsKey d k) (v : Value) (hf' : f' k = some v) (hother : ∀ k', IsKey d k' → k' ≠ k → f' k' = f k') :
    ∃ w', (Instr.mapUpdate t (.map (some b)) k v).run P w = .ok () w' ∧ MapIs w' d b f' ∧ Fr (only b) w w' := by
  obtain ⟨es, clock, hb, hks, hf⟩ := h
  have hch := fun em => run_checkKey (w := w) hd hk em 9999
  rcases valAt_find hk v es.toList 0 hks with ⟨h1, h2, h3⟩ | ⟨j, e0, h1, h2, h3, h4, h5, h6⟩
  · have hr := run_findKey (w := w) hd h1
    refine ⟨setBlock w b (.map (es.push ⟨k, v, clock⟩) (clock + 1)), ?_, ⟨_, _, heap_setBlock_same hb _, ?_, ?_⟩, ⟨rfl, rfl, rfl, by simp [setBlock], fun i _ hi => heap_setBlock_other hb _ (fun e => hi e)⟩⟩
    · simp [Instr.mapUpdate, run_underlying ht, Go.MapKept.run_getObj_map hb, hch, hr, Go.MapKept.run_setObj_map _ hb, Result.andThen, setBlock]
    · intro e he
      simp only [Array.toList_push, List.mem_append, List.mem_singleton] at he
      rcases he with he | rfl
      · exact hks e he
      · exact hk
    · intro k' hk'
      rw [Array.toList_push, valAt_push]
      obtain ⟨r', hr', hiff'⟩ := sameNow_of_keys hk' hk
      by_cases e : k' = k
      · subst e
        rw [h2, hf']
        simp [valAt, hr', hiff'.2 rfl]
      · rw [hother k' hk' e, ← hf k' hk']
        cases hv : valAt d k' es.toList with
        | some u => rfl
        | none =>
          cases r' with
          | true => exact absurd (hiff'.1 rfl) e
          | false => simp [valAt, hr']
  · have hr := run_findKey (w := w) hd h1
    have hj : es[j]? = some e0 := by simpa using h2
    have hst := run_keyThatStays (P := P) (w := w) hk
    refine ⟨setBlock w b (.map (es.modify j fun e => { e with key := k, val := v }) clock), ?_, ⟨_, _, heap_setBlock_same hb _, ?_, ?_⟩, ⟨rfl, rfl, rfl, by simp [setBlock], fun i _ hi => heap_setBlock_other hb _ (fun e => hi e)⟩⟩
    · simp [Instr.mapUpdate, run_underlying ht, Go.MapKept.run_getObj_map hb, hch, hr, hj, h3, hst, Go.MapKept.run_setObj_map _ hb, Result.andThen, setBlock]
    · intro e he
      rw [Array.toList_modify] at he
      obtain ⟨i, hi, rfl⟩ := List.mem_iff_getElem.1 he
      rw [List.getElem_modify]
      split
      · exact hk
      · exact hks _ (List.getElem_mem _)
    · intro k' hk'
      rw [Array.toList_modify]
      by_cases e : k' = k
      · subst e
        rw [h5, hf']
      · rw [h6 k' hk' e, hother k' hk' e, hf k' hk']
end
end Go.Proofs.Ytgmkpncpcikecaa
