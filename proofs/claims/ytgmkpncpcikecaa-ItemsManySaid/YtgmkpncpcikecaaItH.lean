/-
  Maps of numbers that are ranged over: the keys, sorted.
-/
import Derived.Test.YtgmkpncpcikecaaItD
import Derived.Test.YtgmkpncpcikecaaLayB
namespace Go.Proofs.Ytgmkpncpcikecaa
open Go.RowKit Go.MapKept Go.ChangeMaps Go.Maps Go.Sort Go.Shelf Go.WideShapes
set_option maxHeartbeats 400000

def R1 : Value → Option (DataW Unit × List MemPlace) := fun _ => some (.lit (.bool true), [])
/-- Block m is a map of at most n entries whose keys are numbers. -/
def Sized (w : World) (m n : Nat) : Prop := ∃ D, w.ownsMap Try.prog 3 R1 m n D
theorem Sized.new (w : World) : Sized (w.alloc (.map #[] 0)) w.heap.size 0 := ⟨_, World.ownsMap_made w _ _ _⟩
theorem Sized.fr {ch : Nat → Prop} {w w' : World} {m n : Nat} (h : Sized w m n) (k : Fr ch w w') (hc : ¬ ch m) : Sized w' m n := by
  obtain ⟨D, es, clock, hb, F, hs, hD⟩ := h
  exact ⟨D, es, clock, k.obj hb hc, F, hs, hD⟩
theorem Sized.mono {w : World} {m n n' : Nat} (h : Sized w m n) (hn : n ≤ n') : Sized w m n' := h.imp fun _ h => h.mono hn
theorem keyedInt : Keyed Try.prog 3 := int_keyed Try.underlying3
theorem wf_i64 {s : Int} (h : i64 s) : (Lit.int .i64 s).wf = true := by
  obtain ⟨h1, h2⟩ := h
  have a1 : IntKind.i64.min = -9223372036854775808 := rfl
  have a2 : IntKind.i64.max = 9223372036854775807 := rfl
  simp [Lit.wf, a1, a2]
  omega
theorem keyInt {s : Int} (h : i64 s) : keyOf Try.prog 3 (.int .i64 s) = some (.int .i64 s) := by
  simp [keyOf, mapKey, Try.underlying3, wf_i64 h]
theorem store_both {t et : TypeId} {w : World} {m n : Nat} {f f' : Value → Option Value} {s : Int} {v : Value} (h : MapIs w (.int .i64) m f) (hz : Sized w m n) (hn : n < maxLen) (ht : Try.prog.underlying t = some (.map 3 et)) (hs : i64 s)
    (hf' : f' (.int .i64 s) = some v) (hother : ∀ k', IsKey (.int .i64) k' → k' ≠ .int .i64 s → f' k' = f k') :
    ∃ w', (Instr.mapUpdate t (.map (some m)) (.int .i64 s) v).run Try.prog w = .ok () w' ∧ MapIs w' (.int .i64) m f' ∧ Sized w' m (n + 1) ∧ Fr (only m) w w' := by
  obtain ⟨w1, h1, h2, h3⟩ := h.store (P := Try.prog) (k := .int .i64 s) ht Try.underlying3 rfl v hf' hother
  obtain ⟨D, hD⟩ := hz
  obtain ⟨w2, k1, k2, _⟩ := hD.update (val := v) keyedInt ht hn (keyInt hs) rfl
  rw [h1] at k1
  cases k1
  exact ⟨_, h1, h2, ⟨_, k2⟩, h3⟩
/-- 'm[k] = v', at the operation, for a map that will be ranged over. -/
theorem wpList_store_both (w : World) {ops : Array Oper} {rest : List Oper} {o : Oper} {a : Act} {Q : Exit → Act → World → Prop}
    (hg : o.guard = none) (m x v : Operand) (t : TypeId) (hop : o.op = Op.mapUpdate t m x v) (et : TypeId) (ht : Try.prog.underlying t = some (.map 3 et))
    (b n : Nat) (f f' : Value → Option Value) (hm : a.eval m = .map (some b)) (h : MapIs w (.int .i64) b f) (hz : Sized w b n) (hn : n < maxLen) (s : Int) (hs : i64 s) (val : Value) (hx : a.eval x = .int .i64 s) (hv : a.eval v = val)
    (hf' : f' (.int .i64 s) = some val) (hother : ∀ k', IsKey (.int .i64) k' → k' ≠ .int .i64 s → f' k' = f k')
    (hK : ∀ w', MapIs w' (.int .i64) b f' → Sized w' b (n + 1) → Fr (only b) w w' → wpList Try.prog ops Q rest (a.put o.dst undef) w') : wpList Try.prog ops Q (o :: rest) a w := by
  refine wpList_plain hg fun K' hK' => ?_
  obtain ⟨w', hrun, r1, r2, r3⟩ := store_both (v := val) h hz hn ht hs hf' hother
  unfold Oper.wp
  simp [execOp, hop, hm, hx, hv, hrun, Result.andThen]
  exact hK' _ _ (hK w' r1 r2 r3)
theorem valAt_some {d : TypeDesc} {k : Value} (hk : IsKey d k) {l : List MapEntry} (h : ∀ e ∈ l, IsKey d e.key) : valAt d k l ≠ none ↔ ∃ e ∈ l, e.key = k := by
  rcases valAt_find hk undef l 0 h with ⟨_, h2, h3⟩ | ⟨j, e, _, h2, h3, h4, _⟩
  · rw [h2]
    simp only [ne_eq, not_true_eq_false, false_iff, not_exists, not_and]
    exact h3
  · rw [h4]
    simp only [ne_eq, reduceCtorEq, not_false_eq_true, true_iff]
    exact ⟨e, List.mem_of_getElem? h2, h3⟩
theorem keys_mem {w : World} {m n : Nat} {f : Value → Option Value} {D : DataW Unit} (h : MapIs w (.int .i64) m f) (hD : w.ownsMap Try.prog 3 R1 m n D) : ∀ x, x ∈ intKeys D ↔ f (.int .i64 x) ≠ none := by
  obtain ⟨es, c, hb, hk, hf⟩ := h
  obtain ⟨es', c', hb', F, hs, rfl⟩ := hD
  rw [hb] at hb'
  simp only [Option.some.injEq, Obj.map.injEq] at hb'
  obtain ⟨rfl, rfl⟩ := hb'
  intro x
  rw [← hf (.int .i64 x) rfl, valAt_some (d := .int .i64) (k := .int .i64 x) rfl hk]
  show x ∈ ((es.toList.map (Go.WideElems.rg Try.prog 3 R1)).foldr DataW.insert []).map (fun p => Go.intOf p.1) ↔ _
  simp only [List.mem_map]
  constructor
  · rintro ⟨p, hp, rfl⟩
    obtain ⟨e, he, rfl⟩ := List.mem_map.1 (mem_sorted.1 hp)
    obtain ⟨y, hy⟩ := F.reads e he
    obtain ⟨z, hz, hz', _⟩ := Maps.keyOf_i64 Try.underlying3 (Go.WideElems.rd_key hy)
    refine ⟨e, he, ?_⟩
    rw [Go.WideElems.rg_of hy, hz, hz']
    rfl
  · rintro ⟨e, he, hx⟩
    obtain ⟨y, hy⟩ := F.reads e he
    obtain ⟨z, hz, hz', _⟩ := Maps.keyOf_i64 Try.underlying3 (Go.WideElems.rd_key hy)
    refine ⟨_, mem_sorted.2 (List.mem_map.2 ⟨e, he, rfl⟩), ?_⟩
    rw [Go.WideElems.rg_of hy, hz']
    rw [hx] at hz
    cases hz
    rfl
theorem sortsN (m : Nat) : AnyZI.SortsIn Try.prog Try.sortedA_ren Fence.wide m :=
  ⟨fun blk off cap ss W hH hblk hsz => callsIn_wide.2 (AnyM.slices_Sort_int Try.sortN blk off cap ss W hH hblk hsz),
   fun p cap W => callsIn_wide.2 (AnyM.slices_Sort_int_none Try.sortN p cap W)⟩
theorem keysF_any (mb : Option Nat) (w : World) : Calls Try.prog 22 #[.map mb] w fun e w' => e = .returned (.func (.func 38) #[] #[.pointer (some ⟨w.heap.size, 0, none⟩)]) ∧ w' = w.alloc (.cells #[.map mb] 65) :=
  (callsIn_wide (n := 5)).1 (AnyZI.keys_in Try.keysA Fence.wide 5 trivial rfl mb w)
/-- What the sorted keys are. -/
def SortedKeys (f : Value → Option Value) (w : World) (e : Ending) (w' : World) : Prop := ∃ (v : Value) (ss : List Int), e = .returned v ∧ ss.Pairwise (· < ·) ∧ (∀ x, x ∈ ss ↔ f (.int .i64 x) ≠ none) ∧ w'.ownsRow w.heap.size 3 1 v ss.length (ss.map (Value.int .i64)) ∧ Below w.heap.size w w'
theorem rising_sorted (ss : List Int) (hn : ss.Nodup) : (ss.mergeSort (fun x y => decide (x ≤ y))).Pairwise (· < ·) := by
  have h1 := List.pairwise_mergeSort (le := fun x y : Int => decide (x ≤ y)) (fun a b c h1 h2 => by simp only [decide_eq_true_eq] at *; omega) (fun a b => by simp only [Bool.or_eq_true, decide_eq_true_eq]; omega) ss
  have h2 : (ss.mergeSort (fun x y => decide (x ≤ y))).Nodup := (List.mergeSort_perm ss _).nodup_iff.2 hn
  refine (h1.and h2).imp fun ⟨h1, h2⟩ => ?_
  simp only [decide_eq_true_eq] at h1
  omega
theorem sortedKeys_any (f : Value → Option Value) (m n bx : Nat) (w : World) (h : MapIs w (.int .i64) m f) (hz : Sized w m n) (hn : n ≤ 1000000) (hx : w.heap[bx]? = some (.cells #[.map (some m)] 65 (0, 0))) :
    Calls Try.prog 21 #[.func (.func 38) #[] #[.pointer (some ⟨bx, 0, none⟩)]] w (SortedKeys f w) := by
  obtain ⟨D, hD⟩ := hz
  have hmem := keys_mem h hD
  have hbx : bx < w.heap.size := (Array.getElem?_eq_some_iff.1 hx).1
  have hsz : Maps.size D ≤ 1000000 := by
    obtain ⟨es, c, _, _, hs, rfl⟩ := hD
    rw [size_eq, length_sorted]
    simp
    omega
  have hnd : (intKeys D).Nodup := by
    obtain ⟨es, rfl, hpw, _⟩ := hD.entries keyedInt
    obtain ⟨es', hD', hko⟩ := hD.keysOf
    obtain rfl : es = es' := by simpa using hD'
    refine List.pairwise_map.2 (hpw.imp_of_mem fun {p q} hp hq hne e => hne ?_)
    obtain ⟨v, hv⟩ := hko p hp
    obtain ⟨v', hv'⟩ := hko q hq
    obtain ⟨a, _, ha, _⟩ := Maps.keyOf_i64 Try.underlying3 hv
    obtain ⟨b, _, hb, _⟩ := Maps.keyOf_i64 Try.underlying3 hv'
    rw [ha, hb] at e ⊢
    exact congrArg _ e
  have hseq : SeqGives Fence.wide 2 Try.prog 38 #[.pointer (some ⟨bx, 0, none⟩)] encZ (fun ss => ss.Perm (intKeys D)) (Maps.size D) w :=
    AnyZI.keys_gives (ρ := Try.keysA_ren) { Try.keysA with } Fence.wide _ trivial rfl (by omega) bx m n D w hbx (obj_cell hx 0 rfl) hD
  have cS := AnyZI.sorted_in Try.sortedA Fence.wide 5 trivial trivial trivial trivial rfl (by omega) (sortsN _) (enters_of Try.func37 (by kernel_rfl) rfl) 38 #[.pointer (some ⟨bx, 0, none⟩)] trivial (enters_of Try.func38 (by kernel_rfl) rfl) _ _ (by unfold maxLen; omega) (by omega) w hseq
  refine ((callsIn_wide (n := 5)).1 cS).mono ?_
  rintro e w' ⟨v, ss, rfl, hp, hrow, -, hb⟩
  have hnd' := hp.nodup_iff.2 hnd
  refine ⟨v, ss.mergeSort (fun x y => decide (x ≤ y)), rfl, rising_sorted ss hnd', fun x => ?_, ?_, hb⟩
  · rw [(List.mergeSort_perm ss _).mem_iff, hp.mem_iff]
    exact hmem x
  · rw [List.length_mergeSort]
    exact hrow
end Go.Proofs.Ytgmkpncpcikecaa
