/-
  What a call is handed, read as plain Lean: rows of numbers.
-/
import Derived.Test.YtlilegbdjnhfjaaGreatDoorBitsRow
import Derived.Test.YtlilegbdjnhfjaaGreatDoorBits8
import Derived.ProofKit
import Derived.Deep.Slices
import Derived.SizedLaws
import Derived.Lib.SmallJoins
namespace Go.Proofs.YtlilegbdjnhfjaaGreatDoor
open Go.ChangeShapes Go.WideShapes Go.ChangeAt Go.RowKit Go.Deep Go.Joins
set_option maxHeartbeats 400000

def Rows' {α : Type} (v : Value) (size : Nat) (at_ : Nat → Nat → α → Prop) (l : List α) : Prop :=
  l.length ≤ 17592186044416 ∧ ∃ a cap, v = .slice a l.length cap ∧ l.length ≤ cap ∧ cap ≤ maxLen ∧
    (l = [] ∨ ∃ b o, a = some ⟨b, o, none⟩ ∧ ∀ i, (h : i < l.length) → at_ b (o + i * size) l[i])

section
variable {H : Type} {enc : TypeId × Value → H} {P : Program} {w : World} {base : Nat} {spare : Nat → Bool} {held : Bool}
/-- All that a datum takes up is within reach. -/
def Fine (P : Program) (t : TypeId) (d : DataW H) : Prop := ∀ n ∈ d.weights P t, n ≤ reachBytes
theorem fine_each {ts : List TypeId} {ds : List (DataW H)} (h : (DataW.weightsEach P ts ds).all (· ≤ reachBytes) = true) {j : Nat} {t : TypeId} {d : DataW H} (ht : ts[j]? = some t) (hd : ds[j]? = some d) : Fine P t d :=
  fun n hn => by simpa using List.all_eq_true.1 h _ (DataW.weights_mem_each ht hd n hn)
theorem Fine.field {t : TypeId} {parts : List (DataW H)} {fs : Array Field} (h : Fine P t (.agg parts)) (hu : P.underlying t = some (.struct fs)) {j : Nat} {f : Field} {d : DataW H} (hf : fs[j]? = some f) (hd : parts[j]? = some d) : Fine P f.type d := fun n hn => by
  refine h n ?_
  simp only [DataW.weights, hu]
  exact DataW.weights_mem_each (by simp [hf]) hd n hn
theorem mem_all {e : TypeId} {d : DataW H} {n : Nat} (hn : n ∈ d.weights P e) : ∀ {l : List (DataW H)}, d ∈ l → n ∈ DataW.weightsAll P e l
  | [], h => by cases h
  | a :: r, h => by
    simp only [DataW.weightsAll, List.mem_append]
    rcases List.mem_cons.1 h with rfl | h
    · exact .inl hn
    · exact .inr (mem_all hn h)
theorem Fine.slice {t e : TypeId} {elems rest : List (DataW H)} (h : Fine P t (.slice elems rest)) (hu : P.underlying t = some (.slice e)) : (elems.length + rest.length) * P.bytesOf e ≤ reachBytes ∧ ∀ d ∈ elems, Fine P e d := by
  refine ⟨h _ (by simp [DataW.weights, hu]), fun d hd n hn => h n ?_⟩
  simp only [DataW.weights, hu, List.mem_cons, List.mem_append]
  exact .inr (.inl (mem_all hn hd))
theorem Fine.string {t : TypeId} {bytes : List UInt8} (h : Fine P t (.lit (.string bytes) : DataW H)) : bytes.length ≤ reachBytes := h _ (by simp [DataW.weights])

theorem one_of {t : TypeId} {fs : Array Field} (_ : P.underlying t = some (.struct fs)) (h : oneCellFields P fs = true) : oneCellFields P fs = true := h
theorem field_at {fs : Array Field} {cs : List Value} {ys : List (DataW H × List MemPlace)} {n : Nat} (hone : oneCellFields P fs = true)
    (hg : ∀ (i : Nat) (f : Field), fs[i]? = some f → DataW.trod enc P w base spare held n f.type ((cs.drop f.offset).take (P.cellsOf f.type)) = ys[i]?) (i : Nat) (f : Field) (hf : fs[i]? = some f) {c : Value} (hc : cs[i]? = some c) {y : DataW H × List MemPlace} (hy : ys[i]? = some y) :
    DataW.trod enc P w base spare held n f.type [c] = some y := by
  obtain ⟨ho, hk⟩ := hone_of hone i f hf
  have := hg i f hf
  rw [ho, hk, hy] at this
  obtain ⟨hi, rfl⟩ := List.getElem?_eq_some_iff.1 hc
  rw [List.drop_eq_getElem_cons hi] at this
  exact this
theorem list_of {α : Type} {R : Nat → α → Prop} : ∀ (n : Nat), (∀ i, i < n → ∃ x, R i x) → ∃ l : List α, l.length = n ∧ ∀ i, (h : i < l.length) → R i l[i]
  | 0, _ => ⟨[], rfl, fun i h => by simp at h⟩
  | n + 1, h => by
    obtain ⟨l, hl, hr⟩ := list_of n fun i hi => h i (by omega)
    obtain ⟨x, hx⟩ := h n (by omega)
    refine ⟨l ++ [x], by simp [hl], fun i hi => ?_⟩
    rw [List.getElem_append]
    split
    · exact hr i _
    · simp only [List.length_append, List.length_cons, List.length_nil] at hi
      have : i = n := by omega
      subst this
      simpa using hx

theorem add_plain (b o i : Nat) : (⟨b, o, none⟩ : Addr).add i = ⟨b, o + i, none⟩ := by unfold Addr.add; split <;> simp_all
theorem plain_of_cell {a : Addr} {v : Value} (h : w.cell? a = some v) : ∃ b o, a = ⟨b, o, none⟩ := by
  obtain ⟨b, o, sp⟩ := a
  cases sp with
  | none => exact ⟨b, o, rfl⟩
  | some n =>
    exfalso
    simp only [World.cell?] at h
    split at h <;> simp at h

/-- A slice whose elements are of so many cells. -/
theorem read_rows {α : Type} {t e : TypeId} {C fuel : Nat} {v : Value} {x : DataW H × List MemPlace} {At : Nat → Nat → α → Prop} (ht : P.underlying t = some (.slice e)) (hC : P.cellsOf e = C) (hC0 : 0 < C) (hb : 8 ≤ P.bytesOf e)
    (h : DataW.trod enc P w base spare held fuel t [v] = some x) (hf : Fine P t x.1)
    (hel : ∀ (b o n : Nat) (cs : List Value) (y : DataW H × List MemPlace), cs.length = C → Cells w b o cs → DataW.trod enc P w base spare held n e cs = some y → Fine P e y.1 → ∃ s, At b o s) : ∃ l : List α, Rows' v C At l := by
  rcases open_slice ht h with ⟨h0, _⟩ | ⟨a, len, cap, m, n, D, Pl, hcs, hbs, hl, hm, hmm, hx, hi⟩
  · simp only [List.cons.injEq, and_true] at h0
    subst h0
    exact ⟨[], by simp, none, 0, rfl, Nat.le_refl _, by unfold maxLen; omega, .inl rfl⟩
  · simp only [List.cons.injEq, and_true] at hcs
    subst hcs
    subst hx
    obtain ⟨h1, h2⟩ := hf.slice ht
    simp only [List.length_map, List.length_range, reachBytes] at h1
    have hlm : len ≤ m := by rw [hmm]; split <;> omega
    have hlen : len ≤ 17592186044416 := by
      have : len * 8 ≤ (len + (m - len)) * P.bytesOf e := Nat.mul_le_mul (by omega) hb
      omega
    by_cases h0 : len = 0
    · subst h0
      exact ⟨[], by simp, some a, cap, rfl, Nat.zero_le _, hm, .inl rfl⟩
    · obtain ⟨b, o, rfl⟩ : ∃ b o, a = ⟨b, o, none⟩ := by
        obtain ⟨cs, hc, _⟩ := hi 0 (by omega)
        obtain ⟨_, hcl, hat⟩ := World.cells?_some hc
        have := hat 0 (by omega)
        rw [List.getElem?_eq_getElem (by omega), Go.Deep.add_add] at this
        have h00 : a.add (0 * P.cellsOf e + 0) = a := by simp [Addr.add]
        rw [h00] at this
        exact plain_of_cell this
      obtain ⟨l, hll, hlr⟩ := list_of (R := fun i s => At b (o + i * C) s) len fun i hil => by
        obtain ⟨cs, hc, htr⟩ := hi i (by omega)
        obtain ⟨_, hcl, hat⟩ := World.cells?_some hc
        rw [hC] at hcl hat
        refine hel b (o + i * C) n cs _ hcl (fun j hj => ?_) htr (h2 _ (by simp; exact ⟨i, hil, rfl⟩))
        have := hat j (by omega)
        rw [add_plain, add_plain, List.getElem?_eq_getElem hj] at this
        exact this
      refine ⟨l, by omega, some ⟨b, o, none⟩, cap, by rw [hll], by omega, hm, .inr ⟨b, o, rfl, hlr⟩⟩

theorem read_ints {t e : TypeId} {fuel : Nat} {v : Value} {x : DataW H × List MemPlace} (ht : P.underlying t = some (.slice e)) (he : P.underlying e = some (.int .i64)) (hC : P.cellsOf e = 1) (hb : 8 ≤ P.bytesOf e)
    (h : DataW.trod enc P w base spare held fuel t [v] = some x) (hf : Fine P t x.1) : ∃ xs, Ints w v xs := by
  obtain ⟨l, h1, a, cap, rfl, h2, h3, h4⟩ := read_rows (C := 1) (At := fun b o (n : Int) => (-9223372036854775808 ≤ n ∧ n ≤ 9223372036854775807) ∧ w.cell? ⟨b, o, none⟩ = some (.int .i64 n)) ht hC (by omega) hb h hf
    (fun b o n cs y hl hc ht' _ => by
      obtain ⟨k, rfl, _, hw⟩ := DataW.trod_int he ht'
      have := hc 0 (by simp)
      simp only [Nat.add_zero, List.getElem_cons_zero] at this
      exact ⟨k, by simpa [Lit.wf, IntKind.min, IntKind.max, IntKind.bits, IntKind.signed] using hw, this⟩)
  refine ⟨l, fun y hy => ?_, h1, a, cap, rfl, h2, h3, ?_⟩
  · obtain ⟨i, hi, rfl⟩ := List.mem_iff_getElem.1 hy
    rcases h4 with rfl | ⟨b, o, _, hx⟩
    · simp at hi
    · exact (hx i hi).1
  · rcases h4 with h4 | ⟨b, o, ha, hx⟩
    · exact .inl h4
    · refine .inr ⟨b, o, ha, fun i hi => ?_⟩
      have := (hx i (by simpa using hi)).2
      rw [Nat.mul_one] at this
      simpa using this
end


theorem cInts : Tryz.prog.cellsOf 35 = 1 := by kernel_rfl
theorem bInt8 : 8 ≤ Tryz.prog.bytesOf 3 := Nat.le_of_ble_eq_true (by kernel_rfl)
theorem bInts8 : 8 ≤ Tryz.prog.bytesOf 35 := Nat.le_of_ble_eq_true (by kernel_rfl)
set_option maxRecDepth 100000 in
/-- Rows of numbers that come in. -/
theorem rows_in {H : Type} {enc : TypeId × Value → H} {W : World} {v : Value} {d : DataW H} {p : List MemPlace} {ts : List TypeId} {ds : List (DataW H)} {base : Nat} (j : Nat)
    (hk : Value.okWide Tryz.prog W .any base 40 v) (h : DataW.Trod enc Tryz.prog W 0 (fun _ => true) true 40 v d p)
    (hs : (DataW.weightsEach Tryz.prog ts ds).all (· ≤ reachBytes) = true) (ht : ts[j]? = some 40) (hd : ds[j]? = some d) : ∃ rows, IntRows W v rows := by
  have hf := fine_each hs ht hd
  obtain ⟨a0, len, cap, rfl⟩ := okWide_slice Tryz.underlying40 hk
  obtain ⟨fuel, hfu⟩ := h
  obtain ⟨l, h1, a, cap', he, h2, h3, h4⟩ := read_rows (C := 1) (At := fun b o (xs : List Int) => ∃ x, W.cell? ⟨b, o, none⟩ = some x ∧ Ints W x xs) Tryz.underlying40 cInts (by omega) bInts8 hfu hf
    (fun b o n cs y hl hc ht' hf' => by
      match cs, hl with
      | [c0], _ =>
        obtain ⟨xs, hxs⟩ := read_ints Tryz.underlying35 Tryz.underlying3 cInt bInt8 ht' hf'
        have := hc 0 (by simp)
        simp only [Nat.add_zero, List.getElem_cons_zero] at this
        exact ⟨xs, c0, this, hxs⟩)
  refine ⟨l, a, cap', he, h1, fun k hk => ?_⟩
  rcases h4 with rfl | ⟨b, o, ha, hx⟩
  · simp at hk
  · obtain ⟨x, hc, hi⟩ := hx k hk
    rw [Nat.mul_one] at hc
    exact ⟨b, o, x, ha, hc, hi⟩
end Go.Proofs.YtlilegbdjnhfjaaGreatDoor
