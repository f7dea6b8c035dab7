/-
  What a call is handed, read as plain Lean: grammars.
-/
import Derived.Test.YtgmkpncpcikecaaParts
import Derived.ProofKit
import Derived.Deep.Slices
import Derived.SizedLaws
import Derived.Lib.SmallJoins
namespace Go.Proofs.Ytgmkpncpcikecaa
open Go.ChangeShapes Go.WideShapes Go.ChangeAt Go.RowKit Go.Deep Go.Joins
set_option maxHeartbeats 400000

section
variable {H : Type} {enc : TypeId × Value → H} {P : Program} {w : World} {base : Nat} {spare : Nat → Bool} {held : Bool}
/-- All that a datum takes up is within reach. -/
def Fine (P : Program) (t : TypeId) (d : DataW H) : Prop := ∀ n ∈ d.weights P t, n ≤ reachBytes
theorem fine_each {ts : List TypeId} {ds : List (DataW H)} (h : (DataW.weightsEach P ts ds).all (· ≤ reachBytes) = true) {j : Nat} {t : TypeId} {d : DataW H} (ht : ts[j]? = some t) (hd : ds[j]? = some d) : Fine P t d :=
  fun n hn => by simpa using List.all_eq_true.1 h _ (DataW.weights_mem_each ht hd n hn)
theorem Fine.field {t : TypeId} {parts : List (DataW H)} {fs : Array Field} (h : Fine P t (.agg parts)) (hu : P.underlying t = some (.struct fs)) {j : Nat} {f : Field} {d : DataW H} (hf : fs[j]? = some f) (hd : parts[j]? = some d) : Fine P f.type d := fun n hn => by
  refine h n ?_
  simp only [DataW.weights, hu]
  exact DataW.weights_mem_each (by simp [hf]) hd n hn
theorem mem_all {e : TypeId} {d : DataW H} {n : Nat} (hn : n ∈ d.weights P e) : ∀ {l : List (DataW H)}, d ∈ l → n ∈ DataW.weightsAll P e l
  | [], h => by cases h
  | a :: r, h => by
    simp only [DataW.weightsAll, List.mem_append]
    rcases List.mem_cons.1 h with rfl | h
    · exact .inl hn
    · exact .inr (mem_all hn h)
theorem Fine.slice {t e : TypeId} {elems rest : List (DataW H)} (h : Fine P t (.slice elems rest)) (hu : P.underlying t = some (.slice e)) : (elems.length + rest.length) * P.bytesOf e ≤ reachBytes ∧ ∀ d ∈ elems, Fine P e d := by
  refine ⟨h _ (by simp [DataW.weights, hu]), fun d hd n hn => h n ?_⟩
  simp only [DataW.weights, hu, List.mem_cons, List.mem_append]
  exact .inr (.inl (mem_all hn hd))
theorem Fine.string {t : TypeId} {bytes : List UInt8} (h : Fine P t (.lit (.string bytes) : DataW H)) : bytes.length ≤ reachBytes := h _ (by simp [DataW.weights])

theorem one_of {t : TypeId} {fs : Array Field} (_ : P.underlying t = some (.struct fs)) (h : oneCellFields P fs = true) : oneCellFields P fs = true := h
theorem field_at {fs : Array Field} {cs : List Value} {ys : List (DataW H × List MemPlace)} {n : Nat} (hone : oneCellFields P fs = true)
    (hg : ∀ (i : Nat) (f : Field), fs[i]? = some f → DataW.trod enc P w base spare held n f.type ((cs.drop f.offset).take (P.cellsOf f.type)) = ys[i]?) (i : Nat) (f : Field) (hf : fs[i]? = some f) {c : Value} (hc : cs[i]? = some c) {y : DataW H × List MemPlace} (hy : ys[i]? = some y) :
    DataW.trod enc P w base spare held n f.type [c] = some y := by
  obtain ⟨ho, hk⟩ := hone_of hone i f hf
  have := hg i f hf
  rw [ho, hk, hy] at this
  obtain ⟨hi, rfl⟩ := List.getElem?_eq_some_iff.1 hc
  rw [List.drop_eq_getElem_cons hi] at this
  exact this
theorem list_of {α : Type} {R : Nat → α → Prop} : ∀ (n : Nat), (∀ i, i < n → ∃ x, R i x) → ∃ l : List α, l.length = n ∧ ∀ i, (h : i < l.length) → R i l[i]
  | 0, _ => ⟨[], rfl, fun i h => by simp at h⟩
  | n + 1, h => by
    obtain ⟨l, hl, hr⟩ := list_of n fun i hi => h i (by omega)
    obtain ⟨x, hx⟩ := h n (by omega)
    refine ⟨l ++ [x], by simp [hl], fun i hi => ?_⟩
    rw [List.getElem_append]
    split
    · exact hr i _
    · simp only [List.length_append, List.length_cons, List.length_nil] at hi
      have : i = n := by omega
      subst this
      simpa using hx

theorem add_plain (b o i : Nat) : (⟨b, o, none⟩ : Addr).add i = ⟨b, o + i, none⟩ := by unfold Addr.add; split <;> simp_all
theorem plain_of_cell {a : Addr} {v : Value} (h : w.cell? a = some v) : ∃ b o, a = ⟨b, o, none⟩ := by
  obtain ⟨b, o, sp⟩ := a
  cases sp with
  | none => exact ⟨b, o, rfl⟩
  | some n =>
    exfalso
    simp only [World.cell?] at h
    split at h <;> simp at h

/-- A slice whose elements are of so many cells. -/
theorem read_rows {α : Type} {t e : TypeId} {C fuel : Nat} {v : Value} {x : DataW H × List MemPlace} {At : Nat → Nat → α → Prop} (ht : P.underlying t = some (.slice e)) (hC : P.cellsOf e = C) (hC0 : 0 < C) (hb : 8 ≤ P.bytesOf e)
    (h : DataW.trod enc P w base spare held fuel t [v] = some x) (hf : Fine P t x.1)
    (hel : ∀ (b o n : Nat) (cs : List Value) (y : DataW H × List MemPlace), cs.length = C → Cells w b o cs → DataW.trod enc P w base spare held n e cs = some y → Fine P e y.1 → ∃ s, At b o s) : ∃ l : List α, Rows' v C At l := by
  rcases open_slice ht h with ⟨h0, _⟩ | ⟨a, len, cap, m, n, D, Pl, hcs, hbs, hl, hm, hmm, hx, hi⟩
  · simp only [List.cons.injEq, and_true] at h0
    subst h0
    exact ⟨[], by simp, none, 0, rfl, Nat.le_refl _, by unfold maxLen; omega, .inl rfl⟩
  · simp only [List.cons.injEq, and_true] at hcs
    subst hcs
    subst hx
    obtain ⟨h1, h2⟩ := hf.slice ht
    simp only [List.length_map, List.length_range, reachBytes] at h1
    have hlm : len ≤ m := by rw [hmm]; split <;> omega
    have hlen : len ≤ 17592186044416 := by
      have : len * 8 ≤ (len + (m - len)) * P.bytesOf e := Nat.mul_le_mul (by omega) hb
      omega
    by_cases h0 : len = 0
    · subst h0
      exact ⟨[], by simp, some a, cap, rfl, Nat.zero_le _, hm, .inl rfl⟩
    · obtain ⟨b, o, rfl⟩ : ∃ b o, a = ⟨b, o, none⟩ := by
        obtain ⟨cs, hc, _⟩ := hi 0 (by omega)
        obtain ⟨_, hcl, hat⟩ := World.cells?_some hc
        have := hat 0 (by omega)
        rw [List.getElem?_eq_getElem (by omega), Go.Deep.add_add] at this
        have h00 : a.add (0 * P.cellsOf e + 0) = a := by simp [Addr.add]
        rw [h00] at this
        exact plain_of_cell this
      obtain ⟨l, hll, hlr⟩ := list_of (R := fun i s => At b (o + i * C) s) len fun i hil => by
        obtain ⟨cs, hc, htr⟩ := hi i (by omega)
        obtain ⟨_, hcl, hat⟩ := World.cells?_some hc
        rw [hC] at hcl hat
        refine hel b (o + i * C) n cs _ hcl (fun j hj => ?_) htr (h2 _ (by simp; exact ⟨i, hil, rfl⟩))
        have := hat j (by omega)
        rw [add_plain, add_plain, List.getElem?_eq_getElem hj] at this
        exact this
      refine ⟨l, by omega, some ⟨b, o, none⟩, cap, by rw [hll], by omega, hm, .inr ⟨b, o, rfl, hlr⟩⟩

theorem read_ints {t e : TypeId} {fuel : Nat} {v : Value} {x : DataW H × List MemPlace} (ht : P.underlying t = some (.slice e)) (he : P.underlying e = some (.int .i64)) (hC : P.cellsOf e = 1) (hb : 8 ≤ P.bytesOf e)
    (h : DataW.trod enc P w base spare held fuel t [v] = some x) (hf : Fine P t x.1) : ∃ xs, Ints w v xs := by
  obtain ⟨l, h1, a, cap, rfl, h2, h3, h4⟩ := read_rows (C := 1) (At := fun b o (n : Int) => (-9223372036854775808 ≤ n ∧ n ≤ 9223372036854775807) ∧ w.cell? ⟨b, o, none⟩ = some (.int .i64 n)) ht hC (by omega) hb h hf
    (fun b o n cs y hl hc ht' _ => by
      obtain ⟨k, rfl, _, hw⟩ := DataW.trod_int he ht'
      have := hc 0 (by simp)
      simp only [Nat.add_zero, List.getElem_cons_zero] at this
      exact ⟨k, by simpa [Lit.wf, IntKind.min, IntKind.max, IntKind.bits, IntKind.signed] using hw, this⟩)
  refine ⟨l, fun y hy => ?_, h1, a, cap, rfl, h2, h3, ?_⟩
  · obtain ⟨i, hi, rfl⟩ := List.mem_iff_getElem.1 hy
    rcases h4 with rfl | ⟨b, o, _, hx⟩
    · simp at hi
    · exact (hx i hi).1
  · rcases h4 with h4 | ⟨b, o, ha, hx⟩
    · exact .inl h4
    · refine .inr ⟨b, o, ha, fun i hi => ?_⟩
      have := (hx i (by simpa using hi)).2
      rw [Nat.mul_one] at this
      simpa using this
end

theorem cSym : Try.prog.cellsOf 53 = 4 := by kernel_rfl
theorem cPrd : Try.prog.cellsOf 48 = 6 := by kernel_rfl
theorem cInt : Try.prog.cellsOf 3 = 1 := by kernel_rfl
theorem cStr : Try.prog.cellsOf 9 = 1 := by kernel_rfl
theorem cBool : Try.prog.cellsOf 4 = 1 := by kernel_rfl
theorem cAssoc : Try.prog.cellsOf 51 = 1 := by kernel_rfl
theorem cInts : Try.prog.cellsOf 46 = 1 := by kernel_rfl
theorem bSym : 8 ≤ Try.prog.bytesOf 53 := Nat.le_of_ble_eq_true (by kernel_rfl)
theorem bPrd : 8 ≤ Try.prog.bytesOf 48 := Nat.le_of_ble_eq_true (by kernel_rfl)
theorem bInt : 8 ≤ Try.prog.bytesOf 3 := Nat.le_of_ble_eq_true (by kernel_rfl)

section
variable {H : Type} {enc : TypeId × Value → H} {w : World} {base : Nat} {spare : Nat → Bool} {held : Bool}
set_option maxRecDepth 100000 in
theorem read_sym {n b o : Nat} {cs : List Value} {y : DataW H × List MemPlace} (hl : cs.length = 4) (hc : Cells w b o cs) (h : DataW.trod enc Try.prog w base spare held n 53 cs = some y) (hf : Fine Try.prog 53 y.1) :
    ∃ s : Sym, SymAt w b o s ∧ s.name.size ≤ 140737488355328 ∧ s.type.size ≤ 140737488355328 := by
  match cs, hl with
  | [c0, c1, c2, c3], _ =>
    obtain ⟨ys, n', _, rfl, _, hyl, hg⟩ := DataW.trod_struct Try.underlying53 h
    have hone := one_of Try.underlying53 (by kernel_rfl)
    match ys, hyl with
    | [y0, y1, y2, y3], _ =>
      have g0 := field_at hone hg 0 _ rfl (c := c0) rfl (y := y0) rfl
      have g1 := field_at hone hg 1 _ rfl (c := c1) rfl (y := y1) rfl
      have g2 := field_at hone hg 2 _ rfl (c := c2) rfl (y := y2) rfl
      have g3 := field_at hone hg 3 _ rfl (c := c3) rfl (y := y3) rfl
      obtain ⟨s0, e0, f0, _⟩ := DataW.trod_string Try.underlying9 g0
      obtain ⟨s1, e1, f1, _⟩ := DataW.trod_string Try.underlying9 g1
      obtain ⟨i2, e2, f2, w2⟩ := DataW.trod_int Try.underlying3 g2
      obtain ⟨i3, e3, f3, w3⟩ := DataW.trod_int Try.underlying51 g3
      simp only [List.cons.injEq, and_true] at e0 e1 e2 e3
      subst e0 e1 e2 e3 f0 f1
      have q0 := (hf.field Try.underlying53 (j := 0) rfl rfl).string
      have q1 := (hf.field Try.underlying53 (j := 1) rfl rfl).string
      simp only [reachBytes, Array.length_toList] at q0 q1
      refine ⟨⟨s0, s1, i2, i3⟩, ⟨⟨?_, ?_⟩, hc⟩, ?_, ?_⟩
      · simpa [Lit.wf, IntKind.min, IntKind.max, IntKind.bits, IntKind.signed, i64] using w2
      · simpa [Lit.wf, IntKind.min, IntKind.max, IntKind.bits, IntKind.signed] using w3
      · show s0.data.size ≤ _
        omega
      · show s1.data.size ≤ _
        omega
set_option maxRecDepth 100000 in
theorem read_prd {n b o : Nat} {cs : List Value} {y : DataW H × List MemPlace} (hl : cs.length = 6) (hc : Cells w b o cs) (h : DataW.trod enc Try.prog w base spare held n 48 cs = some y) (hf : Fine Try.prog 48 y.1) :
    ∃ s : Prd, PrdAt w b o s ∧ s.action.size ≤ 140737488355328 := by
  match cs, hl with
  | [c0, c1, c2, c3, c4, c5], _ =>
    obtain ⟨ys, n', _, rfl, _, hyl, hg⟩ := DataW.trod_struct Try.underlying48 h
    have hone := one_of Try.underlying48 (by kernel_rfl)
    match ys, hyl with
    | [y0, y1, y2, y3, y4, y5], _ =>
      have g0 := field_at hone hg 0 _ rfl (c := c0) rfl (y := y0) rfl
      have g1 := field_at hone hg 1 _ rfl (c := c1) rfl (y := y1) rfl
      have g2 := field_at hone hg 2 _ rfl (c := c2) rfl (y := y2) rfl
      have g3 := field_at hone hg 3 _ rfl (c := c3) rfl (y := y3) rfl
      have g4 := field_at hone hg 4 _ rfl (c := c4) rfl (y := y4) rfl
      have g5 := field_at hone hg 5 _ rfl (c := c5) rfl (y := y5) rfl
      obtain ⟨i0, e0, f0, w0⟩ := DataW.trod_int Try.underlying3 g0
      obtain ⟨xs, hxs⟩ := read_ints Try.underlying46 Try.underlying3 cInt bInt g1 (hf.field Try.underlying48 (j := 1) rfl rfl)
      obtain ⟨i2, e2, f2, w2⟩ := DataW.trod_int Try.underlying3 g2
      obtain ⟨b3, e3, f3⟩ := DataW.trod_bool Try.underlying4 g3
      obtain ⟨s4, e4, f4, _⟩ := DataW.trod_string Try.underlying9 g4
      obtain ⟨i5, e5, f5, w5⟩ := DataW.trod_int Try.underlying3 g5
      simp only [List.cons.injEq, and_true] at e0 e2 e3 e4 e5
      subst e0 e2 e3 e4 e5 f4
      have q4 := (hf.field Try.underlying48 (j := 4) rfl rfl).string
      simp only [reachBytes, Array.length_toList] at q4
      refine ⟨⟨i0, xs, i2, b3, s4, i5⟩, ⟨⟨?_, ?_, ?_⟩, c1, hxs, hc⟩, ?_⟩
      · simpa [Lit.wf, IntKind.min, IntKind.max, IntKind.bits, IntKind.signed, i64] using w0
      · simpa [Lit.wf, IntKind.min, IntKind.max, IntKind.bits, IntKind.signed, i64] using w2
      · simpa [Lit.wf, IntKind.min, IntKind.max, IntKind.bits, IntKind.signed, i64] using w5
      · show s4.data.size ≤ _
        omega
set_option maxRecDepth 100000 in
/-- A grammar that comes in. -/
theorem read_gram {v : Value} {d : DataW H} {p : List MemPlace} {r : Reach} {b0 : Nat} (hv : Value.okWide Try.prog w r b0 25 v) (h : DataW.Trod enc Try.prog w base spare held 25 v d p) (hf : Fine Try.prog 25 d) :
    ∃ G : Gram, IsGram w v G ∧ Fits G := by
  obtain ⟨c0, c1, c2, y0, y1, y2, n, rfl, rfl, _, g0, g1, g2⟩ := open_agg3 Try.underlying25 (by kernel_rfl) (by kernel_rfl) hv h
  obtain ⟨i0, e0, f0, w0⟩ := DataW.trod_int Try.underlying3 g0
  simp only [List.cons.injEq, and_true] at e0
  subst e0
  obtain ⟨ls, hs⟩ := read_rows (At := fun b o (s : Sym) => SymAt w b o s ∧ s.name.size ≤ 140737488355328 ∧ s.type.size ≤ 140737488355328) Try.underlying22 cSym (by omega) bSym g1 (hf.field Try.underlying25 (j := 1) rfl rfl)
    (fun b o n cs y hl hc ht hf => read_sym hl hc ht hf)
  obtain ⟨lp, hp⟩ := read_rows (At := fun b o (s : Prd) => PrdAt w b o s ∧ s.action.size ≤ 140737488355328) Try.underlying23 cPrd (by omega) bPrd g2 (hf.field Try.underlying25 (j := 2) rfl rfl)
    (fun b o n cs y hl hc ht hf => read_prd hl hc ht hf)
  have m1 : ∀ s ∈ ls, s.name.size ≤ 140737488355328 ∧ s.type.size ≤ 140737488355328 := fun s hs' => by
    obtain ⟨i, hi, rfl⟩ := List.mem_iff_getElem.1 hs'
    obtain ⟨_, a, cap, _, _, _, hx⟩ := hs
    rcases hx with rfl | ⟨b, o, _, hx⟩
    · simp at hi
    · exact (hx i hi).2
  have m2 : ∀ s ∈ lp, s.action.size ≤ 140737488355328 := fun s hs' => by
    obtain ⟨i, hi, rfl⟩ := List.mem_iff_getElem.1 hs'
    obtain ⟨_, a, cap, _, _, _, hx⟩ := hp
    rcases hx with rfl | ⟨b, o, _, hx⟩
    · simp at hi
    · exact (hx i hi).2
  refine ⟨⟨i0, ls, lp⟩, ⟨?_, c1, c2, rfl, hs.mono fun _ _ _ h => h.1, hp.mono fun _ _ _ h => h.1⟩, ⟨fun s h => (m1 s h).1, fun s h => (m1 s h).2, m2⟩⟩
  simpa [Lit.wf, IntKind.min, IntKind.max, IntKind.bits, IntKind.signed, i64] using w0
end
end Go.Proofs.Ytgmkpncpcikecaa
