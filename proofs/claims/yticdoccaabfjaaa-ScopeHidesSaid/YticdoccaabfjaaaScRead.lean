/-
  What a call is handed, read as plain Lean: steps of a scope, with types as trees; texts.
-/
import Derived.Test.YticdoccaabfjaaaSc23
import Derived.ProofKit
import Derived.Deep.Slices
import Derived.SizedLaws
import Derived.Lib.SmallJoins
namespace Go.Proofs.Yticdoccaabfjaaa
open Go.ChangeShapes Go.WideShapes Go.ChangeAt Go.RowKit Go.Deep Go.Joins
set_option maxHeartbeats 400000

def Rows' {α : Type} (v : Value) (size : Nat) (at_ : Nat → Nat → α → Prop) (l : List α) : Prop :=
  l.length ≤ 17592186044416 ∧ ∃ a cap, v = .slice a l.length cap ∧ l.length ≤ cap ∧ cap ≤ maxLen ∧
    (l = [] ∨ ∃ b o, a = some ⟨b, o, none⟩ ∧ ∀ i, (h : i < l.length) → at_ b (o + i * size) l[i])

section
variable {H : Type} {enc : TypeId × Value → H} {P : Program} {w : World} {base : Nat} {spare : Nat → Bool} {held : Bool}
/-- All that a datum takes up is within reach. -/
def Fine (P : Program) (t : TypeId) (d : DataW H) : Prop := ∀ n ∈ d.weights P t, n ≤ reachBytes
theorem fine_each {ts : List TypeId} {ds : List (DataW H)} (h : (DataW.weightsEach P ts ds).all (· ≤ reachBytes) = true) {j : Nat} {t : TypeId} {d : DataW H} (ht : ts[j]? = some t) (hd : ds[j]? = some d) : Fine P t d :=
  fun n hn => by simpa using List.all_eq_true.1 h _ (DataW.weights_mem_each ht hd n hn)
theorem Fine.field {t : TypeId} {parts : List (DataW H)} {fs : Array Field} (h : Fine P t (.agg parts)) (hu : P.underlying t = some (.struct fs)) {j : Nat} {f : Field} {d : DataW H} (hf : fs[j]? = some f) (hd : parts[j]? = some d) : Fine P f.type d := fun n hn => by
  refine h n ?_
  simp only [DataW.weights, hu]
  exact DataW.weights_mem_each (by simp [hf]) hd n hn
theorem mem_all {e : TypeId} {d : DataW H} {n : Nat} (hn : n ∈ d.weights P e) : ∀ {l : List (DataW H)}, d ∈ l → n ∈ DataW.weightsAll P e l
  | [], h => by cases h
  | a :: r, h => by
    simp only [DataW.weightsAll, List.mem_append]
    rcases List.mem_cons.1 h with rfl | h
    · exact .inl hn
    · exact .inr (mem_all hn h)
theorem Fine.slice {t e : TypeId} {elems rest : List (DataW H)} (h : Fine P t (.slice elems rest)) (hu : P.underlying t = some (.slice e)) : (elems.length + rest.length) * P.bytesOf e ≤ reachBytes ∧ ∀ d ∈ elems, Fine P e d := by
  refine ⟨h _ (by simp [DataW.weights, hu]), fun d hd n hn => h n ?_⟩
  simp only [DataW.weights, hu, List.mem_cons, List.mem_append]
  exact .inr (.inl (mem_all hn hd))
theorem Fine.string {t : TypeId} {bytes : List UInt8} (h : Fine P t (.lit (.string bytes) : DataW H)) : bytes.length ≤ reachBytes := h _ (by simp [DataW.weights])

theorem one_of {t : TypeId} {fs : Array Field} (_ : P.underlying t = some (.struct fs)) (h : oneCellFields P fs = true) : oneCellFields P fs = true := h
theorem field_at {fs : Array Field} {cs : List Value} {ys : List (DataW H × List MemPlace)} {n : Nat} (hone : oneCellFields P fs = true)
    (hg : ∀ (i : Nat) (f : Field), fs[i]? = some f → DataW.trod enc P w base spare held n f.type ((cs.drop f.offset).take (P.cellsOf f.type)) = ys[i]?) (i : Nat) (f : Field) (hf : fs[i]? = some f) {c : Value} (hc : cs[i]? = some c) {y : DataW H × List MemPlace} (hy : ys[i]? = some y) :
    DataW.trod enc P w base spare held n f.type [c] = some y := by
  obtain ⟨ho, hk⟩ := hone_of hone i f hf
  have := hg i f hf
  rw [ho, hk, hy] at this
  obtain ⟨hi, rfl⟩ := List.getElem?_eq_some_iff.1 hc
  rw [List.drop_eq_getElem_cons hi] at this
  exact this
theorem list_of {α : Type} {R : Nat → α → Prop} : ∀ (n : Nat), (∀ i, i < n → ∃ x, R i x) → ∃ l : List α, l.length = n ∧ ∀ i, (h : i < l.length) → R i l[i]
  | 0, _ => ⟨[], rfl, fun i h => by simp at h⟩
  | n + 1, h => by
    obtain ⟨l, hl, hr⟩ := list_of n fun i hi => h i (by omega)
    obtain ⟨x, hx⟩ := h n (by omega)
    refine ⟨l ++ [x], by simp [hl], fun i hi => ?_⟩
    rw [List.getElem_append]
    split
    · exact hr i _
    · simp only [List.length_append, List.length_cons, List.length_nil] at hi
      have : i = n := by omega
      subst this
      simpa using hx

theorem add_plain (b o i : Nat) : (⟨b, o, none⟩ : Addr).add i = ⟨b, o + i, none⟩ := by unfold Addr.add; split <;> simp_all
theorem plain_of_cell {a : Addr} {v : Value} (h : w.cell? a = some v) : ∃ b o, a = ⟨b, o, none⟩ := by
  obtain ⟨b, o, sp⟩ := a
  cases sp with
  | none => exact ⟨b, o, rfl⟩
  | some n =>
    exfalso
    simp only [World.cell?] at h
    split at h <;> simp at h

/-- A slice whose elements are of so many cells. -/
theorem read_rowsM {α : Type} {t e : TypeId} {C fuel : Nat} {v : Value} {x : DataW H × List MemPlace} {At : Nat → Nat → α → Prop} (ht : P.underlying t = some (.slice e)) (hC : P.cellsOf e = C) (hC0 : 0 < C) (hb : 8 ≤ P.bytesOf e)
    (h : DataW.trod enc P w base spare held fuel t [v] = some x) (hf : Fine P t x.1)
    (hel : ∀ (b o n : Nat) (cs : List Value) (y : DataW H × List MemPlace), cs.length = C → Cells w b o cs → DataW.trod enc P w base spare held n e cs = some y → Fine P e y.1 → (∃ es rest, x.1 = .slice es rest ∧ y.1 ∈ es) → ∃ s, At b o s) : ∃ l : List α, Rows' v C At l ∧ l.length * P.bytesOf e ≤ reachBytes := by
  rcases open_slice ht h with ⟨h0, _⟩ | ⟨a, len, cap, m, n, D, Pl, hcs, hbs, hl, hm, hmm, hx, hi⟩
  · simp only [List.cons.injEq, and_true] at h0
    subst h0
    exact ⟨[], ⟨by simp, none, 0, rfl, Nat.le_refl _, by unfold maxLen; omega, .inl rfl⟩, by simp⟩
  · simp only [List.cons.injEq, and_true] at hcs
    subst hcs
    subst hx
    obtain ⟨h1, h2⟩ := hf.slice ht
    simp only [List.length_map, List.length_range, reachBytes] at h1
    have hlm : len ≤ m := by rw [hmm]; split <;> omega
    have hlen : len ≤ 17592186044416 := by
      have : len * 8 ≤ (len + (m - len)) * P.bytesOf e := Nat.mul_le_mul (by omega) hb
      omega
    by_cases h0 : len = 0
    · subst h0
      exact ⟨[], ⟨by simp, some a, cap, rfl, Nat.zero_le _, hm, .inl rfl⟩, by simp⟩
    · obtain ⟨b, o, rfl⟩ : ∃ b o, a = ⟨b, o, none⟩ := by
        obtain ⟨cs, hc, _⟩ := hi 0 (by omega)
        obtain ⟨_, hcl, hat⟩ := World.cells?_some hc
        have := hat 0 (by omega)
        rw [List.getElem?_eq_getElem (by omega), Go.Deep.add_add] at this
        have h00 : a.add (0 * P.cellsOf e + 0) = a := by simp [Addr.add]
        rw [h00] at this
        exact plain_of_cell this
      obtain ⟨l, hll, hlr⟩ := list_of (R := fun i s => At b (o + i * C) s) len fun i hil => by
        obtain ⟨cs, hc, htr⟩ := hi i (by omega)
        obtain ⟨_, hcl, hat⟩ := World.cells?_some hc
        rw [hC] at hcl hat
        refine hel b (o + i * C) n cs _ hcl (fun j hj => ?_) htr (h2 _ (by simp; exact ⟨i, hil, rfl⟩)) ⟨_, _, rfl, by simp; exact ⟨i, hil, rfl⟩⟩
        have := hat j (by omega)
        rw [add_plain, add_plain, List.getElem?_eq_getElem hj] at this
        exact this
      refine ⟨l, ⟨by omega, some ⟨b, o, none⟩, cap, by rw [hll], by omega, hm, .inr ⟨b, o, rfl, hlr⟩⟩, ?_⟩
      have : l.length * P.bytesOf e ≤ (len + (m - len)) * P.bytesOf e := Nat.mul_le_mul (by omega) (Nat.le_refl _)
      simp only [reachBytes]
      omega

end
theorem cTy : Try.prog.cellsOf 37 = 3 := by kernel_rfl
theorem cDo : Try.prog.cellsOf 49 = 5 := by kernel_rfl
theorem cStr : Try.prog.cellsOf 9 = 1 := by kernel_rfl
theorem bTy : Try.prog.bytesOf 37 = 48 := by kernel_rfl
theorem bDo : 8 ≤ Try.prog.bytesOf 49 := Nat.le_of_ble_eq_true (by kernel_rfl)
theorem bStr : 8 ≤ Try.prog.bytesOf 9 := Nat.le_of_ble_eq_true (by kernel_rfl)
section
variable {H : Type} {enc : TypeId × Value → H} {w : World} {base : Nat} {spare : Nat → Bool} {held : Bool}
theorem read_texts {t : TypeId} {fuel : Nat} {v : Value} {x : DataW H × List MemPlace} (ht : Try.prog.underlying t = some (.slice 9)) (h : DataW.trod enc Try.prog w base spare held fuel t [v] = some x) (hf : Fine Try.prog t x.1) : ∃ xs : List ByteArray, Texts w v xs ∧ xs.length ≤ 17592186044416 := by
  obtain ⟨l, ⟨h1, a, cap, rfl, h2, h3, h4⟩, _⟩ := read_rowsM (C := 1) (At := fun b o (s : ByteArray) => w.cell? ⟨b, o, none⟩ = some (.string s)) ht cStr (by omega) bStr h hf
    (fun b o n cs y hl hc ht' _ _ => by
      obtain ⟨s, e, _, _⟩ := DataW.trod_string Try.underlying9 ht'
      subst e
      exact ⟨s, hc 0 (by simp)⟩)
  refine ⟨l, ⟨a, cap, rfl, h2, h3, ?_⟩, h1⟩
  rcases h4 with h4 | ⟨b, o, ha, hx⟩
  · exact .inl h4
  · refine .inr ⟨b, o, ha, fun i hi => ?_⟩
    have := hx i (by simpa [strs] using hi)
    rw [Nat.mul_one] at this
    simpa [strs] using this
set_option maxRecDepth 100000 in
theorem read_ty : ∀ (N : Nat) {n b o : Nat} {cs : List Value} {y : DataW H × List MemPlace}, SizeOf.sizeOf y.1 ≤ N → cs.length = 3 → Cells w b o cs → DataW.trod enc Try.prog w base spare held n 37 cs = some y → Fine Try.prog 37 y.1 →
    ∃ (t : Ty) (tv : Value), IsTy w (fun g => g < w.heap.size) t tv ∧ cs = tyCells tv
  | N, n, b, o, [c0, c1, c2], y, hN, _, hc, h, hf => by
    obtain ⟨ys, n', _, rfl, _, hyl, hg⟩ := DataW.trod_struct Try.underlying37 h
    have hone := one_of Try.underlying37 (by kernel_rfl)
    match ys, hyl with
    | [y0, y1, y2], _ =>
      have g0 := field_at hone hg 0 _ rfl (c := c0) rfl (y := y0) rfl
      have g1 := field_at hone hg 1 _ rfl (c := c1) rfl (y := y1) rfl
      have g2 := field_at hone hg 2 _ rfl (c := c2) rfl (y := y2) rfl
      obtain ⟨i0, e0, f0, w0⟩ := DataW.trod_int Try.underlying34 g0
      obtain ⟨s1, e1, f1, _⟩ := DataW.trod_string Try.underlying9 g1
      simp only [List.cons.injEq, and_true] at e0 e1
      subst e0 e1
      obtain ⟨l, ⟨h1, a, cap, rfl, h2, h3, h4⟩, h5⟩ := read_rowsM (C := 3) (At := fun b o (s : Ty × Value) => IsTy w (fun g => g < w.heap.size) s.1 s.2 ∧ Cells w b o (tyCells s.2)) Try.underlying35 cTy (by omega) (by rw [bTy]; omega) g2 (hf.field Try.underlying37 (j := 2) rfl rfl)
        (fun b o n cs y hl hc ht' hf' hm => by
          obtain ⟨es, rest, hx, hy⟩ := hm
          have hsz : SizeOf.sizeOf y.1 < N := by
            have m1 := List.sizeOf_lt_of_mem hy
            refine Nat.lt_of_lt_of_le ?_ hN
            have m2 : SizeOf.sizeOf y2.1 = 1 + SizeOf.sizeOf es + SizeOf.sizeOf rest := by rw [hx]; simp
            simp only [List.map_cons, List.map_nil, DataW.agg.sizeOf_spec, List.cons.sizeOf_spec, List.nil.sizeOf_spec]
            omega
          obtain ⟨t, tv, q1, q2⟩ := read_ty (SizeOf.sizeOf y.1) (Nat.le_refl _) hl hc ht' hf'
          exact ⟨(t, tv), q1, by rw [← q2]; exact hc⟩)
      rw [bTy] at h5
      have hk : 0 ≤ i0 ∧ i0 < 256 := by
        have := w0
        simp [Lit.wf, IntKind.min, IntKind.max, IntKind.bits, IntKind.signed] at this
        omega
      have hreach : l.length * 48 ≤ 140737488351232 := by simpa [reachBytes] using h5
      refine ⟨.mk i0 s1 (l.map Prod.fst), .agg #[.int .u8 i0, .string s1, .slice a l.length cap], ?_, rfl⟩
      have hlm : (l.map Prod.fst).length = l.length := List.length_map _
      rw [← hlm]
      rcases h4 with rfl | ⟨b', o', rfl, hx⟩
      · exact .mk (b := 0) (o := 0) (fun _ => undef) hk (by simp) (Nat.zero_le _) h3 (.inl rfl) (fun i hi => by simp at hi) fun i hi => by simp at hi
      · by_cases h0 : l = []
        · subst h0
          exact .mk (b := 0) (o := 0) (fun _ => undef) hk (by simp) (Nat.zero_le _) h3 (.inl rfl) (fun i hi => by simp at hi) fun i hi => by simp at hi
        · have hb : b' < w.heap.size := by
            have hp : 0 < l.length := List.length_pos_iff.2 h0
            have := (hx 0 hp).2 0 (by simp [tyCells])
            exact World.block_lt_of_cell? w _ this
          refine .mk (b := b') (o := o') (fun i => (l[i]?.map Prod.snd).getD undef) hk (by rw [hlm]; exact hreach) (by rw [hlm]; exact h2) h3 (.inr ⟨rfl, hb⟩) (fun i hi => ?_) fun i hi => ?_
          · have hi' : i < l.length := by rw [← hlm]; exact hi
            simp only [List.getElem?_eq_getElem hi', Option.map_some, Option.getD_some]
            exact (hx i hi').2
          · have hi' : i < l.length := by rw [← hlm]; exact hi
            simp only [List.getElem?_eq_getElem hi', Option.map_some, Option.getD_some, List.getElem_map]
            exact (hx i hi').1
termination_by N => N
theorem cInt : Try.prog.cellsOf 3 = 1 := by kernel_rfl
set_option maxRecDepth 100000 in
theorem read_do {n b o : Nat} {cs : List Value} {y : DataW H × List MemPlace} (hl : cs.length = 5) (hc : Cells w b o cs) (h : DataW.trod enc Try.prog w base spare held n 49 cs = some y) (hf : Fine Try.prog 49 y.1) :
    ∃ d : DoV, IsDo w w.heap.size b o d := by
  match cs, hl with
  | [c0, c1, c2, c3, c4], _ =>
    obtain ⟨ys, n', _, rfl, _, hyl, hg⟩ := DataW.trod_struct Try.underlying49 h
    match ys, hyl with
    | [y0, y1, y2], _ =>
      have g0 : DataW.trod enc Try.prog w base spare held n' 3 [c0] = some y0 := by
        have := hg 0 _ rfl
        change DataW.trod enc Try.prog w base spare held n' 3 (List.take (Try.prog.cellsOf 3) [c0, c1, c2, c3, c4]) = some y0 at this
        rw [cInt] at this
        exact this
      have g1 : DataW.trod enc Try.prog w base spare held n' 9 [c1] = some y1 := by
        have := hg 1 _ rfl
        change DataW.trod enc Try.prog w base spare held n' 9 (List.take (Try.prog.cellsOf 9) [c1, c2, c3, c4]) = some y1 at this
        rw [cStr] at this
        exact this
      have g2 : DataW.trod enc Try.prog w base spare held n' 37 [c2, c3, c4] = some y2 := by
        have := hg 2 _ rfl
        change DataW.trod enc Try.prog w base spare held n' 37 (List.take (Try.prog.cellsOf 37) [c2, c3, c4]) = some y2 at this
        rw [cTy] at this
        exact this
      obtain ⟨i0, e0, f0, w0⟩ := DataW.trod_int Try.underlying3 g0
      obtain ⟨s1, e1, f1, _⟩ := DataW.trod_string Try.underlying9 g1
      simp only [List.cons.injEq, and_true] at e0 e1
      subst e0 e1
      have hct : Cells w b (o + 2) [c2, c3, c4] := fun i hi => by
        have := hc (2 + i) (by simp at hi ⊢; omega)
        rw [show o + (2 + i) = o + 2 + i by omega] at this
        rw [this]
        match i, hi with
        | 0, _ => rfl
        | 1, _ => rfl
        | 2, _ => rfl
      obtain ⟨t, tv, q1, q2⟩ := read_ty (SizeOf.sizeOf y2.1) (Nat.le_refl _) rfl hct g2 (hf.field Try.underlying49 (j := 2) rfl rfl)
      refine ⟨⟨i0, s1, t⟩, ?_, tv, q1, ?_⟩
      · simpa [Lit.wf, IntKind.min, IntKind.max, IntKind.bits, IntKind.signed] using w0
      · unfold tyCells at q2
        simp only [List.cons.injEq, and_true] at q2
        obtain ⟨rfl, rfl, rfl⟩ := q2
        exact hc
theorem read_dos {t : TypeId} {fuel : Nat} {v : Value} {x : DataW H × List MemPlace} (ht : Try.prog.underlying t = some (.slice 49)) (h : DataW.trod enc Try.prog w base spare held fuel t [v] = some x) (hf : Fine Try.prog t x.1) : ∃ l : List DoV, IsDos w w.heap.size v l := by
  obtain ⟨l, ⟨h1, a, cap, rfl, h2, h3, h4⟩, _⟩ := read_rowsM (C := 5) (At := fun b o (d : DoV) => IsDo w w.heap.size b o d) ht cDo (by omega) bDo h hf (fun b o n cs y hl hc ht' hf' _ => read_do hl hc ht' hf')
  exact ⟨l, h1, a, cap, rfl, h2, h3, h4⟩
end
end Go.Proofs.Yticdoccaabfjaaa
