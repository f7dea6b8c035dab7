/-
  Plain notions that the walks share: what a call may have turned (Fr), rows of cells that read as lists. They speak of no program.
-/
import Derived.Test.YtgmkpncpcikecaaRows
import Derived.WalkKit
import Derived.WalkSpells
import Derived.WalkLawsBesides
import Derived.Handy
import Derived.Deep.QuietTactic
import Derived.BigQuiet
import Derived.Lib.Hide
import Derived.RangeFuncBox
import Derived.Deep.AppendSrc
import Derived.Deep.DeepAppendRoom
import Derived.Deep.Draws
import Derived.WalkSmall
import Derived.Maps.AppendAt
namespace Go.Proofs.Ytgmkpncpcikecaa
open Go.RowKit

/-- Of what was there only the blocks of ch may have turned. -/
structure Fr (ch : Nat → Prop) (w w' : World) : Prop where
  os : w'.os = w.os
  tape : w'.tape = w.tape
  output : w'.output = w.output
  size : w.heap.size ≤ w'.heap.size
  block : ∀ k, k < w.heap.size → ¬ ch k → w'.heap[k]? = w.heap[k]?

/-- Nothing that was there has turned. -/
def nothing : Nat → Prop := fun _ => False
def only (b : Nat) : Nat → Prop := fun k => k = b
def from_ (B : Nat) : Nat → Prop := fun k => B ≤ k

variable {ch ch' : Nat → Prop} {a b c w w' : World} {B : Nat}

theorem Fr.refl (ch : Nat → Prop) (w : World) : Fr ch w w := ⟨rfl, rfl, rfl, Nat.le_refl _, fun _ _ _ => rfl⟩
theorem Fr.trans (h : Fr ch a b) (k : Fr ch b c) : Fr ch a c :=
  ⟨k.os.trans h.os, k.tape.trans h.tape, k.output.trans h.output, Nat.le_trans h.size k.size,
   fun i hi hc => (k.block i (Nat.lt_of_lt_of_le hi h.size) hc).trans (h.block i hi hc)⟩
theorem Fr.mono (h : Fr ch a b) (hc : ∀ k, k < a.heap.size → ch k → ch' k) : Fr ch' a b :=
  ⟨h.os, h.tape, h.output, h.size, fun k hk hn => h.block k hk (fun e => hn (hc k hk e))⟩
theorem Fr.wide (h : Fr nothing a b) : Fr ch a b := h.mono fun _ _ e => e.elim
theorem Fr.obj (h : Fr ch w w') {k : Nat} {o : Obj} (hk : w.heap[k]? = some o) (hc : ¬ ch k) : w'.heap[k]? = some o :=
  (h.block k (Array.getElem?_eq_some_iff.1 hk).1 hc).trans hk
theorem Fr.cell (h : Fr ch w w') {p : Addr} {v : Value} (hp : w.cell? p = some v) (hc : ¬ ch p.block) : w'.cell? p = some v :=
  (World.cell?_of_block (w := w) (h.block p.block (World.block_lt_of_cell? w p hp) hc)).trans hp
theorem Fr.frozen (h : Fr ch w w') {p : Addr} (hp : p.block < w.heap.size) (hc : ¬ ch p.block) : w'.frozen? p = w.frozen? p :=
  World.frozen?_of_block (w := w) (h.block p.block hp hc)
theorem Fr.of_below (h : Below B w w') : Fr (from_ B) w w' :=
  ⟨h.os, h.tape, h.output, h.size, fun k _ hn => h.block k (by unfold from_ at hn; omega)⟩
theorem Fr.below (h : Fr ch w w') (hB : B ≤ w.heap.size) (hc : ∀ k, ch k → B ≤ k) : Below B w w' :=
  ⟨h.os, h.tape, h.output, h.size, fun k hk => h.block k (by omega) (fun e => by have := hc k e; omega)⟩
theorem Fr.new (h : Below w.heap.size w w') : Fr nothing w w' :=
  ⟨h.os, h.tape, h.output, h.size, fun k hk _ => h.block k hk⟩
theorem Fr.below_new (h : Fr nothing w w') : Below w.heap.size w w' := h.below (Nat.le_refl _) fun _ e => e.elim
theorem Fr.grown {row : Option Nat} (h : w.grownBy w' row) : Fr (fun k => row = some k) w w' :=
  ⟨h.os, h.tape, h.output, h.size, fun k hk hn => h.block k hk (fun e => hn e.symm)⟩
theorem Fr.alloc (w : World) (o : Obj) : Fr ch w (w.alloc o) :=
  ⟨rfl, rfl, rfl, by simp, fun k hk _ => Below.heap_alloc _ _ _ hk⟩
theorem Fr.drew (w : World) : Fr ch w w.drew := ⟨rfl, rfl, rfl, Nat.le_refl _, fun _ _ _ => rfl⟩
theorem Fr.drewN (w : World) (n : Nat) : Fr ch w (w.drewN n) := ⟨rfl, rfl, rfl, Nat.le_refl _, fun _ _ _ => rfl⟩
theorem Fr.setCell (w : World) (p : Addr) (u : Value) : Fr (only p.block) w (w.setCell p u) :=
  ⟨rfl, rfl, rfl, by simp [World.setCell], fun k _ hn => Below.heap_setCell _ _ _ _ hn⟩
theorem Fr.setCell' (p : Addr) (u : Value) (h : ch p.block) : Fr ch w (w.setCell p u) :=
  (Fr.setCell w p u).mono fun k _ e => by have e' : k = p.block := e; subst e'; exact h

/-- The cells from offset o of block b on are vs. -/
def Cells (w : World) (b o : Nat) (vs : List Value) : Prop := ∀ i, (h : i < vs.length) → w.cell? ⟨b, o + i, none⟩ = some vs[i]
theorem Cells.fr {b o : Nat} {vs : List Value} (h : Cells w b o vs) (k : Fr ch w w') (hc : ¬ ch b) : Cells w' b o vs := fun i hi => k.cell (h i hi) hc

/-- A slice value that reads as numbers of type int. -/
def Ints (w : World) (v : Value) (xs : List Int) : Prop :=
  (∀ x ∈ xs, -9223372036854775808 ≤ x ∧ x ≤ 9223372036854775807) ∧ xs.length ≤ 17592186044416 ∧
  ∃ a cap, v = .slice a xs.length cap ∧ xs.length ≤ cap ∧ cap ≤ maxLen ∧
    (xs = [] ∨ ∃ b o, a = some ⟨b, o, none⟩ ∧ Cells w b o (xs.map (Value.int .i64)))
theorem Ints.fr {v : Value} {xs : List Int} (h : Ints w v xs) (k : Fr nothing w w') : Ints w' v xs := by
  obtain ⟨h0, h1, a, cap, hv, hc, hm, hx⟩ := h
  refine ⟨h0, h1, a, cap, hv, hc, hm, ?_⟩
  rcases hx with hx | ⟨b, o, ha, hx⟩
  · exact .inl hx
  · exact .inr ⟨b, o, ha, hx.fr k (fun e => e)⟩
theorem Ints.nil (w : World) : Ints w (.slice none 0 0) [] := ⟨by simp, by simp, none, 0, rfl, Nat.le_refl _, by unfold maxLen; omega, .inl rfl⟩
theorem Ints.getD {xs : List Int} (h : ∀ x ∈ xs, -9223372036854775808 ≤ x ∧ x ≤ 9223372036854775807) (i : Nat) : -9223372036854775808 ≤ xs[i]?.getD 0 ∧ xs[i]?.getD 0 ≤ 9223372036854775807 := by
  rcases Nat.lt_or_ge i xs.length with hi | hi
  · rw [List.getElem?_eq_getElem hi]; exact h _ (List.getElem_mem hi)
  · rw [List.getElem?_eq_none hi]; decide

theorem own_fr {B' : Nat} {e : TypeId} {size : Nat} {v : Value} {n : Nat} {xs : List Value} (h : w.ownsRow B' e size v n xs) (k : Fr ch w w') (hc : ∀ g, v.ownBlock = some g → ¬ ch g) : w'.ownsRow B' e size v n xs := by
  refine ⟨h.1, ?_⟩
  rcases h.2 with hn | ⟨g, cap, cur, rfl, hb, hg, rest⟩
  · exact .inl hn
  · exact .inr ⟨g, cap, cur, rfl, hb, k.obj hg (hc g rfl), rest⟩
theorem own_below {B' : Nat} {e : TypeId} {size : Nat} {v : Value} {n : Nat} {xs : List Value} (h : w.ownsRow B' e size v n xs) (k : Below w.heap.size w w') : w'.ownsRow B' e size v n xs := own_fr h (Fr.new k) fun _ _ e => e
theorem own_as_cells {B' : Nat} {e : TypeId} {v : Value} {n : Nat} {xs : List Value} (h : w.ownsRow B' e 1 v n xs) :
    ∃ a cap, v = .slice a n cap ∧ n ≤ cap ∧ cap ≤ maxLen ∧ (xs = [] ∨ ∃ g, a = some ⟨g, 0, none⟩ ∧ B' ≤ g ∧ Cells w g 0 xs) := by
  obtain ⟨h1, h2⟩ := h
  rcases h2 with ⟨rfl, rfl⟩ | ⟨g, cap, cur, rfl, hb, hg, r1, r2, r3, r4⟩
  · exact ⟨none, 0, rfl, Nat.le_refl _, by unfold maxLen; omega, .inl (List.eq_nil_of_length_eq_zero (by simpa using h1))⟩
  · refine ⟨_, cap, rfl, r1, r2, .inr ⟨g, rfl, hb, fun i hi => ?_⟩⟩
    have e1 : xs[i]? = cur.toList[i]? := by rw [← r4, List.getElem?_take, if_pos (by omega)]
    simp only [World.cell?, hg, Nat.zero_add]
    rw [List.getElem?_eq_getElem hi] at e1
    simpa using e1.symm
theorem boxed_fr {b : Nat} {t : TypeId} {v : Value} (h : Boxed w b t v) (k : Fr ch w w') (hc : ¬ ch b) : Boxed w' b t v := k.obj h hc
theorem boxed_below {b : Nat} {t : TypeId} {v : Value} (h : Boxed w b t v) (k : Below w.heap.size w w') : Boxed w' b t v := boxed_fr h (Fr.new k) fun e => e

/-- Two strings are one just if their bytes are. -/
theorem str_eq (s t : ByteArray) : (s.toList == t.toList) = decide (s = t) := by
  rw [ByteArray.toList_eq, ByteArray.toList_eq]
  by_cases e : s = t
  · simp [e]
  · have : ¬ s.data = t.data := fun h => e (by cases s; cases t; simpa using h)
    simp [e, this]

section
variable {P : Program} (w : World)
theorem run_append_nilsrc (t ty e : TypeId) (i : TypeInfo) (ht : P.underlying t = some (.slice e)) (hi : P.info? e = some i) (A : Option Addr) (n cap c : Nat) (h : n ≤ cap) :
    (Builtin.append_ #[t, t] ty #[.slice A n cap, .slice none 0 c]).run P w = .ok (.slice A n cap) w := by
  cases A with
  | none => simp [Builtin.append_, run_underlying ht, sizeOf, typeInfo, hi, Builtin.lenOf, Builtin.firstCells, h]
  | some a => simp [Builtin.append_, run_underlying ht, sizeOf, typeInfo, hi, Builtin.lenOf, Builtin.firstCells, h, storeCells]
end

section
variable {P : Program} {w : World}
/-- 'append(v, src...)' where v is the call's own row and src whatever slice reads as cells, a nil one too. -/
theorem wpList_append_any {ops : Array Oper} {rest : List Oper} {o : Oper} {a : Act} {Q : Exit → Act → World → Prop} (hgd : o.guard = none) (s x : Operand) (t : TypeId)
    (ho : o.op = .call { callee := .builtin .append, args := #[s, x], argTypes := #[t, t] })
    (base : Nat) (e : TypeId) (i : TypeInfo) (z : Value) (size bytes : Nat) (ht : P.underlying t = some (.slice e)) (hi : P.info? e = some i) (hz : i.zero = some z)
    (hsize : i.size = size) (hby : i.bytes = bytes) (hzs : z.cells.size = size) (hsz : 0 < size)
    (v : Value) (n : Nat) (xs : List Value) (hs : a.eval s = v) (hown : w.ownsRow base e size v n xs)
    (A : Option Addr) (m c : Nat) (news : List Value) (hx : a.eval x = .slice A m c) (hl : news.length = m * size)
    (hnews : (A = none ∧ m = 0) ∨ ∃ ad, A = some ad ∧ ∀ j u, news[j]? = some u → w.cell? (ad.add j) = some u) (h1 : ∀ u ∈ news, u.oneCell' = true)
    (h63 : n + m ≤ maxLen) (hbytes : (n + m) * bytes ≤ 140737488355328) (hbase : base ≤ w.heap.size)
    (h : ∀ v' w', w'.ownsRow base e size v' (n + m) (xs ++ news) → w.grownBy w' v.ownBlock → wpList P ops Q rest (a.put o.dst v') w') : wpList P ops Q (o :: rest) a w := by
  rcases hnews with ⟨rfl, rfl⟩ | ⟨ad, rfl, hn⟩
  · refine wpList_plain hgd fun K hK => ?_
    have hn0 : news = [] := List.eq_nil_of_length_eq_zero (by simpa using hl)
    subst hn0
    have hv : ∃ A' cap, v = .slice A' n cap ∧ n ≤ cap := by
      rcases hown.2 with ⟨rfl, rfl⟩ | ⟨g, cap, cur, rfl, _, _, r, _⟩
      · exact ⟨none, 0, rfl, Nat.le_refl _⟩
      · exact ⟨_, _, rfl, r⟩
    obtain ⟨A', cap, rfl, hcap⟩ := hv
    have hr := run_append_nilsrc (P := P) w t o.type e i ht hi A' n cap c hcap
    unfold Oper.wp execOp
    simp only [ho, resolve, invoke, builtin, Sem.run_bind, Sem.run_pure, Result.andThen_ok, List.map_toArray, List.map_cons, List.map_nil, hs, hx, hr]
    exact hK _ _ (h _ _ (by simpa using hown) ⟨rfl, rfl, rfl, Nat.le_refl _, fun _ _ _ => rfl⟩)
  · exact wpList_append_own w hgd s x t ho base e i z size bytes ht hi hz hsize hby hzs hsz v n xs hs hown ad m c news hx hl hn h1 h63 hbytes hbase fun v' w' h2 h3 _ => h v' w' h2 h3
/-- The same where the row has room: it stays where it is. -/
theorem wpList_append_room {ops : Array Oper} {rest : List Oper} {o : Oper} {a : Act} {Q : Exit → Act → World → Prop} (hgd : o.guard = none) (s x : Operand) (t : TypeId)
    (ho : o.op = .call { callee := .builtin .append, args := #[s, x], argTypes := #[t, t] })
    (base : Nat) (e : TypeId) (i : TypeInfo) (size : Nat) (ht : P.underlying t = some (.slice e)) (hi : P.info? e = some i) (hsize : i.size = size)
    (g n cap : Nat) (xs : List Value) (hs : a.eval s = .slice (some ⟨g, 0, none⟩) n cap) (hown : w.ownsRow base e size (.slice (some ⟨g, 0, none⟩) n cap) n xs)
    (A : Option Addr) (m c : Nat) (news : List Value) (hx : a.eval x = .slice A m c) (hl : news.length = m * size)
    (hnews : (A = none ∧ m = 0) ∨ ∃ ad, A = some ad ∧ ∀ j u, news[j]? = some u → w.cell? (ad.add j) = some u) (h1 : ∀ u ∈ news, u.oneCell' = true) (hroom : n + m ≤ cap)
    (h : ∀ w', w'.ownsRow base e size (.slice (some ⟨g, 0, none⟩) (n + m) cap) (n + m) (xs ++ news) → w.grownBy w' (some g) → wpList P ops Q rest (a.put o.dst (.slice (some ⟨g, 0, none⟩) (n + m) cap)) w') : wpList P ops Q (o :: rest) a w := by
  rcases hnews with ⟨rfl, rfl⟩ | ⟨ad, rfl, hn⟩
  · refine wpList_plain hgd fun K hK => ?_
    have hn0 : news = [] := List.eq_nil_of_length_eq_zero (by simpa using hl)
    subst hn0
    have hr := run_append_nilsrc (P := P) w t o.type e i ht hi (some ⟨g, 0, none⟩) n cap c (by omega)
    unfold Oper.wp execOp
    simp only [ho, resolve, invoke, builtin, Sem.run_bind, Sem.run_pure, Result.andThen_ok, List.map_toArray, List.map_cons, List.map_nil, hs, hx, hr]
    exact hK _ _ (h _ (by simpa using hown) ⟨rfl, rfl, rfl, Nat.le_refl _, fun _ _ _ => rfl⟩)
  · exact wpList_append_own_spare w hgd s x t ho base e i size ht hi hsize g n cap xs hs hown ad m c news hx hl hn h1 hroom h
theorem cells_add {b o : Nat} {vs : List Value} (h : Cells w b o vs) : ∀ j u, vs[j]? = some u → w.cell? ((⟨b, o, none⟩ : Addr).add j) = some u := by
  intro j u hu
  obtain ⟨hj, rfl⟩ := List.getElem?_eq_some_iff.1 hu
  have := h j hj
  unfold Addr.add
  split
  · subst j; simpa using this
  · exact this
end


end Go.Proofs.Ytgmkpncpcikecaa
