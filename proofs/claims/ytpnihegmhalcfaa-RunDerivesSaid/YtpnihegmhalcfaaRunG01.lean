/-
  Plain notions that the walks share: what a call may have turned (Fr), rows of cells that read as lists. They speak of no program.
  Grammars: what they are in plain Lean, and how they lie in memory.
  A region that draws its order, whose callees may lay blocks of their own and turn nothing of what was there: walked once, in the order of the text. Over the kit's theorem for any class of worlds (Derived/Deep/Quiet.lean).
  Maps whose keys are texts, numbers or bools, as lists of their entries: look-up and store, whatever the elements are.
  A region that draws its order, walked with its reads taken first: behind operation j the facts F j are to be shown anew; a read asks for facts R that follow from F j for those j alone that may come up while it is still to come (T). So a region's last stores may turn what it has read.
  The statements' own helpers on lists of numbers: SameInts, Pick, mark, LentInts, KeptInts.
  A region that draws its order, by an invariant: one obligation for each operation (whenever those that it waits for have come up), however many orders there are.
-/
import Derived.Test.YtpnihegmhalcfaaRows
import Derived.WalkKit
import Derived.WalkSpells
import Derived.WalkLawsBesides
import Derived.Handy
import Derived.Deep.QuietTactic
import Derived.BigQuiet
import Derived.Lib.Hide
import Derived.RangeFuncBox
import Derived.Deep.AppendSrc
import Derived.Deep.DeepAppendRoom
import Derived.Deep.Draws
import Derived.WalkSmall
import Derived.Maps.AppendAt
import Derived.Maps.OwnSet
import Derived.Maps.OwnOps
import Derived.Deep.RegionHeld
namespace Go.Proofs.Ytpnihegmhalcfaa
open Go.RowKit

/-- Of what was there only the blocks of ch may have turned. -/
structure Fr (ch : Nat → Prop) (w w' : World) : Prop where
  os : w'.os = w.os
  tape : w'.tape = w.tape
  output : w'.output = w.output
  size : w.heap.size ≤ w'.heap.size
  block : ∀ k, k < w.heap.size → ¬ ch k → w'.heap[k]? = w.heap[k]?

/-- Nothing that was there has turned. -/
def nothing : Nat → Prop := fun _ => False
def only (b : Nat) : Nat → Prop := fun k => k = b
def from_ (B : Nat) : Nat → Prop := fun k => B ≤ k

variable {ch ch' : Nat → Prop} {a b c w w' : World} {B : Nat}

theorem Fr.refl (ch : Nat → Prop) (w : World) : Fr ch w w := ⟨rfl, rfl, rfl, Nat.le_refl _, fun _ _ _ => rfl⟩
theorem Fr.trans (h : Fr ch a b) (k : Fr ch b c) : Fr ch a c :=
  ⟨k.os.trans h.os, k.tape.trans h.tape, k.output.trans h.output, Nat.le_trans h.size k.size,
   fun i hi hc => (k.block i (Nat.lt_of_lt_of_le hi h.size) hc).trans (h.block i hi hc)⟩
theorem Fr.mono (h : Fr ch a b) (hc : ∀ k, k < a.heap.size → ch k → ch' k) : Fr ch' a b :=
  ⟨h.os, h.tape, h.output, h.size, fun k hk hn => h.block k hk (fun e => hn (hc k hk e))⟩
theorem Fr.wide (h : Fr nothing a b) : Fr ch a b := h.mono fun _ _ e => e.elim
theorem Fr.obj (h : Fr ch w w') {k : Nat} {o : Obj} (hk : w.heap[k]? = some o) (hc : ¬ ch k) : w'.heap[k]? = some o :=
  (h.block k (Array.getElem?_eq_some_iff.1 hk).1 hc).trans hk
theorem Fr.cell (h : Fr ch w w') {p : Addr} {v : Value} (hp : w.cell? p = some v) (hc : ¬ ch p.block) : w'.cell? p = some v :=
  (World.cell?_of_block (w := w) (h.block p.block (World.block_lt_of_cell? w p hp) hc)).trans hp
theorem Fr.frozen (h : Fr ch w w') {p : Addr} (hp : p.block < w.heap.size) (hc : ¬ ch p.block) : w'.frozen? p = w.frozen? p :=
  World.frozen?_of_block (w := w) (h.block p.block hp hc)
theorem Fr.of_below (h : Below B w w') : Fr (from_ B) w w' :=
  ⟨h.os, h.tape, h.output, h.size, fun k _ hn => h.block k (by unfold from_ at hn; omega)⟩
theorem Fr.below (h : Fr ch w w') (hB : B ≤ w.heap.size) (hc : ∀ k, ch k → B ≤ k) : Below B w w' :=
  ⟨h.os, h.tape, h.output, h.size, fun k hk => h.block k (by omega) (fun e => by have := hc k e; omega)⟩
theorem Fr.new (h : Below w.heap.size w w') : Fr nothing w w' :=
  ⟨h.os, h.tape, h.output, h.size, fun k hk _ => h.block k hk⟩
theorem Fr.below_new (h : Fr nothing w w') : Below w.heap.size w w' := h.below (Nat.le_refl _) fun _ e => e.elim
theorem Fr.grown {row : Option Nat} (h : w.grownBy w' row) : Fr (fun k => row = some k) w w' :=
  ⟨h.os, h.tape, h.output, h.size, fun k hk hn => h.block k hk (fun e => hn e.symm)⟩
theorem Fr.alloc (w : World) (o : Obj) : Fr ch w (w.alloc o) :=
  ⟨rfl, rfl, rfl, by simp, fun k hk _ => Below.heap_alloc _ _ _ hk⟩
theorem Fr.drew (w : World) : Fr ch w w.drew := ⟨rfl, rfl, rfl, Nat.le_refl _, fun _ _ _ => rfl⟩
theorem Fr.drewN (w : World) (n : Nat) : Fr ch w (w.drewN n) := ⟨rfl, rfl, rfl, Nat.le_refl _, fun _ _ _ => rfl⟩
theorem Fr.setCell (w : World) (p : Addr) (u : Value) : Fr (only p.block) w (w.setCell p u) :=
  ⟨rfl, rfl, rfl, by simp [World.setCell], fun k _ hn => Below.heap_setCell _ _ _ _ hn⟩
theorem Fr.setCell' (p : Addr) (u : Value) (h : ch p.block) : Fr ch w (w.setCell p u) :=
  (Fr.setCell w p u).mono fun k _ e => by have e' : k = p.block := e; subst e'; exact h

/-- The cells from offset o of block b on are vs. -/
def Cells (w : World) (b o : Nat) (vs : List Value) : Prop := ∀ i, (h : i < vs.length) → w.cell? ⟨b, o + i, none⟩ = some vs[i]
theorem Cells.fr {b o : Nat} {vs : List Value} (h : Cells w b o vs) (k : Fr ch w w') (hc : ¬ ch b) : Cells w' b o vs := fun i hi => k.cell (h i hi) hc

/-- A slice value that reads as numbers of type int. -/
def Ints (w : World) (v : Value) (xs : List Int) : Prop :=
  (∀ x ∈ xs, -9223372036854775808 ≤ x ∧ x ≤ 9223372036854775807) ∧ xs.length ≤ 17592186044416 ∧
  ∃ a cap, v = .slice a xs.length cap ∧ xs.length ≤ cap ∧ cap ≤ maxLen ∧
    (xs = [] ∨ ∃ b o, a = some ⟨b, o, none⟩ ∧ Cells w b o (xs.map (Value.int .i64)))
theorem Ints.fr {v : Value} {xs : List Int} (h : Ints w v xs) (k : Fr nothing w w') : Ints w' v xs := by
  obtain ⟨h0, h1, a, cap, hv, hc, hm, hx⟩ := h
  refine ⟨h0, h1, a, cap, hv, hc, hm, ?_⟩
  rcases hx with hx | ⟨b, o, ha, hx⟩
  · exact .inl hx
  · exact .inr ⟨b, o, ha, hx.fr k (fun e => e)⟩
theorem Ints.nil (w : World) : Ints w (.slice none 0 0) [] := ⟨by simp, by simp, none, 0, rfl, Nat.le_refl _, by unfold maxLen; omega, .inl rfl⟩
theorem Ints.getD {xs : List Int} (h : ∀ x ∈ xs, -9223372036854775808 ≤ x ∧ x ≤ 9223372036854775807) (i : Nat) : -9223372036854775808 ≤ xs[i]?.getD 0 ∧ xs[i]?.getD 0 ≤ 9223372036854775807 := by
  rcases Nat.lt_or_ge i xs.length with hi | hi
  · rw [List.getElem?_eq_getElem hi]; exact h _ (List.getElem_mem hi)
  · rw [List.getElem?_eq_none hi]; decide

theorem own_fr {B' : Nat} {e : TypeId} {size : Nat} {v : Value} {n : Nat} {xs : List Value} (h : w.ownsRow B' e size v n xs) (k : Fr ch w w') (hc : ∀ g, v.ownBlock = some g → ¬ ch g) : w'.ownsRow B' e size v n xs := by
  refine ⟨h.1, ?_⟩
  rcases h.2 with hn | ⟨g, cap, cur, rfl, hb, hg, rest⟩
  · exact .inl hn
  · exact .inr ⟨g, cap, cur, rfl, hb, k.obj hg (hc g rfl), rest⟩
theorem own_below {B' : Nat} {e : TypeId} {size : Nat} {v : Value} {n : Nat} {xs : List Value} (h : w.ownsRow B' e size v n xs) (k : Below w.heap.size w w') : w'.ownsRow B' e size v n xs := own_fr h (Fr.new k) fun _ _ e => e
theorem own_as_cells {B' : Nat} {e : TypeId} {v : Value} {n : Nat} {xs : List Value} (h : w.ownsRow B' e 1 v n xs) :
    ∃ a cap, v = .slice a n cap ∧ n ≤ cap ∧ cap ≤ maxLen ∧ (xs = [] ∨ ∃ g, a = some ⟨g, 0, none⟩ ∧ B' ≤ g ∧ Cells w g 0 xs) := by
  obtain ⟨h1, h2⟩ := h
  rcases h2 with ⟨rfl, rfl⟩ | ⟨g, cap, cur, rfl, hb, hg, r1, r2, r3, r4⟩
  · exact ⟨none, 0, rfl, Nat.le_refl _, by unfold maxLen; omega, .inl (List.eq_nil_of_length_eq_zero (by simpa using h1))⟩
  · refine ⟨_, cap, rfl, r1, r2, .inr ⟨g, rfl, hb, fun i hi => ?_⟩⟩
    have e1 : xs[i]? = cur.toList[i]? := by rw [← r4, List.getElem?_take, if_pos (by omega)]
    simp only [World.cell?, hg, Nat.zero_add]
    rw [List.getElem?_eq_getElem hi] at e1
    simpa using e1.symm
theorem boxed_fr {b : Nat} {t : TypeId} {v : Value} (h : Boxed w b t v) (k : Fr ch w w') (hc : ¬ ch b) : Boxed w' b t v := k.obj h hc
theorem boxed_below {b : Nat} {t : TypeId} {v : Value} (h : Boxed w b t v) (k : Below w.heap.size w w') : Boxed w' b t v := boxed_fr h (Fr.new k) fun e => e

/-- Two strings are one just if their bytes are. -/
theorem str_eq (s t : ByteArray) : (s.toList == t.toList) = decide (s = t) := by
  rw [ByteArray.toList_eq, ByteArray.toList_eq]
  by_cases e : s = t
  · simp [e]
  · have : ¬ s.data = t.data := fun h => e (by cases s; cases t; simpa using h)
    simp [e, this]

section
variable {P : Program} (w : World)
theorem run_append_nilsrc (t ty e : TypeId) (i : TypeInfo) (ht : P.underlying t = some (.slice e)) (hi : P.info? e = some i) (A : Option Addr) (n cap c : Nat) (h : n ≤ cap) :
    (Builtin.append_ #[t, t] ty #[.slice A n cap, .slice none 0 c]).run P w = .ok (.slice A n cap) w := by
  cases A with
  | none => simp [Builtin.append_, run_underlying ht, sizeOf, typeInfo, hi, Builtin.lenOf, Builtin.firstCells, h]
  | some a => simp [Builtin.append_, run_underlying ht, sizeOf, typeInfo, hi, Builtin.lenOf, Builtin.firstCells, h, storeCells]
end

section
variable {P : Program} {w : World}
/-- 'append(v, src...)' where v is the call's own row and src whatever slice reads as cells, a nil one too. -/
theorem wpList_append_any {ops : Array Oper} {rest : List Oper} {o : Oper} {a : Act} {Q : Exit → Act → World → Prop} (hgd : o.guard = none) (s x : Operand) (t : TypeId)
    (ho : o.op = .call { callee := .builtin .append, args := #[s, x], argTypes := #[t, t] })
    (base : Nat) (e : TypeId) (i : TypeInfo) (z : Value) (size bytes : Nat) (ht : P.underlying t = some (.slice e)) (hi : P.info? e = some i) (hz : i.zero = some z)
    (hsize : i.size = size) (hby : i.bytes = bytes) (hzs : z.cells.size = size) (hsz : 0 < size)
    (v : Value) (n : Nat) (xs : List Value) (hs : a.eval s = v) (hown : w.ownsRow base e size v n xs)
    (A : Option Addr) (m c : Nat) (news : List Value) (hx : a.eval x = .slice A m c) (hl : news.length = m * size)
    (hnews : (A = none ∧ m = 0) ∨ ∃ ad, A = some ad ∧ ∀ j u, news[j]? = some u → w.cell? (ad.add j) = some u) (h1 : ∀ u ∈ news, u.oneCell' = true)
    (h63 : n + m ≤ maxLen) (hbytes : (n + m) * bytes ≤ 140737488355328) (hbase : base ≤ w.heap.size)
    (h : ∀ v' w', w'.ownsRow base e size v' (n + m) (xs ++ news) → w.grownBy w' v.ownBlock → wpList P ops Q rest (a.put o.dst v') w') : wpList P ops Q (o :: rest) a w := by
  rcases hnews with ⟨rfl, rfl⟩ | ⟨ad, rfl, hn⟩
  · refine wpList_plain hgd fun K hK => ?_
    have hn0 : news = [] := List.eq_nil_of_length_eq_zero (by simpa using hl)
    subst hn0
    have hv : ∃ A' cap, v = .slice A' n cap ∧ n ≤ cap := by
      rcases hown.2 with ⟨rfl, rfl⟩ | ⟨g, cap, cur, rfl, _, _, r, _⟩
      · exact ⟨none, 0, rfl, Nat.le_refl _⟩
      · exact ⟨_, _, rfl, r⟩
    obtain ⟨A', cap, rfl, hcap⟩ := hv
    have hr := run_append_nilsrc (P := P) w t o.type e i ht hi A' n cap c hcap
    unfold Oper.wp execOp
    simp only [ho, resolve, invoke, builtin, Sem.run_bind, Sem.run_pure, Result.andThen_ok, List.map_toArray, List.map_cons, List.map_nil, hs, hx, hr]
    exact hK _ _ (h _ _ (by simpa using hown) ⟨rfl, rfl, rfl, Nat.le_refl _, fun _ _ _ => rfl⟩)
  · exact wpList_append_own w hgd s x t ho base e i z size bytes ht hi hz hsize hby hzs hsz v n xs hs hown ad m c news hx hl hn h1 h63 hbytes hbase fun v' w' h2 h3 _ => h v' w' h2 h3
/-- The same where the row has room: it stays where it is. -/
theorem wpList_append_room {ops : Array Oper} {rest : List Oper} {o : Oper} {a : Act} {Q : Exit → Act → World → Prop} (hgd : o.guard = none) (s x : Operand) (t : TypeId)
    (ho : o.op = .call { callee := .builtin .append, args := #[s, x], argTypes := #[t, t] })
    (base : Nat) (e : TypeId) (i : TypeInfo) (size : Nat) (ht : P.underlying t = some (.slice e)) (hi : P.info? e = some i) (hsize : i.size = size)
    (g n cap : Nat) (xs : List Value) (hs : a.eval s = .slice (some ⟨g, 0, none⟩) n cap) (hown : w.ownsRow base e size (.slice (some ⟨g, 0, none⟩) n cap) n xs)
    (A : Option Addr) (m c : Nat) (news : List Value) (hx : a.eval x = .slice A m c) (hl : news.length = m * size)
    (hnews : (A = none ∧ m = 0) ∨ ∃ ad, A = some ad ∧ ∀ j u, news[j]? = some u → w.cell? (ad.add j) = some u) (h1 : ∀ u ∈ news, u.oneCell' = true) (hroom : n + m ≤ cap)
    (h : ∀ w', w'.ownsRow base e size (.slice (some ⟨g, 0, none⟩) (n + m) cap) (n + m) (xs ++ news) → w.grownBy w' (some g) → wpList P ops Q rest (a.put o.dst (.slice (some ⟨g, 0, none⟩) (n + m) cap)) w') : wpList P ops Q (o :: rest) a w := by
  rcases hnews with ⟨rfl, rfl⟩ | ⟨ad, rfl, hn⟩
  · refine wpList_plain hgd fun K hK => ?_
    have hn0 : news = [] := List.eq_nil_of_length_eq_zero (by simpa using hl)
    subst hn0
    have hr := run_append_nilsrc (P := P) w t o.type e i ht hi (some ⟨g, 0, none⟩) n cap c (by omega)
    unfold Oper.wp execOp
    simp only [ho, resolve, invoke, builtin, Sem.run_bind, Sem.run_pure, Result.andThen_ok, List.map_toArray, List.map_cons, List.map_nil, hs, hx, hr]
    exact hK _ _ (h _ (by simpa using hown) ⟨rfl, rfl, rfl, Nat.le_refl _, fun _ _ _ => rfl⟩)
  · exact wpList_append_own_spare w hgd s x t ho base e i size ht hi hsize g n cap xs hs hown ad m c news hx hl hn h1 hroom h
theorem cells_add {b o : Nat} {vs : List Value} (h : Cells w b o vs) : ∀ j u, vs[j]? = some u → w.cell? ((⟨b, o, none⟩ : Addr).add j) = some u := by
  intro j u hu
  obtain ⟨hj, rfl⟩ := List.getElem?_eq_some_iff.1 hu
  have := h j hj
  unfold Addr.add
  split
  · subst j; simpa using this
  · exact this
end


end Go.Proofs.Ytpnihegmhalcfaa
namespace Go.Proofs.Ytpnihegmhalcfaa
open Go.RowKit
set_option maxHeartbeats 400000

/-- A symbol, a production, a grammar. -/
structure Sym where
  name : ByteArray
  type : ByteArray
  level : Int
  assoc : Int
structure Prd where
  left : Int
  right : List Int
  prec : Int
  has : Bool
  action : ByteArray
  whr : Int
structure Gram where
  terms : Int
  syms : List Sym
  prods : List Prd

def i64 (x : Int) : Prop := -9223372036854775808 ≤ x ∧ x ≤ 9223372036854775807
def symCells (s : Sym) : List Value := [.string s.name, .string s.type, .int .i64 s.level, .int .u8 s.assoc]
def symVal (s : Sym) : Value := .agg #[.string s.name, .string s.type, .int .i64 s.level, .int .u8 s.assoc]
def prdCells (p : Prd) (r : Value) : List Value := [.int .i64 p.left, r, .int .i64 p.prec, .bool p.has, .string p.action, .int .i64 p.whr]
def prdVal (p : Prd) (r : Value) : Value := .agg #[.int .i64 p.left, r, .int .i64 p.prec, .bool p.has, .string p.action, .int .i64 p.whr]
structure SymOk (s : Sym) : Prop where
  level : i64 s.level
  assoc : 0 ≤ s.assoc ∧ s.assoc ≤ 255
structure PrdOk (p : Prd) : Prop where
  left : i64 p.left
  prec : i64 p.prec
  whr : i64 p.whr

/-- A slice value whose elements, of so many cells each, are as told. -/
def Rows' {α : Type} (v : Value) (size : Nat) (at_ : Nat → Nat → α → Prop) (l : List α) : Prop :=
  l.length ≤ 17592186044416 ∧ ∃ a cap, v = .slice a l.length cap ∧ l.length ≤ cap ∧ cap ≤ maxLen ∧
    (l = [] ∨ ∃ b o, a = some ⟨b, o, none⟩ ∧ ∀ i, (h : i < l.length) → at_ b (o + i * size) l[i])
def SymAt (w : World) (b o : Nat) (s : Sym) : Prop := SymOk s ∧ Cells w b o (symCells s)
def PrdAt (w : World) (b o : Nat) (p : Prd) : Prop := PrdOk p ∧ ∃ r, Ints w r p.right ∧ Cells w b o (prdCells p r)
def IsSyms (w : World) (v : Value) (l : List Sym) : Prop := Rows' v 4 (SymAt w) l
def IsPrds (w : World) (v : Value) (l : List Prd) : Prop := Rows' v 6 (PrdAt w) l
def IsPrd (w : World) (v : Value) (p : Prd) : Prop := PrdOk p ∧ ∃ r, Ints w r p.right ∧ v = prdVal p r
def IsGram (w : World) (v : Value) (G : Gram) : Prop := i64 G.terms ∧ ∃ s p, v = .agg #[.int .i64 G.terms, s, p] ∧ IsSyms w s G.syms ∧ IsPrds w p G.prods

theorem Rows'.mono {α : Type} {v : Value} {size : Nat} {p q : Nat → Nat → α → Prop} {l : List α} (h : Rows' v size p l) (hpq : ∀ b o x, p b o x → q b o x) : Rows' v size q l := by
  obtain ⟨h1, a, cap, hv, hc, hm, hx⟩ := h
  refine ⟨h1, a, cap, hv, hc, hm, ?_⟩
  rcases hx with hx | ⟨b, o, ha, hx⟩
  · exact .inl hx
  · exact .inr ⟨b, o, ha, fun i hi => hpq _ _ _ (hx i hi)⟩
theorem SymAt.fr {w w' : World} {b o : Nat} {s : Sym} (h : SymAt w b o s) (k : Fr nothing w w') : SymAt w' b o s := ⟨h.1, h.2.fr k fun e => e⟩
theorem PrdAt.fr {w w' : World} {b o : Nat} {s : Prd} (h : PrdAt w b o s) (k : Fr nothing w w') : PrdAt w' b o s := by
  obtain ⟨h1, r, hr, hc⟩ := h
  exact ⟨h1, r, hr.fr k, hc.fr k fun e => e⟩
theorem IsSyms.fr {w w' : World} {v : Value} {l : List Sym} (h : IsSyms w v l) (k : Fr nothing w w') : IsSyms w' v l := Rows'.mono h fun _ _ _ h => h.fr k
theorem IsPrds.fr {w w' : World} {v : Value} {l : List Prd} (h : IsPrds w v l) (k : Fr nothing w w') : IsPrds w' v l := Rows'.mono h fun _ _ _ h => h.fr k
theorem IsPrd.fr {w w' : World} {v : Value} {p : Prd} (h : IsPrd w v p) (k : Fr nothing w w') : IsPrd w' v p := by
  obtain ⟨h1, r, hr, hc⟩ := h
  exact ⟨h1, r, hr.fr k, hc⟩
theorem IsGram.fr {w w' : World} {v : Value} {G : Gram} (h : IsGram w v G) (k : Fr nothing w w') : IsGram w' v G := by
  obtain ⟨h1, s, p, hv, hs, hp⟩ := h
  exact ⟨h1, s, p, hv, hs.fr k, hp.fr k⟩

theorem obj_cell {w : World} {b : Nat} {cs : Array Value} {t : TypeId} {f : Nat × Nat} (h : w.heap[b]? = some (.cells cs t f)) (i : Nat) {v : Value} (hv : cs[i]? = some v) : w.cell? ⟨b, i, none⟩ = some v := by
  simp [World.cell?, h, hv]
theorem alloc_obj (w : World) (o : Obj) : (w.alloc o).heap[w.heap.size]? = some o := (MapKept.heap_alloc w o).1
theorem two_boxes (w : World) (o1 o2 : Obj) : ((w.alloc o1).alloc o2).heap[w.heap.size]? = some o1 ∧ ((w.alloc o1).alloc o2).heap[w.heap.size + 1]? = some o2 ∧ Below w.heap.size w ((w.alloc o1).alloc o2) := by
  have hs : (w.alloc o1).heap.size = w.heap.size + 1 := by simp
  refine ⟨(Below.heap_alloc _ _ _ (by omega)).trans (alloc_obj w o1), ?_, ((Below.refl _ w).alloc (Nat.le_refl _) _).alloc (by omega) _⟩
  have := alloc_obj (w.alloc o1) o2
  rwa [hs] at this
theorem keep_obj {w w' : World} {k : Nat} {o : Obj} (h : w.heap[k]? = some o) (hb : Below w.heap.size w w') : w'.heap[k]? = some o := (Fr.new hb).obj h fun e => e
theorem keep_cells {w w' : World} {b o : Nat} {vs : List Value} (h : Cells w b o vs) (hb : Below w.heap.size w w') : Cells w' b o vs := h.fr (Fr.new hb) fun e => e

/-! Names that may stand there. -/
def nInt : ByteArray := ⟨#[105, 110, 116]⟩
def nBool : ByteArray := ⟨#[98, 111, 111, 108]⟩
def nString : ByteArray := ⟨#[115, 116, 114, 105, 110, 103]⟩
def nFloat : ByteArray := ⟨#[102, 108, 111, 97, 116, 54, 52]⟩
def nEnd : ByteArray := ⟨#[36, 101, 110, 100]⟩
def nAccept : ByteArray := ⟨#[36, 97, 99, 99, 101, 112, 116]⟩
def nNone : ByteArray := ⟨#[]⟩
def typedG (s : ByteArray) : Bool := decide (s = nInt) || (decide (s = nBool) || (decide (s = nString) || decide (s = nFloat)))

/-! Right: P14.3, as the code has it. -/
def rightRow (terms n : Int) (l : List Int) : Bool := l.all fun s => !(decide (s < 1) || (decide (n ≤ s) || decide (s = terms)))
def rightSide (terms n : Int) (l : List Int) : Bool := rightRow terms n l && decide (l.length ≤ 10)
def firstG (terms n : Int) (p : Prd) : Bool :=
  decide (p.left = terms) && (decide (p.right.length = 1) && (rightSide terms n p.right && (decide (terms < p.right.headD 0) && (decide (p.prec = -1) && (!p.has && (decide (p.action = nNone) && decide (p.whr = 0)))))))
def prodG (terms n : Int) (p : Prd) : Bool :=
  !(decide (p.left ≤ terms) || (decide (n ≤ p.left) || !rightSide terms n p.right)) &&
  (!((!decide (p.prec = -1) && (decide (p.prec < 1) || decide (terms ≤ p.prec))) || decide (p.whr < 0)) &&
  (p.has || (decide (p.action = nNone) && decide (p.whr = 0))))

/-- The test of a text against a written one, as the walk spells it. -/
theorem str_lit (s : ByteArray) (l : List UInt8) : (s.toList == l) = decide (s = ⟨⟨l⟩⟩) := by
  rw [ByteArray.toList_eq]
  by_cases e : s = ⟨⟨l⟩⟩
  · simp [e]
  · have : ¬ s.data.toList = l := fun h => e (by cases s with | mk d => cases d with | mk m => simp at h; rw [h])
    simp [e, this]
theorem str_ilit (s : ByteArray) (l : List UInt8) (b : Bool) (h : decide (s = ⟨⟨l⟩⟩) = b) : (s.toList == l) = b := (str_lit s l).trans h
theorem str_nlit (s : ByteArray) (l : List UInt8) (b : Bool) (h : decide (s = ⟨⟨l⟩⟩) = b) : (s.toList != l) = !b := by
  rw [bne, str_ilit s l b h]

set_option maxRecDepth 100000 in
theorem typed_any (s : ByteArray) (w : World) : Calls Try.prog 96 #[.string s] w fun e w' => e = .returned (.bool (typedG s)) ∧ w = w' := by
  unfold typedG nInt nBool nString nFloat
  generalize e1 : decide (s = ⟨#[105, 110, 116]⟩) = b1
  generalize e2 : decide (s = ⟨#[98, 111, 111, 108]⟩) = b2
  generalize e3 : decide (s = ⟨#[115, 116, 114, 105, 110, 103]⟩) = b3
  generalize e4 : decide (s = ⟨#[102, 108, 111, 97, 116, 54, 52]⟩) = b4
  have h1 := str_ilit s _ _ e1
  have h2 := str_ilit s _ _ e2
  have h3 := str_ilit s _ _ e3
  have h4 := str_ilit s _ _ e4
  clear e1 e2 e3 e4
  cases b1
  · cases b2
    · cases b3
      · cases b4
        all_goals
          go_enter Try.func96, Try.ntmps96
          go_wp2
          go_ret
          exact ⟨rfl, rfl⟩
      · go_enter Try.func96, Try.ntmps96
        go_wp2
        go_ret
        exact ⟨rfl, rfl⟩
    · go_enter Try.func96, Try.ntmps96
      go_wp2
      go_ret
      exact ⟨rfl, rfl⟩
  · go_enter Try.func96, Try.ntmps96
    go_wp2
    go_ret
    exact ⟨rfl, rfl⟩
end Go.Proofs.Ytpnihegmhalcfaa
namespace Go.Proofs.Ytpnihegmhalcfaa
open Go.RowKit

/-- A world in which all that stood in w1 stands still. -/
structure After (w1 : World) where
  w : World
  ok : Below w1.heap.size w1 w

theorem after_ne (w1 : World) : Nonempty (After w1) := ⟨⟨w1, Below.refl _ w1⟩⟩
theorem wp_region_after {P : Program} {id : Nat} {Q : Exit → Act → World → Prop} {a : Act} {w : World} {l : List Oper} (w1 : World) (hm : P.follows .mixedOrders = true) (hB : Region.lexB .any l.toArray = true) (h0 : Below w1.heap.size w1 w)
    (h : wpQuiet P l.toArray (fun w' => ∃ p : After w1, w' = p.w) (fun a' => ∀ w', (∃ p : After w1, w' = p.w) → Q .normal a' w') l a) : (Code.region id l.toArray true).wp P Q a w :=
  wp_region_quiet (C := fun w' => ∃ p : After w1, w' = p.w) hm hB ⟨⟨w.drew, h0.drew⟩, rfl⟩ (by simpa using h)

theorem after_call {P : Program} {f : FuncId} {args : Array Value} {w1 : World} {v : Value} (p : After w1) (h : Calls P f args p.w fun e w' => e = .returned v ∧ Below p.w.heap.size p.w w') :
    Calls P f args p.w fun e w'' => e = .returned v ∧ ∃ p' : After w1, w'' = p'.w :=
  h.mono fun _ _ ⟨he, hs⟩ => ⟨he, ⟨_, p.ok.trans (hs.mono p.ok.size)⟩, rfl⟩
theorem after_call_drew {P : Program} {f : FuncId} {args : Array Value} {w1 : World} {v : Value} (p : After w1) (h : Calls P f args p.w fun e w' => e = .returned v ∧ ∃ n, w' = p.w.drewN n) :
    Calls P f args p.w fun e w'' => e = .returned v ∧ ∃ p' : After w1, w'' = p'.w :=
  after_call p (h.mono fun _ _ ⟨he, n, hs⟩ => ⟨he, hs ▸ below_drewN (Below.refl _ _) n⟩)
theorem after_call_same {P : Program} {f : FuncId} {args : Array Value} {w1 : World} {v : Value} (p : After w1) (h : Calls P f args p.w fun e w' => e = .returned v ∧ p.w = w') :
    Calls P f args p.w fun e w'' => e = .returned v ∧ ∃ p' : After w1, w'' = p'.w :=
  after_call p (h.mono fun _ _ ⟨he, hs⟩ => ⟨he, hs ▸ Below.refl _ _⟩)
theorem after_cell {w1 : World} {a : Addr} {v : Value} (h : w1.cell? a = some v) : ∀ p : After w1, p.w.cell? a = some v := fun p => (Fr.new p.ok).cell h fun e => e
theorem after_obj {w1 : World} {b : Nat} {cs : Array Value} {t : TypeId} {f : Nat × Nat} (h : w1.heap[b]? = some (.cells cs t f)) (i : Nat) {v : Value} (hv : cs[i]? = some v) : ∀ p : After w1, p.w.cell? ⟨b, i, none⟩ = some v :=
  after_cell (by simp [World.cell?, h, hv])
end Go.Proofs.Ytpnihegmhalcfaa
namespace Go.Proofs.Ytpnihegmhalcfaa
open Go.RowKit Go.MapKept Go.ChangeMaps

/-- Block b is a map of these entries, in the order in which they came. -/
def IsMap (w : World) (d : TypeDesc) (b : Nat) (kv : List (Value × Value)) : Prop :=
  ∃ es clock, w.heap[b]? = some (.map es clock) ∧ es.toList.map (fun e => (e.key, e.val)) = kv ∧ ∀ x ∈ kv, IsKey d x.1

section
variable {P : Program} {w w' : World} {d : TypeDesc} {b : Nat} {kv : List (Value × Value)} {t kt et : TypeId} {k : Value}

theorem IsMap.fr {ch : Nat → Prop} (h : IsMap w d b kv) (f : Fr ch w w') (hb : ¬ ch b) : IsMap w' d b kv := by
  obtain ⟨es, clock, h1, h2⟩ := h
  exact ⟨es, clock, f.obj h1 hb, h2⟩
theorem IsMap.lt (h : IsMap w d b kv) : b < w.heap.size := by
  obtain ⟨es, clock, h1, h2⟩ := h
  exact (Array.getElem?_eq_some_iff.1 h1).1
theorem IsMap.below (h : IsMap w d b kv) (f : Below w.heap.size w w') : IsMap w' d b kv := h.fr (Fr.new f) fun e => e
theorem isMap_new (w : World) (d : TypeDesc) : IsMap (w.alloc (.map #[] 0)) d w.heap.size [] := ⟨#[], 0, (heap_alloc w _).1, rfl, by simp⟩

theorem IsMap.look (h : IsMap w d b kv) (ht : P.underlying t = some (.map kt et)) (hd : P.underlying kt = some d) (hk : IsKey d k) {z : Value} (hz : (zeroValue et).run P w = .ok z w) :
    (∃ v, (k, v) ∈ kv ∧ ∀ c, (Instr.lookup t (.map (some b)) k c).run P w = .ok (if c then .tuple #[v, .bool true] else v) w) ∨
    ((∀ x ∈ kv, x.1 ≠ k) ∧ ∀ c, (Instr.lookup t (.map (some b)) k c).run P w = .ok (if c then .tuple #[z, .bool false] else z) w) := by
  obtain ⟨es, clock, hb, rfl, hks⟩ := h
  have hks' : ∀ e ∈ es.toList, IsKey d e.key := fun e he => hks (e.key, e.val) (List.mem_map.2 ⟨e, he, rfl⟩)
  have hch := fun em => run_checkKey (w := w) hd hk em 9999
  rcases findNow_spec hk es.toList 0 hks' with ⟨h1, h2⟩ | ⟨j, e0, h1, h2, h3⟩
  · refine .inr ⟨fun x hx => ?_, fun c => ?_⟩
    · obtain ⟨e, he, rfl⟩ := List.mem_map.1 hx
      exact h2 e he
    · have hf := run_findKey (w := w) hd h1
      simp [Instr.lookup, run_underlying ht, Go.MapKept.run_getObj_map hb, hch, hf, hz, Result.andThen]
  · refine .inl ⟨e0.val, List.mem_map.2 ⟨e0, List.mem_of_getElem? h2, by rw [h3]⟩, fun c => ?_⟩
    have hf := run_findKey (w := w) hd h1
    simp [Instr.lookup, run_underlying ht, Go.MapKept.run_getObj_map hb, hch, hf, Result.andThen]

theorem IsMap.store_new (h : IsMap w d b kv) (ht : P.underlying t = some (.map kt et)) (hd : P.underlying kt = some d) (hk : IsKey d k) (hn : ∀ x ∈ kv, x.1 ≠ k) (v : Value) :
    ∃ w', (Instr.mapUpdate t (.map (some b)) k v).run P w = .ok () w' ∧ IsMap w' d b (kv ++ [(k, v)]) ∧ Fr (only b) w w' := by
  obtain ⟨es, clock, hb, rfl, hks⟩ := h
  have hks' : ∀ e ∈ es.toList, IsKey d e.key := fun e he => hks (e.key, e.val) (List.mem_map.2 ⟨e, he, rfl⟩)
  have hch := fun em => run_checkKey (w := w) hd hk em 9999
  rcases findNow_spec hk es.toList 0 hks' with ⟨h1, h2⟩ | ⟨j, e0, h1, h2, h3⟩
  · have hf := run_findKey (w := w) hd h1
    refine ⟨setBlock w b (.map (es.push ⟨k, v, clock⟩) (clock + 1)), ?_, ⟨_, _, heap_setBlock_same hb _, by simp, ?_⟩, ⟨rfl, rfl, rfl, by simp [setBlock], fun i _ hi => heap_setBlock_other hb _ (fun e => hi e)⟩⟩
    · simp [Instr.mapUpdate, run_underlying ht, Go.MapKept.run_getObj_map hb, hch, hf, Go.MapKept.run_setObj_map _ hb, Result.andThen, setBlock]
    · intro x hx
      rcases List.mem_append.1 hx with hx | hx
      · exact hks x hx
      · simp only [List.mem_singleton] at hx
        subst hx
        exact hk
  · exact absurd h3 (hn (e0.key, e0.val) (List.mem_map.2 ⟨e0, List.mem_of_getElem? h2, rfl⟩))
end

/-- 'm[k] = v' at a key that is not yet there, at the operation. -/
theorem wpList_store_new {P : Program} (w : World) {ops : Array Oper} {rest : List Oper} {o : Oper} {a : Act} {Q : Exit → Act → World → Prop}
    (hg : o.guard = none) (m x v : Operand) (t : TypeId) (hop : o.op = Op.mapUpdate t m x v) (kt et : TypeId) (d : TypeDesc) (ht : P.underlying t = some (.map kt et)) (hd : P.underlying kt = some d)
    (b : Nat) (kv : List (Value × Value)) (hm : a.eval m = .map (some b)) (h : IsMap w d b kv) (key val : Value) (hx : a.eval x = key) (hv : a.eval v = val) (hk : IsKey d key) (hn : ∀ x ∈ kv, x.1 ≠ key)
    (hK : ∀ w', IsMap w' d b (kv ++ [(key, val)]) → Fr (only b) w w' → wpList P ops Q rest (a.put o.dst undef) w') : wpList P ops Q (o :: rest) a w := by
  refine wpList_plain hg fun K' hK' => ?_
  obtain ⟨w', hrun, r1, r2⟩ := h.store_new ht hd hk hn val
  unfold Oper.wp
  simp [execOp, hop, hm, hx, hv, hrun, Result.andThen]
  exact hK' _ _ (hK w' r1 r2)

/-- A set of texts. -/
def texts (l : List ByteArray) : List (Value × Value) := l.map fun s => (.string s, .bool true)
theorem texts_append (l : List ByteArray) (s : ByteArray) : texts (l ++ [s]) = texts l ++ [(.string s, .bool true)] := by simp [texts]
theorem texts_mem {l : List ByteArray} {s : ByteArray} {v : Value} (h : (Value.string s, v) ∈ texts l) : s ∈ l ∧ v = .bool true := by
  obtain ⟨x, hx, e⟩ := List.mem_map.1 h
  simp only [Prod.mk.injEq, Value.string.injEq] at e
  obtain ⟨rfl, rfl⟩ := e
  exact ⟨hx, rfl⟩
theorem texts_not {l : List ByteArray} {s : ByteArray} (h : ∀ x ∈ texts l, x.1 ≠ Value.string s) : s ∉ l := fun hs => h _ (List.mem_map.2 ⟨s, hs, rfl⟩) rfl
theorem texts_ne {l : List ByteArray} {s : ByteArray} (h : s ∉ l) : ∀ x ∈ texts l, x.1 ≠ Value.string s := fun x hx e => by
  obtain ⟨y, hy, rfl⟩ := List.mem_map.1 hx
  simp only [Value.string.injEq] at e
  subst e
  exact h hy
def hasName (l : List ByteArray) (s : ByteArray) : Bool := l.any fun x => decide (x = s)
theorem hasName_iff (l : List ByteArray) (s : ByteArray) : hasName l s = true ↔ s ∈ l := by simp [hasName]
theorem hasName_false (l : List ByteArray) (s : ByteArray) : hasName l s = false ↔ s ∉ l := by rw [← hasName_iff]; simp
theorem IsMap.has {P : Program} {w : World} {b : Nat} {l : List ByteArray} {t kt et : TypeId} (h : IsMap w .string b (texts l)) (ht : P.underlying t = some (.map kt et)) (hd : P.underlying kt = some .string) (hz : (zeroValue et).run P w = .ok (.bool false) w) (s : ByteArray) :
    (Instr.lookup t (.map (some b)) (.string s) false).run P w = .ok (.bool (hasName l s)) w := by
  rcases h.look (k := .string s) ht hd trivial hz with ⟨v, hv, hr⟩ | ⟨hn, hr⟩
  · obtain ⟨h1, rfl⟩ := texts_mem hv
    rw [hr]
    simp [(hasName_iff l s).2 h1]
  · rw [hr]
    simp [(hasName_false l s).2 (texts_not hn)]
end Go.Proofs.Ytpnihegmhalcfaa
namespace Go.Proofs.Ytpnihegmhalcfaa
open Go.RowKit

section
variable {P : Program} {md : Region.Mode} {ops : Array Oper} {Q : Exit → Act → World → Prop} {F : Nat → World → Prop}
/-- Whatever order is drawn: behind operation j the facts F j hold. -/
def AnyT (P : Program) (md : Region.Mode) (ops : Array Oper) (Q : Exit → Act → World → Prop) (F : Nat → World → Prop) : Nat → Array Bool → Act → World → Prop
  | 0, listed, a, w => Region.ready md ops listed = [] ∧ Q .normal a w
  | n + 1, listed, a, w => (Region.ready md ops listed = [] → Q .normal a w) ∧
      ∀ j ∈ Region.ready md ops listed, wpOp P ops Q j (fun a' w' => F j w' ∧ AnyT P md ops Q F n (listed.setIfInBounds j true) a' w') a w
theorem anyT_any : ∀ (n : Nat) (listed : Array Bool) (a : Act) (w : World), AnyT P md ops Q F n listed a w → wpAny P md ops Q n listed a w
  | 0, _, _, _, h => h
  | n + 1, _, _, _, h => ⟨h.1, fun j hj => wpOp_mono (fun a' w' k => anyT_any n _ a' w' k.2) (h.2 j hj)⟩
/-- Operation j waits for operation i, itself or by others. -/
def waitsB (md : Region.Mode) (ops : Array Oper) : Nat → Nat → Nat → Bool
  | 0, _, _ => false
  | n + 1, j, i => match ops[j]? with
    | some o => o.after.toList.any fun e => Region.binds md e && (decide (e.on = i) || waitsB md ops n e.on i)
    | none => false
/-- What stands behind others is listed behind them. -/
def closedB (md : Region.Mode) (ops : Array Oper) (listed : Array Bool) : Bool :=
  (List.range ops.size).all fun j => !(listed[j]?.getD false) || (match ops[j]? with
    | some o => o.after.toList.all fun e => !Region.binds md e || listed[e.on]?.getD false
    | none => true)
theorem closed_spec {listed : Array Bool} : closedB md ops listed = true ↔ ∀ (j : Nat) (o : Oper), ops[j]? = some o → listed[j]?.getD false = true → ∀ e ∈ o.after, Region.binds md e = true → listed[e.on]?.getD false = true := by
  unfold closedB
  rw [List.all_eq_true]
  constructor
  · intro h j o hj hl e he hb
    have := h j (List.mem_range.2 (Array.getElem?_eq_some_iff.1 hj).1)
    rw [hj, hl] at this
    simp only [Bool.not_true, Bool.false_or, List.all_eq_true] at this
    have := this e (Array.mem_toList_iff.2 he)
    rw [hb] at this
    simpa using this
  · intro h j _
    cases hl : listed[j]?.getD false
    · simp
    · cases hj : ops[j]? with
      | none => simp
      | some o =>
        simp only [Bool.not_true, Bool.false_or, List.all_eq_true]
        intro e he
        cases hb : Region.binds md e
        · simp
        · simpa using h j o hj hl e (Array.mem_toList_iff.1 he) hb
theorem waits_not {listed : Array Bool} {i : Nat} (hc : closedB md ops listed = true) (hi : listed[i]?.getD false = false) :
    ∀ (n j : Nat), (∀ o, ops[j]? = some o → ∀ e ∈ o.after, Region.binds md e = true → listed[e.on]?.getD false = true) → waitsB md ops n j i = false
  | 0, _, _ => rfl
  | n + 1, j, h => by
    unfold waitsB
    cases hj : ops[j]? with
    | none => rfl
    | some o =>
      simp only
      rw [List.any_eq_false]
      intro e he
      cases hb : Region.binds md e
      · simp
      · have hl := h o hj e (Array.mem_toList_iff.1 he) hb
        have hne : e.on ≠ i := fun x => by rw [x, hi] at hl; cases hl
        have := waits_not hc hi n e.on fun o' ho' e' he' hb' => closed_spec.1 hc e.on o' ho' hl e' he' hb'
        simp [hne, this]
theorem up_step {listed : Array Bool} (j k : Nat) (hk : listed[k]?.getD false = true) : (listed.setIfInBounds j true)[k]?.getD false = true := by
  by_cases e : j = k
  · subst e
    cases hl : listed[j]? with
    | none => rw [hl] at hk; cases hk
    | some z =>
      rw [Array.getElem?_setIfInBounds_self_of_lt (Array.getElem?_eq_some_iff.1 hl).1]
      rfl
  · rw [Array.getElem?_setIfInBounds_ne e]
    exact hk
theorem closed_step {listed : Array Bool} {j : Nat} (hc : closedB md ops listed = true) (hj : j ∈ Region.ready md ops listed) : closedB md ops (listed.setIfInBounds j true) = true := by
  obtain ⟨hun, oj, hoj, hall⟩ := mem_ready.1 hj
  rw [closed_spec]
  intro k o hk hl e he hb
  by_cases ejk : j = k
  · subst ejk
    rw [hoj] at hk
    obtain rfl := Option.some.inj hk
    exact up_step _ _ (by simpa using hall e he hb)
  · rw [Array.getElem?_setIfInBounds_ne ejk] at hl
    exact up_step _ _ (closed_spec.1 hc k o hk hl e he hb)
theorem anyT_take {i : Nat} {oi : Oper} {v : Value} {R : World → Prop} (T : Nat → Bool) (hTF : ∀ j w, T j = true → F j w → R w) (hFi : ∀ w, R w → F i w) (hi : ops[i]? = some oi) (hs : Region.noSelect ops = true)
    (hQ : ∀ c a w, Q (.panic c) (a.put oi.dst v) w → Q (.panic c) a w) :
    ∀ (n : Nat) (listed : Array Bool) (a : Act) (w : World), ((List.range ops.size).all fun j => (listed[j]?.getD false) || T j || waitsB md ops ops.size j i) = true → closedB md ops listed = true →
      Region.free md ops listed i = true → (Region.ready md ops listed).contains i = true → YieldsIf P ops R oi v a → R w →
      AnyT P md ops Q F n (listed.setIfInBounds i true) (a.put oi.dst v) w → AnyT P md ops Q F (n + 1) listed a w := by
  have key : ∀ (n : Nat) (listed : Array Bool) (a : Act) (w : World), (∀ j < ops.size, listed[j]?.getD false = true ∨ T j = true ∨ waitsB md ops ops.size j i = true) → closedB md ops listed = true →
      (∀ j oj, ops[j]? = some oj → j ≠ i → listed.getD j true = false → (∀ e ∈ oj.after, Region.binds md e = true → e.on ≠ i) → oi.apart ops oj = true) →
      i ∈ Region.ready md ops listed → YieldsIf P ops R oi v a → R w → AnyT P md ops Q F n (listed.setIfInBounds i true) (a.put oi.dst v) w → AnyT P md ops Q F (n + 1) listed a w := by
    intro n
    induction n with
    | zero =>
      intro listed a w _ _ _ hr hy hS H
      refine ⟨fun h => absurd (h ▸ hr) (by simp), fun j hj => ?_⟩
      by_cases e : j = i
      · subst e
        exact hy.wpOp hi hS ⟨hFi w hS, H⟩
      · have := ready_mono hj e
        rw [H.1] at this
        cases this
    | succ n ih =>
      intro listed a w hT hc hfree hr hy hS H
      refine ⟨fun h => absurd (h ▸ hr) (by simp), fun j hj => ?_⟩
      by_cases e : j = i
      · subst e
        exact hy.wpOp hi hS ⟨hFi w hS, H⟩
      · obtain ⟨hun, oj, hoj, hall⟩ := mem_ready.1 hj
        have hnot : ∀ e ∈ oj.after, Region.binds md e = true → e.on ≠ i := fun ed he hb heq => by
          have k1 := (mem_ready.1 hr).1
          have k2 := hall ed he hb
          rw [heq] at k2
          cases hl : listed[i]? with
          | none => simp [hl] at k2
          | some z =>
            simp [hl] at k1 k2
            rw [k1] at k2
            cases k2
        have hTj : T j = true := by
          rcases hT j (Array.getElem?_eq_some_iff.1 hoj).1 with h2 | h2 | h2
          · exfalso
            cases hl : listed[j]? with
            | none => rw [hl] at h2; cases h2
            | some z =>
              simp [hl] at hun h2
              rw [hun] at h2
              cases h2
          · exact h2
          · have hun' : listed[i]?.getD false = false := by
              have k1 := (mem_ready.1 hr).1
              cases hl : listed[i]? with
              | none => rfl
              | some z => simpa [hl] using k1
            rw [waits_not hc hun' ops.size j fun o ho e he hb => by rw [hoj] at ho; obtain rfl := Option.some.inj ho; simpa using hall e he hb] at h2
            cases h2
        have hp := wpOp_putIf hoj (hfree j oj hoj e hun hnot) (fun cs b => Region.noSelect_spec hs i oi cs b hi) (fun cs b => Region.noSelect_spec hs j oj cs b hoj) hQ hy (H.2 j (ready_mono hj e))
        refine wpOp_mono (fun a' w' k => ⟨k.2.1, ih (listed.setIfInBounds j true) a' w' (fun m hm => (hT m hm).imp (up_step j m) id) (closed_step hc hj) (fun m om hm hmi hmu hmn => ?_) (ready_mono hr (Ne.symm e)) k.1 (hTF j w' hTj k.2.1) ?_⟩) hp
        · refine hfree m om hm hmi ?_ hmn
          by_cases ejm : j = m
          · subst ejm
            exact hun
          · rw [getD_set_ne true ejm] at hmu
            exact hmu
        · rw [Array.setIfInBounds_comm _ _ e]
          exact k.2.2
  intro n listed a w hT hc hf hr hy hS H
  refine key n listed a w (fun j hj => ?_) hc (Region.free_spec hi hf) (by simpa using hr) hy hS H
  have := List.all_eq_true.1 hT j (List.mem_range.2 hj)
  simp only [Bool.or_eq_true] at this
  rcases this with (h | h) | h
  · exact .inl h
  · exact .inr (.inl h)
  · exact .inr (.inr h)
theorem anyT_ready {rs : List Nat} {n : Nat} {listed : Array Bool} {a : Act} {w : World} (hr : Region.ready md ops listed = rs) (hne : rs ≠ [])
    (h : ∀ j ∈ rs, wpOp P ops Q j (fun a' w' => F j w' ∧ AnyT P md ops Q F n (listed.setIfInBounds j true) a' w') a w) : AnyT P md ops Q F (n + 1) listed a w :=
  ⟨fun h0 => absurd (hr ▸ h0) hne, hr ▸ h⟩
theorem anyT_done {listed : Array Bool} {a : Act} {w : World} (hr : Region.ready md ops listed = []) (h : Q .normal a w) : ∀ n, AnyT P md ops Q F n listed a w
  | 0 => ⟨hr, h⟩
  | _ + 1 => ⟨fun _ => h, by rw [hr]; simp⟩
theorem wpOp_plain {j : Nat} {o : Oper} {a : Act} {w : World} {K : Act → World → Prop} (hj : ops[j]? = some o) (hg : o.guard = none) (h : Oper.wp P o a w K Q) : wpOp P ops Q j K a w := by
  unfold wpOp
  simp only [hj, Region.wanted, hg, if_true]
  exact .inl h
theorem wp_region_anyT {id : Nat} {a : Act} {w : World} (F : Nat → World → Prop) (hm : P.follows .mixedOrders = true) (h : AnyT P .any ops Q F ops.size (Array.replicate ops.size false) a w.drew) : (Code.region id ops true).wp P Q a w := by
  exact wp_region_any hm (anyT_any _ _ _ _ h)
/-- Two kinds of facts: S ahead of operation N (the first store), S' behind that one and behind operation i0. -/
def Lv (S' S : World → Prop) (N i0 j : Nat) (w : World) : Prop := (j = i0 ∨ j = N → S' w) ∧ (j < N → j ≠ i0 → S w)
variable {S' S : World → Prop} {N i0 : Nat}
theorem lv_weak (h : ∀ w, S w → S' w) (j : Nat) (w : World) (hj : decide (j ≤ N) = true) (k : Lv S' S N i0 j w) : S' w := by
  by_cases e : j = i0 ∨ j = N
  · exact k.1 e
  · have := of_decide_eq_true hj
    exact h w (k.2 (by omega) (by omega))
theorem lv_self (w : World) (h : S' w) : Lv S' S N i0 i0 w := ⟨fun _ => h, fun _ e => absurd rfl e⟩
theorem lv_strong (j : Nat) (w : World) (hj : decide (j < N ∧ j ≠ i0) = true) (k : Lv S' S N i0 j w) : S w := k.2 (of_decide_eq_true hj).1 (of_decide_eq_true hj).2
theorem lv_of {j : Nat} {w : World} (h0 : j ≠ i0) (hN : j ≠ N) (h : S w) : Lv S' S N i0 j w := ⟨fun e => absurd e (by omega), fun _ _ => h⟩
theorem lv_end {w : World} (h : S' w) : Lv S' S N i0 N w := ⟨fun _ => h, fun e => absurd e (Nat.lt_irrefl _)⟩
theorem lv_past {j : Nat} {w : World} (h0 : i0 < j) (hN : N < j) : Lv S' S N i0 j w := ⟨fun e => by omega, fun e => by omega⟩
end
end Go.Proofs.Ytpnihegmhalcfaa
namespace Go.Proofs.Ytpnihegmhalcfaa
open Go.RowKit
set_option maxHeartbeats 400000

theorem same_len (a b : Option Addr) (n m c d : Nat) (w : World) (h : n ≠ m) :
    Calls Try.prog 15 #[.slice a n c, .slice b m d] w fun e w' => e = .returned (.bool false) ∧ w = w' := by
  have h' : ((n : Int) != m) = true := by simp; omega
  go_enter Try.func15, Try.ntmps15
  go_wp2
  go_ret
  exact ⟨rfl, rfl⟩
theorem same_none (a b : Option Addr) (c d : Nat) (w : World) :
    Calls Try.prog 15 #[.slice a 0 c, .slice b 0 d] w fun e w' => e = .returned (.bool true) ∧ w = w' := by
  go_enter Try.func15, Try.ntmps15
  go_wp2
  refine wp_loop_rounds 1 ?_
  rw [rounds_succ]
  go_wp2
  go_ret
  exact ⟨rfl, rfl⟩
def sameI (xs ys : List Int) : Bool := decide (xs = ys)
theorem same_loop (b off b' off' c d : Nat) (xs ys : List Int) (w : World) (hl : ys.length = xs.length) (hn : xs.length ≤ 17592186044416)
   (hx : Cells w b off (xs.map (Value.int .i64))) (hy : Cells w b' off' (ys.map (Value.int .i64))) :
    Calls Try.prog 15 #[.slice (some ⟨b, off, none⟩) xs.length c, .slice (some ⟨b', off', none⟩) xs.length d] w fun e w' => e = .returned (.bool (sameI xs ys)) ∧ ∃ n, w' = w.drewN n := by
  have HL := Lib.hid hl
  clear hl
  generalize hN : xs.length = N at *
  have HN := Lib.hid hN
  clear hN
  go_enter Try.func15, Try.ntmps15
  go_wp2
  go_loopw [5] (fun i wr => ∃ k n : Nat, k ≤ N ∧ i = .int .i64 k ∧ xs.take k = ys.take k ∧ wr = w.drewN n)
     (fun i _ => N - (intOf i).toNat)
  case atStart => exact ⟨0, 0, Nat.zero_le _, rfl, rfl, rfl⟩
  case round =>
    obtain ⟨k, n, hk, rfl, he, rfl⟩ := hrel
    have HE := Lib.hid he
    clear he
    by_cases hlt : k < N
    · have hkx : k < xs.length := by have := HN.out; omega
      have hky : k < ys.length := by have := HN.out; have := HL.out; omega
      have h1 := hx k (by simpa using hkx)
      have h2 := hy k (by simpa using hky)
      rw [List.getElem_map] at h1 h2
      have tx : xs.take (k + 1) = xs.take k ++ [xs[k]] := by rw [List.take_add_one, List.getElem?_eq_getElem hkx]; rfl
      have ty : ys.take (k + 1) = ys.take k ++ [ys[k]] := by rw [List.take_add_one, List.getElem?_eq_getElem hky]; rfl
      have hd : xs[k] ≠ ys[k] → xs ≠ ys := fun hne e => hne (by simp only [e])
      generalize xs[k] = p at *
      generalize ys[k] = q at *
      have TX := Lib.hid tx
      have TY := Lib.hid ty
      clear tx ty hx hy
      by_cases hpq : p = q
      · have hpq' : (p != q) = false := by simp [hpq]
        have HP := Lib.hid hpq
        clear hpq hd
        go_wp2
        go_quiet (fail)
        go_wp2
        go_roundw
        case rel => exact ⟨k + 1, _, by omega, by simp, by rw [TX.out, TY.out, HE.out, HP.out], rfl⟩
        case measure => simp [intOf]; omega
      · have hpq' : (p != q) = true := by simp [hpq]
        have HD := Lib.hid (hd hpq)
        clear hd hpq
        go_wp2
        go_quiet (fail)
        go_wp2
        go_ret
        exact ⟨congrArg (fun t => Ending.returned (Value.bool t)) (by simp [sameI, HD.out]), n + nq, by simp⟩
    · obtain rfl : k = N := by omega
      clear hlt
      have hfin : sameI xs ys = true := by
        have h1 := HE.out
        have h2 := HN.out
        have h3 := HL.out
        rw [List.take_of_length_le (by omega), List.take_of_length_le (by omega)] at h1
        simp [sameI, h1]
      go_wp2
      go_ret
      exact ⟨congrArg (fun t => Ending.returned (Value.bool t)) hfin.symm, _, rfl⟩
/-- SameInts, of any two lists. -/
theorem same_any (u v : Value) (xs ys : List Int) (w : World) (hx : Ints w u xs) (hy : Ints w v ys) :
    Calls Try.prog 15 #[u, v] w fun e w' => e = .returned (.bool (sameI xs ys)) ∧ ∃ n, w' = w.drewN n := by
  obtain ⟨_, h1, a, c, rfl, _, _, hxa⟩ := hx
  obtain ⟨_, _, b, d, rfl, _, _, hyb⟩ := hy
  by_cases hl : xs.length = ys.length
  · rcases hxa with rfl | ⟨b1, o1, rfl, hc1⟩
    · obtain rfl : ys = [] := List.eq_nil_of_length_eq_zero (by simpa using hl.symm)
      exact (same_none a b c d w).mono fun e w' ⟨he, hw⟩ => ⟨he, 0, hw.symm⟩
    · rcases hyb with rfl | ⟨b2, o2, rfl, hc2⟩
      · obtain rfl : xs = [] := List.eq_nil_of_length_eq_zero (by simpa using hl)
        exact (same_none _ b c d w).mono fun e w' ⟨he, hw⟩ => ⟨he, 0, hw.symm⟩
      · rw [← hl]
        exact same_loop b1 o1 b2 o2 c d xs ys w hl.symm h1 hc1 hc2
  · exact (same_len a b _ _ c d w hl).mono fun e w' ⟨he, hw⟩ => ⟨by rw [he]; simp [sameI]; intro h; exact hl (by rw [h]), 0, hw.symm⟩

/-- A place's mark. -/
def markOf (i : Int) : Int := 8000024 + i
theorem mark_any (i : Int) (w : World) (h0 : 0 ≤ i) (hi : i < 100) :
    Calls Try.prog 40 #[.int .i64 1, .int .i64 i] w fun e w' => e = .returned (.int .i64 (markOf i)) ∧ w = w' := by
  go_enter Try.func40, Try.ntmps40
  go_wp2
  go_ret
  exact ⟨congrArg (fun t => Ending.returned (Value.int .i64 t)) (by unfold markOf; omega), rfl⟩
def marks (k : Nat) : List Int := (List.range k).map fun j : Nat => markOf j
theorem marks_succ (k : Nat) : marks (k + 1) = marks k ++ [markOf k] := by simp [marks, List.range_succ]
theorem marks_length (k : Nat) : (marks k).length = k := by simp [marks]

theorem Try.infoInt' : (Try.prog.info? 3).map (fun i => (i.zero, i.size, i.bytes)) = some (some (.int .i64 0), 1, 8) := by kernel_rfl

/-- What LentInts answers: its list, the marks behind its end. -/
def Lent (w : World) (B : Nat) (v : Value) (xs : List Int) : Prop :=
  ∃ g cap, v = .slice (some ⟨g, 0, none⟩) xs.length cap ∧ B ≤ g ∧ xs.length + 12 ≤ cap ∧ cap ≤ maxLen ∧ Cells w g 0 ((xs ++ marks 12).map (Value.int .i64))

set_option maxRecDepth 100000 in
set_option maxHeartbeats 1000000 in
theorem lent_any (a : Option Addr) (cap : Nat) (xs : List Int) (w : World) (hlen : xs.length ≤ 17592186044416) (hx : xs = [] ∨ ∃ b o, a = some ⟨b, o, none⟩ ∧ Cells w b o (xs.map (Value.int .i64))) :
    Calls Try.prog 21 #[.slice a xs.length cap] w fun e w' => ∃ v, e = .returned v ∧ Lent w' w.heap.size v xs ∧ Below w.heap.size w w' := by
  obtain ⟨i0, hi, hz0, hz1, hz2⟩ := info_parts Try.infoInt'
  go_enter Try.func21, Try.ntmps21
  have hsrc : ∀ w0 : World, w.grownBy w0 none → (a = none ∧ xs.length = 0) ∨ ∃ ad, a = some ad ∧ ∀ j u, (xs.map (Value.int .i64))[j]? = some u → w0.cell? (ad.add j) = some u := fun w0 hg => by
    rcases hx with rfl | ⟨b, o, rfl, hc⟩
    · cases a with
      | none => exact .inl ⟨rfl, rfl⟩
      | some ad => exact .inr ⟨ad, rfl, fun j u h => by simp at h⟩
    · exact .inr ⟨_, rfl, cells_add (hc.fr (Fr.grown hg) (fun e => by cases e))⟩
  have HS := Lib.hid hsrc
  clear hsrc hx
  go_wp2_with (first | (at_make; refine wpList_make_own _ rfl _ _ 30 rfl w.heap.size 3 i0 (.int .i64 0) 1 Try.underlying30 hi hz0 hz1 .i64 .i64 _ (xs.length + 12) rfl rfl (by omega) (by rw [hz2]; omega) (by unfold maxLen; omega) (Nat.le_refl _) ?_; intro w0 hown0 hgrow0) | (at_builtin; refine wpList_append_room rfl _ _ 30 rfl w.heap.size 3 i0 1 Try.underlying30 hi hz1 w.heap.size 0 (xs.length + 12) [] rfl hown0 a xs.length cap (xs.map (Value.int .i64)) rfl (by simp) (HS.out w0 hgrow0) (by simp [Value.oneCell']) (by omega) ?_; intro w1 hown1 hgrow1))
  simp only [Nat.zero_add, List.nil_append] at hown1
  have hB1 : Below w.heap.size w w1 := ((Below.refl _ w).grown hgrow0 (Nat.le_refl _) (fun k e => by cases e)).grown hgrow1 hgrow0.size (fun k e => by cases e; exact Nat.le_refl _)
  go_loopw [3, 4] (fun v i wr => ∃ k : Nat, k ≤ 12 ∧ i = .int .i64 k ∧ v = .slice (some ⟨w.heap.size, 0, none⟩) (xs.length + k) (xs.length + 12) ∧
      wr.ownsRow w.heap.size 3 1 (.slice (some ⟨w.heap.size, 0, none⟩) (xs.length + k) (xs.length + 12)) (xs.length + k) ((xs ++ marks k).map (Value.int .i64)) ∧ Below w.heap.size w wr)
    (fun _ i _ => 12 - (intOf i).toNat)
  case atStart => exact ⟨0, by omega, rfl, rfl, by simpa [marks] using hown1, hB1⟩
  case round =>
    obtain ⟨k, hk, rfl, rfl, hown, hB⟩ := hrel
    clear hown0 hgrow0 hown1 hgrow1 hB1
    by_cases hlt : k < 12
    · have HM := Lib.hid (mark_any k wr (by omega) (by omega))
      go_wp2_with (first | (go_at_call 40; refine HM.out.mono ?_; rintro e w' ⟨rfl, rfl⟩) | (at_builtin; refine wpList_append_room rfl _ _ 30 rfl w.heap.size 3 i0 1 Try.underlying30 hi hz1 w.heap.size (xs.length + k) (xs.length + 12) _ rfl (hown.alloc _) _ 1 1 [.int .i64 (markOf k)] rfl (by simp) (.inr ⟨_, rfl, cell_one_new _ _ _⟩) (by simp [Value.oneCell']) (by omega) ?_; intro w2 hown2 hgrow2))
      go_roundw
      case rel =>
        refine ⟨k + 1, by omega, by simp, rfl, ?_, (hB.alloc hB.size _).grown hgrow2 (by have := hB.size; simp; omega) (fun j e => by cases e; exact Nat.le_refl _)⟩
        rw [marks_succ, ← List.append_assoc, List.map_append]
        exact hown2
      case measure => simp [intOf]; omega
    · obtain rfl : k = 12 := by omega
      clear hlt
      go_wp2
      go_ret
      obtain ⟨a', cap', hv, h1, h2, h3⟩ := own_as_cells hown
      simp only [Value.slice.injEq] at hv
      obtain ⟨rfl, -, rfl⟩ := hv
      refine ⟨_, rfl, ⟨w.heap.size, xs.length + 12, rfl, Nat.le_refl _, Nat.le_refl _, h2, ?_⟩, hB⟩
      rcases h3 with h3 | ⟨g, hg, _, hc⟩
      · have : ((xs ++ marks 12).map (Value.int .i64)).length = 0 := by rw [h3]; rfl
        simp [marks_length] at this
      · simp only [Option.some.injEq, Addr.mk.injEq] at hg
        obtain ⟨rfl, -⟩ := hg
        exact hc

set_option maxRecDepth 100000 in
set_option maxHeartbeats 1000000 in
theorem kept_any (B : Nat) (v u : Value) (xs : List Int) (w : World) (hv : Lent w B v xs) (hu : Ints w u xs) :
    Calls Try.prog 26 #[v, u] w fun e w' => e = .returned (.bool true) ∧ ∃ n, w' = w.drewN n := by
  obtain ⟨g, cap, rfl, _, hcap, hcm, hc⟩ := hv
  obtain ⟨_, hlen, a, cap', rfl, _, _, hx⟩ := hu
  have hcm' : cap ≤ 9223372036854775807 := hcm
  clear hcm
  go_enter Try.func26, Try.ntmps26
  go_wp2
  go_loopw [6] (fun i wr => ∃ k n : Nat, k ≤ xs.length + 12 ∧ i = .int .i64 k ∧ wr = w.drewN n) (fun i _ => xs.length + 12 - (intOf i).toNat)
  case atStart => exact ⟨0, 0, by omega, rfl, rfl⟩
  case round =>
    obtain ⟨k, n, hk, rfl, hwr⟩ := hrel
    have HW := Lib.hid hwr
    have hcw : ∀ p, wr.cell? p = w.cell? p := fun p => by rw [hwr]; rfl
    have HCW := Lib.hid hcw
    clear hwr hcw
    by_cases hlt : k < xs.length
    · obtain ⟨b, o, rfl, hcx⟩ : ∃ b o, a = some ⟨b, o, none⟩ ∧ Cells w b o (xs.map (Value.int .i64)) := by
        rcases hx with rfl | h
        · simp at hlt
        · exact h
      have h1 := hcx k (by simpa using hlt)
      have h2 := hc k (by simp; omega)
      rw [List.getElem_map] at h1 h2
      rw [List.getElem_append_left hlt, Nat.zero_add] at h2
      rw [← HCW.out] at h1 h2
      generalize xs[k] = p at h1 h2
      have hb : decide (xs.length ≤ k) = false := by simp; omega
      clear hcx hc hx HCW
      go_wp2
      go_quiet (fail)
      go_wp2
      go_roundw
      case rel => exact ⟨k + 1, n + nq, by omega, by simp, by rw [HW.out, World.drewN_drewN]⟩
      case measure => simp [intOf]; omega
    · by_cases hlt2 : k < xs.length + 12
      · have h2 := hc k (by simp [marks_length]; omega)
        rw [List.getElem_map, List.getElem_append_right (by omega), Nat.zero_add] at h2
        have h3 : (marks 12)[k - xs.length]'(by rw [marks_length]; omega) = markOf ((k : Int) - xs.length) := by simp [marks]; congr 1; omega
        rw [h3, ← HCW.out] at h2
        have hb : decide (k < xs.length) = false := by simp; omega
        have hb2 : decide (xs.length ≤ k) = true := by simp; omega
        have HM := Lib.hid fun w => mark_any ((k : Int) - xs.length) w (by omega) (by omega)
        have hw1 : IntKind.i64.wrap ((k : Int) - xs.length) = (k : Int) - xs.length := IntWalk.i64_in _ (by omega)
        generalize markOf ((k : Int) - xs.length) = p at *
        clear hc hx h3 hlt HCW
        go_wp2
        go_quiet ((go_at_call 40; exact Calls.quiet_of_same ((HM.out _).mono fun _ _ ⟨he, hw⟩ => ⟨he, hw.symm⟩)))
        clear hw1
        go_wp2
        go_roundw
        case rel => exact ⟨k + 1, n + nq, by omega, by simp, by rw [HW.out, World.drewN_drewN]⟩
        case measure => simp [intOf]; omega
      · obtain rfl : k = xs.length + 12 := by omega
        clear hlt hlt2
        go_wp2
        go_ret
        exact ⟨rfl, n, HW.out⟩
end Go.Proofs.Ytpnihegmhalcfaa
namespace Go.Proofs.Ytpnihegmhalcfaa
open Go.RowKit

/-- The state in which those operations have yielded of which σ tells a value. -/
def fillL : List (Option Tmp) → Nat → (Nat → Option Value) → Act → Act
  | [], _, _, a => a
  | d :: r, i, σ, a => fillL r (i + 1) σ (match σ i with | some v => a.put d v | none => a)
def updS (σ : Nat → Option Value) (j : Nat) (v : Value) : Nat → Option Value := fun k => if k = j then some v else σ k
theorem fill_congr {σ σ' : Nat → Option Value} : ∀ (ds : List (Option Tmp)) (i : Nat) (a : Act), (∀ k, i ≤ k → k < i + ds.length → σ k = σ' k) → fillL ds i σ a = fillL ds i σ' a
  | [], _, _, _ => rfl
  | d :: r, i, a, h => by
    unfold fillL
    rw [h i (Nat.le_refl _) (by simp)]
    exact fill_congr r (i + 1) _ fun k h1 h2 => h k (by omega) (by simp only [List.length_cons]; omega)
theorem fill_put {σ : Nat → Option Value} {d : Option Tmp} {v : Value} : ∀ (ds : List (Option Tmp)) (i : Nat) (a : Act), (∀ e ∈ ds, ∀ x, e = some x → d ≠ some x) → (fillL ds i σ a).put d v = fillL ds i σ (a.put d v)
  | [], _, _, _ => rfl
  | e :: r, i, a, h => by
    unfold fillL
    rw [fill_put r (i + 1) _ fun e' he => h e' (List.mem_cons_of_mem _ he)]
    congr 1
    cases σ i with
    | none => rfl
    | some u => exact Act.put_comm a u v (h e (List.mem_cons_self ..))
/-- No two write one slot. -/
def ApartL (ds : List (Option Tmp)) : Prop := ds.Pairwise fun d e => ∀ x, d = some x → e ≠ some x
theorem fill_upd {σ : Nat → Option Value} {v : Value} : ∀ (ds : List (Option Tmp)) (i k : Nat) (a : Act) (d : Option Tmp), ApartL ds → ds[k]? = some d → σ (i + k) = none → fillL ds i (updS σ (i + k) v) a = (fillL ds i σ a).put d v
  | [], _, _, _, _, _, h, _ => by simp at h
  | e :: r, i, 0, a, d, hp, h, hn => by
    simp only [List.getElem?_cons_zero, Option.some.injEq] at h
    subst h
    simp only [Nat.add_zero] at hn ⊢
    obtain ⟨h1, h2⟩ := List.pairwise_cons.1 hp
    unfold fillL
    rw [hn]
    simp only [updS, if_true]
    rw [fill_put r (i + 1) a fun e' he x hx hd => (h1 e' he x hd) hx]
    exact fill_congr r (i + 1) _ fun k h1 _ => by unfold updS; rw [if_neg (by omega)]
  | e :: r, i, k + 1, a, d, hp, h, hn => by
    obtain ⟨h1, h2⟩ := List.pairwise_cons.1 hp
    unfold fillL
    have e1 : i + (k + 1) = i + 1 + k := by omega
    rw [show updS σ (i + (k + 1)) v i = σ i from if_neg (by omega), e1]
    exact fill_upd r (i + 1) k _ d h2 (by simpa using h) (by rw [← e1]; exact hn)
theorem eval_put_same {a : Act} {s : Tmp} {v : Value} (h : s < a.tmps.size) : (a.put (some s) v).eval (.tmp s) = v := by simp [Act.put, Act.eval, h]
theorem eval_put_other {a : Act} {s : Tmp} {d : Option Tmp} {v : Value} (h : d ≠ some s) : (a.put d v).eval (.tmp s) = a.eval (.tmp s) := by
  cases d with
  | none => rfl
  | some x =>
    have : x ≠ s := fun e => h (e ▸ rfl)
    simp [Act.put, Act.eval, this]
theorem size_put {a : Act} {d : Option Tmp} {v : Value} : (a.put d v).tmps.size = a.tmps.size := by cases d <;> simp [Act.put]
theorem fill_other {σ : Nat → Option Value} {s : Tmp} : ∀ (ds : List (Option Tmp)) (i : Nat) (a : Act), (∀ d ∈ ds, d ≠ some s) → (fillL ds i σ a).eval (.tmp s) = a.eval (.tmp s)
  | [], _, _, _ => rfl
  | d :: r, i, a, h => by
    unfold fillL
    rw [fill_other r (i + 1) _ fun d' hd => h d' (List.mem_cons_of_mem _ hd)]
    cases σ i with
    | none => rfl
    | some v => exact eval_put_other (h d (List.mem_cons_self ..))
theorem fill_at {σ : Nat → Option Value} {s : Tmp} {v : Value} : ∀ (ds : List (Option Tmp)) (i k : Nat) (a : Act), ApartL ds → s < a.tmps.size → ds[k]? = some (some s) → σ (i + k) = some v → (fillL ds i σ a).eval (.tmp s) = v
  | [], _, _, _, _, _, h, _ => by simp at h
  | e :: r, i, 0, a, hp, hs, h, hn => by
    simp only [List.getElem?_cons_zero, Option.some.injEq] at h
    subst h
    obtain ⟨h1, _⟩ := List.pairwise_cons.1 hp
    unfold fillL
    rw [fill_other r (i + 1) _ fun d hd => h1 d hd s rfl]
    simp only [Nat.add_zero] at hn
    rw [hn]
    exact eval_put_same hs
  | e :: r, i, k + 1, a, hp, hs, h, hn => by
    obtain ⟨_, h2⟩ := List.pairwise_cons.1 hp
    unfold fillL
    refine fill_at r (i + 1) k _ h2 ?_ (by simpa using h) (by rw [← hn]; congr 1; omega)
    cases σ i with
    | none => exact hs
    | some u => rw [size_put]; exact hs

theorem filter_less {p q : Nat → Bool} {j : Nat} (hp : p j = true) (hq : q j = false) (h : ∀ k, k ≠ j → q k = p k) : ∀ n, j < n → ((List.range n).filter p).length = ((List.range n).filter q).length + 1
  | 0, h0 => by omega
  | n + 1, hj => by
    rw [List.range_succ, List.filter_append, List.filter_append, List.length_append, List.length_append]
    by_cases e : j = n
    · subst e
      have : (List.range j).filter q = (List.range j).filter p := List.filter_congr fun k hk => h k (by have := List.mem_range.1 hk; omega)
      rw [this]
      simp [hp, hq]
    · rw [filter_less hp hq h n (by omega)]
      have : q n = p n := h n (fun x => e x.symm)
      simp only [List.filter_cons, List.filter_nil, this]
      omega

section
variable {P : Program} {ops : Array Oper} {Q : Exit → Act → World → Prop}
/-- The slots that the operations write, in the order of the text. -/
def dstL (ops : Array Oper) : List (Option Tmp) := ops.toList.map (·.dst)
def factsB (ops : Array Oper) : Bool :=
  ((List.range ops.size).all fun j => match ops[j]? with
    | some o => o.guard.isNone && o.after.toList.all fun e => !Region.binds .any e || decide (e.on < j)
    | none => true)
def apartB (ops : Array Oper) : Bool := decide ((dstL ops).Pairwise fun d e => d = none ∨ d ≠ e)
theorem apart_spec (h : apartB ops = true) : ApartL (dstL ops) := (of_decide_eq_true h).imp fun k x hx e => by
  rcases k with k | k
  · rw [k] at hx; cases hx
  · exact k (hx.trans e.symm)
/-- Inv σ w: what is known when those operations have come up of which σ tells a value. -/
theorem region_inv {a0 : Act} {w0 : World} (Inv : (Nat → Option Value) → World → Prop) (hB : factsB ops = true) (hd : apartB ops = true) (h0 : Inv (fun _ => none) w0)
    (hstep : ∀ (j : Nat) (o : Oper), ops[j]? = some o → ∀ (σ : Nat → Option Value) (w : World) (A : Act), Inv σ w → σ j = none → (∀ i, waitsB .any ops 1 j i = true → ∃ v, σ i = some v) →
      (∀ s, ((dstL ops).all fun d => decide (d ≠ some s)) = true → A.tmps[s]?.getD undef = a0.tmps[s]?.getD undef) → (∀ k s v, (dstL ops)[k]? = some (some s) → s < a0.tmps.size → σ k = some v → A.tmps[s]?.getD undef = v) →
      Oper.wp P o A w (fun a' w' => ∃ v, a' = A.put o.dst v ∧ Inv (updS σ j v) w') Q)
    (hend : ∀ (σ : Nat → Option Value) (w : World), Inv σ w → (∀ k, k < ops.size → ∃ v, σ k = some v) → Q .normal (fillL (dstL ops) 0 σ a0) w) :
    wpAny P .any ops Q ops.size (Array.replicate ops.size false) a0 w0 := by
  have hlen : (dstL ops).length = ops.size := by simp [dstL]
  have spec : ∀ (j : Nat) (o : Oper), ops[j]? = some o → o.guard = none ∧ ∀ e ∈ o.after, Region.binds .any e = true → e.on < j := by
    intro j o hj
    have := List.all_eq_true.1 hB j (List.mem_range.2 (Array.getElem?_eq_some_iff.1 hj).1)
    rw [hj] at this
    simp only [Bool.and_eq_true, Option.isNone_iff_eq_none, List.all_eq_true] at this
    refine ⟨this.1, fun e he hb => ?_⟩
    have h2 := this.2 e (Array.mem_toList_iff.2 he)
    rw [hb] at h2
    simpa using h2
  have key : ∀ (n : Nat) (listed : Array Bool) (σ : Nat → Option Value) (w : World), listed.size = ops.size → (∀ j, j < ops.size → ((σ j).isSome = listed[j]?.getD false)) → Inv σ w →
      ((List.range ops.size).filter fun j => !(listed[j]?.getD false)).length = n → wpAny P .any ops Q n listed (fillL (dstL ops) 0 σ a0) w := by
    intro n
    induction n with
    | zero =>
      intro listed σ w hs hσ hm hc
      have hall : ∀ j, j < ops.size → listed[j]?.getD false = true := fun j hj => by
        have h1 := List.eq_nil_of_length_eq_zero hc
        rw [List.filter_eq_nil_iff] at h1
        have := h1 j (List.mem_range.2 hj)
        simpa using this
      refine ⟨?_, ?_⟩
      · rw [List.eq_nil_iff_forall_not_mem]
        intro j hj
        obtain ⟨h1, o, ho, _⟩ := mem_ready.1 hj
        have hlt := (Array.getElem?_eq_some_iff.1 ho).1
        have h2 := hall j hlt
        simp [hs, hlt] at h1 h2
        rw [h1] at h2
        cases h2
      · exact hend σ w hm fun k hk => by
          have h1 := hσ k hk
          rw [hall k hk] at h1
          exact Option.isSome_iff_exists.1 h1
    | succ n ih =>
      intro listed σ w hs hσ hm hc
      refine ⟨fun hnil => ?_, fun j hj => ?_⟩
      · exfalso
        have hall : ∀ j, j < ops.size → listed[j]?.getD false = true := fun j => by
          induction j using Nat.strongRecOn with
          | _ j ihj =>
            intro hlt
            cases hl : listed[j]?.getD false with
            | true => rfl
            | false =>
              exfalso
              have hmem : j ∈ Region.ready .any ops listed := by
                refine mem_ready.2 ⟨?_, ops[j], by simp [hlt], fun e he hb => ?_⟩
                · have : j < listed.size := by omega
                  simpa [this] using hl
                · have h1 := (spec j ops[j] (by simp [hlt])).2 e he hb
                  have h2 := ihj e.on h1 (by omega)
                  simpa using h2
              rw [hnil] at hmem
              cases hmem
        have : (List.range ops.size).filter (fun j => !(listed[j]?.getD false)) = [] := by
          rw [List.filter_eq_nil_iff]
          intro j hj
          rw [hall j (List.mem_range.1 hj)]
          simp
        rw [this] at hc
        simp at hc
      · obtain ⟨hun, o, ho, hall⟩ := mem_ready.1 hj
        have hlt := (Array.getElem?_eq_some_iff.1 ho).1
        have hjl : listed[j]?.getD false = false := by
          have : j < listed.size := by omega
          simpa [this] using hun
        have hnone : σ j = none := by
          have h1 := hσ j hlt
          rw [hjl] at h1
          simpa using h1
        have hdep : ∀ i, waitsB .any ops 1 j i = true → ∃ v, σ i = some v := fun i hw => by
          unfold waitsB at hw
          rw [ho] at hw
          simp only [waitsB, Bool.or_false, List.any_eq_true, Bool.and_eq_true, decide_eq_true_eq] at hw
          obtain ⟨e, he, hb, rfl⟩ := hw
          have he := Array.mem_toList_iff.1 he
          have h1 := (spec j o ho).2 e he hb
          have h2 := hσ e.on (by omega)
          have h3 : listed[e.on]?.getD false = true := by simpa using hall e he hb
          rw [h3] at h2
          exact Option.isSome_iff_exists.1 h2
        refine wpOp_plain ho (spec j o ho).1 (Oper.wp_mono ?_ (hstep j o ho σ w _ hm hnone hdep (fun s hs' => by simpa [Act.eval] using fill_other _ 0 a0 fun d hd' => of_decide_eq_true (List.all_eq_true.1 hs' d hd')) (fun k s v h1 h2 h3 => by simpa [Act.eval] using fill_at (dstL ops) 0 k a0 (apart_spec hd) h2 h1 (by rw [Nat.zero_add]; exact h3))))
        rintro a' w' ⟨v, rfl, r1⟩
        have hdj : (dstL ops)[j]? = some o.dst := by simp [dstL, ho]
        rw [← fill_upd (v := v) (dstL ops) 0 j a0 o.dst (apart_spec hd) hdj (by rw [Nat.zero_add]; exact hnone), Nat.zero_add]
        refine ih _ _ _ (by simp [hs]) (fun k hk => ?_) r1 ?_
        · by_cases e : k = j
          · subst e
            have : k < listed.size := by omega
            simp [updS, this]
          · rw [Array.getElem?_setIfInBounds_ne (fun x => e x.symm), ← hσ k hk]
            simp [updS, e]
        · have h1 := filter_less (p := fun k => !(listed[k]?.getD false)) (q := fun k => !((listed.setIfInBounds j true)[k]?.getD false)) (j := j) (by simp [hjl]) (by
            have : j < listed.size := by omega
            simp [this]) (fun k hk => by rw [Array.getElem?_setIfInBounds_ne (fun x => hk x.symm)]) ops.size hlt
          omega
  have hstart := key ops.size (Array.replicate ops.size false) (fun _ => none) w0 (by simp) (fun j hj => by simp [hj]) h0 (by
    have : (List.range ops.size).filter (fun j => !((Array.replicate ops.size false)[j]?.getD false)) = List.range ops.size := by
      rw [List.filter_eq_self]
      intro j hj
      simp [List.mem_range.1 hj]
    rw [this, List.length_range])
  have hfill : ∀ (ds : List (Option Tmp)) (i : Nat), fillL ds i (fun _ => none) a0 = a0 := by
    intro ds
    induction ds with
    | nil => intro i; rfl
    | cons d r ihr => intro i; exact ihr (i + 1)
  rw [hfill] at hstart
  exact hstart
end
end Go.Proofs.Ytpnihegmhalcfaa
