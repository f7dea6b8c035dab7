/-
  Grammars: what they are in plain Lean, and how they lie in memory.
-/
import Derived.Test.YtgmkpncpcikecaaBase
namespace Go.Proofs.Ytgmkpncpcikecaa
open Go.RowKit
set_option maxHeartbeats 400000

/-- A symbol, a production, a grammar. -/
structure Sym where
  name : ByteArray
  type : ByteArray
  level : Int
  assoc : Int
structure Prd where
  left : Int
  right : List Int
  prec : Int
  has : Bool
  action : ByteArray
  whr : Int
structure Gram where
  terms : Int
  syms : List Sym
  prods : List Prd

def i64 (x : Int) : Prop := -9223372036854775808 ≤ x ∧ x ≤ 9223372036854775807
def symCells (s : Sym) : List Value := [.string s.name, .string s.type, .int .i64 s.level, .int .u8 s.assoc]
def symVal (s : Sym) : Value := .agg #[.string s.name, .string s.type, .int .i64 s.level, .int .u8 s.assoc]
def prdCells (p : Prd) (r : Value) : List Value := [.int .i64 p.left, r, .int .i64 p.prec, .bool p.has, .string p.action, .int .i64 p.whr]
def prdVal (p : Prd) (r : Value) : Value := .agg #[.int .i64 p.left, r, .int .i64 p.prec, .bool p.has, .string p.action, .int .i64 p.whr]
structure SymOk (s : Sym) : Prop where
  level : i64 s.level
  assoc : 0 ≤ s.assoc ∧ s.assoc ≤ 255
structure PrdOk (p : Prd) : Prop where
  left : i64 p.left
  prec : i64 p.prec
  whr : i64 p.whr

/-- A slice value whose elements, of so many cells each, are as told. -/
def Rows' {α : Type} (v : Value) (size : Nat) (at_ : Nat → Nat → α → Prop) (l : List α) : Prop :=
  l.length ≤ 17592186044416 ∧ ∃ a cap, v = .slice a l.length cap ∧ l.length ≤ cap ∧ cap ≤ maxLen ∧
    (l = [] ∨ ∃ b o, a = some ⟨b, o, none⟩ ∧ ∀ i, (h : i < l.length) → at_ b (o + i * size) l[i])
def SymAt (w : World) (b o : Nat) (s : Sym) : Prop := SymOk s ∧ Cells w b o (symCells s)
def PrdAt (w : World) (b o : Nat) (p : Prd) : Prop := PrdOk p ∧ ∃ r, Ints w r p.right ∧ Cells w b o (prdCells p r)
def IsSyms (w : World) (v : Value) (l : List Sym) : Prop := Rows' v 4 (SymAt w) l
def IsPrds (w : World) (v : Value) (l : List Prd) : Prop := Rows' v 6 (PrdAt w) l
def IsPrd (w : World) (v : Value) (p : Prd) : Prop := PrdOk p ∧ ∃ r, Ints w r p.right ∧ v = prdVal p r
def IsGram (w : World) (v : Value) (G : Gram) : Prop := i64 G.terms ∧ ∃ s p, v = .agg #[.int .i64 G.terms, s, p] ∧ IsSyms w s G.syms ∧ IsPrds w p G.prods

theorem Rows'.mono {α : Type} {v : Value} {size : Nat} {p q : Nat → Nat → α → Prop} {l : List α} (h : Rows' v size p l) (hpq : ∀ b o x, p b o x → q b o x) : Rows' v size q l := by
  obtain ⟨h1, a, cap, hv, hc, hm, hx⟩ := h
  refine ⟨h1, a, cap, hv, hc, hm, ?_⟩
  rcases hx with hx | ⟨b, o, ha, hx⟩
  · exact .inl hx
  · exact .inr ⟨b, o, ha, fun i hi => hpq _ _ _ (hx i hi)⟩
theorem SymAt.fr {w w' : World} {b o : Nat} {s : Sym} (h : SymAt w b o s) (k : Fr nothing w w') : SymAt w' b o s := ⟨h.1, h.2.fr k fun e => e⟩
theorem PrdAt.fr {w w' : World} {b o : Nat} {s : Prd} (h : PrdAt w b o s) (k : Fr nothing w w') : PrdAt w' b o s := by
  obtain ⟨h1, r, hr, hc⟩ := h
  exact ⟨h1, r, hr.fr k, hc.fr k fun e => e⟩
theorem IsSyms.fr {w w' : World} {v : Value} {l : List Sym} (h : IsSyms w v l) (k : Fr nothing w w') : IsSyms w' v l := Rows'.mono h fun _ _ _ h => h.fr k
theorem IsPrds.fr {w w' : World} {v : Value} {l : List Prd} (h : IsPrds w v l) (k : Fr nothing w w') : IsPrds w' v l := Rows'.mono h fun _ _ _ h => h.fr k
theorem IsPrd.fr {w w' : World} {v : Value} {p : Prd} (h : IsPrd w v p) (k : Fr nothing w w') : IsPrd w' v p := by
  obtain ⟨h1, r, hr, hc⟩ := h
  exact ⟨h1, r, hr.fr k, hc⟩
theorem IsGram.fr {w w' : World} {v : Value} {G : Gram} (h : IsGram w v G) (k : Fr nothing w w') : IsGram w' v G := by
  obtain ⟨h1, s, p, hv, hs, hp⟩ := h
  exact ⟨h1, s, p, hv, hs.fr k, hp.fr k⟩

theorem obj_cell {w : World} {b : Nat} {cs : Array Value} {t : TypeId} {f : Nat × Nat} (h : w.heap[b]? = some (.cells cs t f)) (i : Nat) {v : Value} (hv : cs[i]? = some v) : w.cell? ⟨b, i, none⟩ = some v := by
  simp [World.cell?, h, hv]
theorem alloc_obj (w : World) (o : Obj) : (w.alloc o).heap[w.heap.size]? = some o := (MapKept.heap_alloc w o).1
theorem two_boxes (w : World) (o1 o2 : Obj) : ((w.alloc o1).alloc o2).heap[w.heap.size]? = some o1 ∧ ((w.alloc o1).alloc o2).heap[w.heap.size + 1]? = some o2 ∧ Below w.heap.size w ((w.alloc o1).alloc o2) := by
  have hs : (w.alloc o1).heap.size = w.heap.size + 1 := by simp
  refine ⟨(Below.heap_alloc _ _ _ (by omega)).trans (alloc_obj w o1), ?_, ((Below.refl _ w).alloc (Nat.le_refl _) _).alloc (by omega) _⟩
  have := alloc_obj (w.alloc o1) o2
  rwa [hs] at this
theorem keep_obj {w w' : World} {k : Nat} {o : Obj} (h : w.heap[k]? = some o) (hb : Below w.heap.size w w') : w'.heap[k]? = some o := (Fr.new hb).obj h fun e => e
theorem keep_cells {w w' : World} {b o : Nat} {vs : List Value} (h : Cells w b o vs) (hb : Below w.heap.size w w') : Cells w' b o vs := h.fr (Fr.new hb) fun e => e

/-! Names that may stand there. -/
def nInt : ByteArray := ⟨#[105, 110, 116]⟩
def nBool : ByteArray := ⟨#[98, 111, 111, 108]⟩
def nString : ByteArray := ⟨#[115, 116, 114, 105, 110, 103]⟩
def nFloat : ByteArray := ⟨#[102, 108, 111, 97, 116, 54, 52]⟩
def nEnd : ByteArray := ⟨#[36, 101, 110, 100]⟩
def nAccept : ByteArray := ⟨#[36, 97, 99, 99, 101, 112, 116]⟩
def nNone : ByteArray := ⟨#[]⟩
def typedG (s : ByteArray) : Bool := decide (s = nInt) || (decide (s = nBool) || (decide (s = nString) || decide (s = nFloat)))

/-! Right: P14.3, as the code has it. -/
def rightRow (terms n : Int) (l : List Int) : Bool := l.all fun s => !(decide (s < 1) || (decide (n ≤ s) || decide (s = terms)))
def rightSide (terms n : Int) (l : List Int) : Bool := rightRow terms n l && decide (l.length ≤ 10)
def firstG (terms n : Int) (p : Prd) : Bool :=
  decide (p.left = terms) && (decide (p.right.length = 1) && (rightSide terms n p.right && (decide (terms < p.right.headD 0) && (decide (p.prec = -1) && (!p.has && (decide (p.action = nNone) && decide (p.whr = 0)))))))
def prodG (terms n : Int) (p : Prd) : Bool :=
  !(decide (p.left ≤ terms) || (decide (n ≤ p.left) || !rightSide terms n p.right)) &&
  (!((!decide (p.prec = -1) && (decide (p.prec < 1) || decide (terms ≤ p.prec))) || decide (p.whr < 0)) &&
  (p.has || (decide (p.action = nNone) && decide (p.whr = 0))))

/-- The test of a text against a written one, as the walk spells it. -/
theorem str_lit (s : ByteArray) (l : List UInt8) : (s.toList == l) = decide (s = ⟨⟨l⟩⟩) := by
  rw [ByteArray.toList_eq]
  by_cases e : s = ⟨⟨l⟩⟩
  · simp [e]
  · have : ¬ s.data.toList = l := fun h => e (by cases s with | mk d => cases d with | mk m => simp at h; rw [h])
    simp [e, this]
theorem str_ilit (s : ByteArray) (l : List UInt8) (b : Bool) (h : decide (s = ⟨⟨l⟩⟩) = b) : (s.toList == l) = b := (str_lit s l).trans h
theorem str_nlit (s : ByteArray) (l : List UInt8) (b : Bool) (h : decide (s = ⟨⟨l⟩⟩) = b) : (s.toList != l) = !b := by
  rw [bne, str_ilit s l b h]

set_option maxRecDepth 100000 in
theorem typed_any (s : ByteArray) (w : World) : Calls Try.prog 45 #[.string s] w fun e w' => e = .returned (.bool (typedG s)) ∧ w = w' := by
  unfold typedG nInt nBool nString nFloat
  generalize e1 : decide (s = ⟨#[105, 110, 116]⟩) = b1
  generalize e2 : decide (s = ⟨#[98, 111, 111, 108]⟩) = b2
  generalize e3 : decide (s = ⟨#[115, 116, 114, 105, 110, 103]⟩) = b3
  generalize e4 : decide (s = ⟨#[102, 108, 111, 97, 116, 54, 52]⟩) = b4
  have h1 := str_ilit s _ _ e1
  have h2 := str_ilit s _ _ e2
  have h3 := str_ilit s _ _ e3
  have h4 := str_ilit s _ _ e4
  clear e1 e2 e3 e4
  cases b1
  · cases b2
    · cases b3
      · cases b4
        all_goals
          go_enter Try.func45, Try.ntmps45
          go_wp2
          go_ret
          exact ⟨rfl, rfl⟩
      · go_enter Try.func45, Try.ntmps45
        go_wp2
        go_ret
        exact ⟨rfl, rfl⟩
    · go_enter Try.func45, Try.ntmps45
      go_wp2
      go_ret
      exact ⟨rfl, rfl⟩
  · go_enter Try.func45, Try.ntmps45
    go_wp2
    go_ret
    exact ⟨rfl, rfl⟩
end Go.Proofs.Ytgmkpncpcikecaa
