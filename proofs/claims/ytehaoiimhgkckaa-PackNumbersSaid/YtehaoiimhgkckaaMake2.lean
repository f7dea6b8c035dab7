/-
  Package symbols: the maker in memory; term.
-/
import Derived.Test.YtehaoiimhgkckaaMake1
import Derived.Test.YtehaoiimhgkckaaOwn
import Derived.Test.YtehaoiimhgkckaaMap
namespace Go.Proofs.Ytehaoiimhgkckaa
open Go.RowKit Go.MapKept Go.ChangeMaps
set_option maxHeartbeats 400000

/-- A maker. -/
structure Mst where
  terms : Int
  syms : List Sym
  prods : List Prd
  tm : List (ByteArray × Int)
  rm : List (ByteArray × Int)
  named : List Sym
  level : Int
  start : ByteArray
def mapKV (l : List (ByteArray × Int)) : List (Value × Value) := l.map fun x => (.string x.1, .int .i64 x.2)
def mkO (M : Mst) (sv pv nv : Value) (tb rb : Nat) : Obj := .cells #[.int .i64 M.terms, sv, pv, .map (some tb), .map (some rb), nv, .int .i64 M.level, .string M.start] 106 (0, 0)
/-- Where a maker lies. -/
structure Mem (w : World) (B mb : Nat) (M : Mst) (sv pv nv : Value) (tb rb : Nat) : Prop where
  obj : w.heap[mb]? = some (mkO M sv pv nv tb rb)
  syms : w.ownsRow B 65 4 sv M.syms.length (M.syms.flatMap symCells)
  named : w.ownsRow B 65 4 nv M.named.length (M.named.flatMap symCells)
  prods : ∃ xs : List (Prd × Value), xs.map Prod.fst = M.prods ∧ w.ownsRow B 62 6 pv xs.length (xs.flatMap cellsP) ∧ ∀ x ∈ xs, w.ownsRow B 3 1 x.2 x.1.right.length (x.1.right.map (Value.int .i64))
  tm : IsMap w .string tb (mapKV M.tm)
  rm : IsMap w .string rb (mapKV M.rm)
  sep : ∀ g, sv.ownBlock = some g → nv.ownBlock = some g → False
  far : B ≤ mb ∧ B ≤ tb ∧ B ≤ rb ∧ tb ≠ rb
def findN? (l : List (ByteArray × Int)) (s : ByteArray) : Option Int := (l.find? fun x => x.1 = s).map Prod.snd
theorem find_some {l : List (ByteArray × Int)} {s : ByteArray} {n : Int} (h : findN? l s = some n) : (s, n) ∈ l := by
  unfold findN? at h
  obtain ⟨x, h1, rfl⟩ := Option.map_eq_some_iff.1 h
  have h2 := List.find?_some h1
  simp only [decide_eq_true_eq] at h2
  rw [← h2]
  exact List.mem_of_find?_eq_some h1
theorem find_none {l : List (ByteArray × Int)} {s : ByteArray} (h : findN? l s = none) : ∀ x ∈ mapKV l, x.1 ≠ .string s := by
  unfold findN? at h
  rw [Option.map_eq_none_iff, List.find?_eq_none] at h
  intro x hx e
  obtain ⟨y, hy, rfl⟩ := List.mem_map.1 hx
  simp only [Value.string.injEq] at e
  exact h y hy (by simp [e])

/-- What the making of a grammar may turn of what was there: the maker, its maps, lists of symbols and of productions. -/
def chM (B mb tb rb : Nat) (w : World) (g : Nat) : Prop := g = mb ∨ g = tb ∨ g = rb ∨ (B ≤ g ∧ ∃ cs t f, w.heap[g]? = some (.cells cs t f) ∧ (t = 65 ∨ t = 62))
def FM (B mb tb rb : Nat) (w w' : World) : Prop := Fr (chM B mb tb rb w) w w'
theorem FM.trans {B mb tb rb : Nat} {a b c : World} (h : FM B mb tb rb a b) (k : FM B mb tb rb b c) : FM B mb tb rb a c := by
  refine ⟨k.os.trans h.os, k.tape.trans h.tape, k.output.trans h.output, Nat.le_trans h.size k.size, fun i hi hc => ?_⟩
  have h1 := h.block i hi hc
  refine (k.block i (Nat.lt_of_lt_of_le hi h.size) fun e => hc ?_).trans h1
  rcases e with e | e | e | ⟨e1, cs, t, f, e2, e3⟩
  · exact .inl e
  · exact .inr (.inl e)
  · exact .inr (.inr (.inl e))
  · exact .inr (.inr (.inr ⟨e1, cs, t, f, h1 ▸ e2, e3⟩))
theorem FM.of {B mb tb rb : Nat} {ch : Nat → Prop} {w w' : World} (h : Fr ch w w') (hc : ∀ g, g < w.heap.size → ch g → chM B mb tb rb w g) : FM B mb tb rb w w' := h.mono hc
theorem FM.new {B mb tb rb : Nat} {w w' : World} (h : Fr nothing w w') : FM B mb tb rb w w' := h.wide
theorem FM.below {B mb tb rb : Nat} {w w' : World} (h : FM B mb tb rb w w') (hB : B ≤ w.heap.size) (hf : B ≤ mb ∧ B ≤ tb ∧ B ≤ rb ∧ tb ≠ rb) : Below B w w' :=
  Fr.below h hB fun g e => by
    rcases e with e | e | e | e
    · omega
    · omega
    · omega
    · exact e.1
theorem FM.keep {B mb tb rb : Nat} {w w' : World} (h : FM B mb tb rb w w') {g : Nat} {cs : Array Value} {t : TypeId} {f : Nat × Nat} (hg : w.heap[g]? = some (.cells cs t f)) (hm : g ≠ mb) (ht : g ≠ tb) (hr : g ≠ rb) (h1 : t ≠ 65) (h2 : t ≠ 62) : w'.heap[g]? = some (.cells cs t f) := by
  refine Fr.obj h hg ?_
  rintro (e | e | e | ⟨_, cs2, t2, f2, e2, e3⟩)
  · exact hm e
  · exact ht e
  · exact hr e
  · rw [hg] at e2
    simp only [Option.some.injEq, Obj.cells.injEq] at e2
    obtain ⟨-, rfl, -⟩ := e2
    exact e3.elim h1 h2
/-- A map is no row of cells. -/
theorem map_ne {w : World} {d : TypeDesc} {b g : Nat} {kv : List (Value × Value)} {cs : Array Value} {t : TypeId} {f : Nat × Nat} (h : IsMap w d b kv) (hg : w.heap[g]? = some (.cells cs t f)) : g ≠ b := fun e => by
  obtain ⟨es, clock, h1, _⟩ := h
  rw [e, h1] at hg
  cases hg
theorem map_own {w : World} {d : TypeDesc} {b B e size n : Nat} {kv : List (Value × Value)} {v : Value} {xs : List Value} (h : IsMap w d b kv) (ho : w.ownsRow B e size v n xs) : v.ownBlock ≠ some b := fun hv => by
  obtain ⟨_, h2⟩ := ho
  rcases h2 with ⟨rfl, _⟩ | ⟨g, cap, cur, rfl, _, hg, _⟩
  · cases hv
  · simp only [Value.ownBlock, Option.some.injEq] at hv
    exact map_ne h hg hv
theorem own_kind {w : World} {B e size n : Nat} {v : Value} {xs : List Value} (h : w.ownsRow B e size v n xs) : ∀ g, v.ownBlock = some g → B ≤ g ∧ ∃ c fz, w.heap[g]? = some (.cells c e fz) := fun g hg => by
  rcases h.2 with ⟨rfl, _⟩ | ⟨g', cap, cur, rfl, hb, hgg, _⟩
  · cases hg
  · simp only [Value.ownBlock, Option.some.injEq] at hg
    subst hg
    exact ⟨hb, cur, (0, 0), hgg⟩
def Lies (w : World) (B mb tb rb : Nat) (M : Mst) : Prop := ∃ sv pv nv, Mem w B mb M sv pv nv tb rb
/-- What is one's own alone, or nothing, stays. -/
theorem Mem.new {w w' : World} {B mb : Nat} {M : Mst} {sv pv nv : Value} {tb rb : Nat} (h : Mem w B mb M sv pv nv tb rb) (f : Fr nothing w w') : Mem w' B mb M sv pv nv tb rb := by
  obtain ⟨h1, h2, h3, ⟨xs, h4, h5, h6⟩, h7, h8, h9, h10⟩ := h
  exact ⟨f.obj h1 fun e => e, own_fr h2 f fun _ _ e => e, own_fr h3 f fun _ _ e => e, ⟨xs, h4, own_fr h5 f fun _ _ e => e, fun x hx => own_fr (h6 x hx) f fun _ _ e => e⟩, h7.fr f fun e => e, h8.fr f fun e => e, h9, h10⟩
def addT (M : Mst) (s ty : ByteArray) : Mst := { M with syms := M.syms ++ [⟨s, ty, 0, 0⟩], tm := M.tm ++ [(s, (M.syms.length : Int))] }
end Go.Proofs.Ytehaoiimhgkckaa
