/-
  A grammar that came in, in a variable's place.
-/
import Derived.Test.YtgmkpncpcikecaaGram2
namespace Go.Proofs.Ytgmkpncpcikecaa
open Go.RowKit
set_option maxHeartbeats 400000

def grO (G : Gram) (sa pa : Option Addr) (sc pc : Nat) : Obj := .cells #[.int .i64 G.terms, .slice sa G.syms.length sc, .slice pa G.prods.length pc] 25 (0, 0)
def grV (G : Gram) (sa pa : Option Addr) (sc pc : Nat) : Value := .agg #[.int .i64 G.terms, .slice sa G.syms.length sc, .slice pa G.prods.length pc]
/-- The grammar that came in, in a variable's place. -/
structure Stands (B : Nat) (w0 : World) (G : Gram) (sa pa : Option Addr) (sc pc : Nat) (w : World) : Prop where
  obj : w.heap[B]? = some (grO G sa pa sc pc)
  gram : IsGram w (grV G sa pa sc pc) G
  below : Below w0.heap.size w0 w
theorem Stands.keep {B : Nat} {w0 w w' : World} {G : Gram} {sa pa : Option Addr} {sc pc : Nat} (h : Stands B w0 G sa pa sc pc w) (hb : Below w.heap.size w w') : Stands B w0 G sa pa sc pc w' :=
  ⟨(Fr.new hb).obj h.obj fun e => e, h.gram.fr (Fr.new hb), h.below.trans (hb.mono h.below.size)⟩
theorem Stands.wide {ch : Nat → Prop} {w0 w w' : World} {G : Gram} {sa pa : Option Addr} {sc pc : Nat} (h : Stands w0.heap.size w0 G sa pa sc pc w) (hG : IsGram w0 (grV G sa pa sc pc) G) (k : Fr ch w w') (hc : ∀ g, ch g → w0.heap.size < g) : Stands w0.heap.size w0 G sa pa sc pc w' := by
  have hb := h.below.trans (k.below h.below.size fun g e => Nat.le_of_lt (hc g e))
  exact ⟨k.obj h.obj fun e => by have := hc _ e; omega, hG.fr (Fr.new hb), hb⟩
theorem Stands.d0 {B : Nat} {w0 w : World} {G : Gram} {sa pa : Option Addr} {sc pc : Nat} (h : Stands B w0 G sa pa sc pc w) : w.cell? ⟨B, 0, none⟩ = some (.int .i64 G.terms) := obj_cell h.obj 0 rfl
theorem Stands.d1 {B : Nat} {w0 w : World} {G : Gram} {sa pa : Option Addr} {sc pc : Nat} (h : Stands B w0 G sa pa sc pc w) : w.cell? ⟨B, 1, none⟩ = some (.slice sa G.syms.length sc) := obj_cell h.obj 1 rfl
theorem Stands.d2 {B : Nat} {w0 w : World} {G : Gram} {sa pa : Option Addr} {sc pc : Nat} (h : Stands B w0 G sa pa sc pc w) : w.cell? ⟨B, 2, none⟩ = some (.slice pa G.prods.length pc) := obj_cell h.obj 2 rfl
end Go.Proofs.Ytgmkpncpcikecaa
