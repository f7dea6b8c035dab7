/-
  Symbols of a list; worlds behind a later one.
-/
import Derived.Test.YtgmkpncpcikecaaGram
import Derived.Test.YtgmkpncpcikecaaLate
namespace Go.Proofs.Ytgmkpncpcikecaa
open Go.RowKit
set_option maxHeartbeats 400000

theorem IsSyms.get {w : World} {b : Option Addr} {n cap : Nat} {l : List Sym} (h : IsSyms w (.slice b n cap) l) (k : Nat) (hk : k < l.length) :
    ∃ g o, b = some ⟨g, o, none⟩ ∧ SymOk l[k] ∧ Cells w g (o + k * 4) (symCells l[k]) := by
  obtain ⟨h1, a, c, hv, hc, hm, hx⟩ := h
  simp only [Value.slice.injEq] at hv
  obtain ⟨rfl, rfl, rfl⟩ := hv
  rcases hx with rfl | ⟨g, o, rfl, hx⟩
  · simp at hk
  · exact ⟨g, o, rfl, (hx k hk).1, (hx k hk).2⟩
theorem After.up {w1 w2 : World} (p : After w2) (h : Below w1.heap.size w1 w2) : Below w1.heap.size w1 p.w := h.trans (p.ok.mono h.size)
def After.down {w1 w2 : World} (p : After w2) (h : Below w1.heap.size w1 w2) : After w1 := ⟨p.w, p.up h⟩
theorem after_alloc {w1 : World} {a : Addr} {v : Value} (h : ∀ p : After w1, p.w.cell? a = some v) : ∀ (p : After w1) (ob : Obj), (p.w.alloc ob).cell? a = some v :=
  fun p ob => (Fr.alloc (ch := nothing) p.w ob).cell (h p) fun e => e
theorem after_alloc2 {w1 : World} {a : Addr} {v : Value} (h : ∀ p : After w1, p.w.cell? a = some v) : ∀ (p : After w1) (ob ob' : Obj), ((p.w.alloc ob).alloc ob').cell? a = some v :=
  fun p ob ob' => (Fr.alloc (ch := nothing) _ ob').cell (after_alloc h p ob) fun e => e
end Go.Proofs.Ytgmkpncpcikecaa
