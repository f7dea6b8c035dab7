/-
  A region that draws its order, whose callees may lay blocks of their own and turn nothing of what was there: walked once, in the order of the text. Over the kit's theorem for any class of worlds (Derived/Deep/Quiet.lean).
-/
import Derived.Test.YtgmkpncpcikecaaBase
namespace Go.Proofs.Ytgmkpncpcikecaa
open Go.RowKit

/-- A world in which all that stood in w1 stands still. -/
structure After (w1 : World) where
  w : World
  ok : Below w1.heap.size w1 w

theorem after_ne (w1 : World) : Nonempty (After w1) := ⟨⟨w1, Below.refl _ w1⟩⟩
theorem wp_region_after {P : Program} {id : Nat} {Q : Exit → Act → World → Prop} {a : Act} {w : World} {l : List Oper} (w1 : World) (hm : P.follows .mixedOrders = true) (hB : Region.lexB .any l.toArray = true) (h0 : Below w1.heap.size w1 w)
    (h : wpQuiet P l.toArray (fun w' => ∃ p : After w1, w' = p.w) (fun a' => ∀ w', (∃ p : After w1, w' = p.w) → Q .normal a' w') l a) : (Code.region id l.toArray true).wp P Q a w :=
  wp_region_quiet (C := fun w' => ∃ p : After w1, w' = p.w) hm hB ⟨⟨w.drew, h0.drew⟩, rfl⟩ (by simpa using h)

theorem after_call {P : Program} {f : FuncId} {args : Array Value} {w1 : World} {v : Value} (p : After w1) (h : Calls P f args p.w fun e w' => e = .returned v ∧ Below p.w.heap.size p.w w') :
    Calls P f args p.w fun e w'' => e = .returned v ∧ ∃ p' : After w1, w'' = p'.w :=
  h.mono fun _ _ ⟨he, hs⟩ => ⟨he, ⟨_, p.ok.trans (hs.mono p.ok.size)⟩, rfl⟩
theorem after_call_drew {P : Program} {f : FuncId} {args : Array Value} {w1 : World} {v : Value} (p : After w1) (h : Calls P f args p.w fun e w' => e = .returned v ∧ ∃ n, w' = p.w.drewN n) :
    Calls P f args p.w fun e w'' => e = .returned v ∧ ∃ p' : After w1, w'' = p'.w :=
  after_call p (h.mono fun _ _ ⟨he, n, hs⟩ => ⟨he, hs ▸ below_drewN (Below.refl _ _) n⟩)
theorem after_call_same {P : Program} {f : FuncId} {args : Array Value} {w1 : World} {v : Value} (p : After w1) (h : Calls P f args p.w fun e w' => e = .returned v ∧ p.w = w') :
    Calls P f args p.w fun e w'' => e = .returned v ∧ ∃ p' : After w1, w'' = p'.w :=
  after_call p (h.mono fun _ _ ⟨he, hs⟩ => ⟨he, hs ▸ Below.refl _ _⟩)
theorem after_cell {w1 : World} {a : Addr} {v : Value} (h : w1.cell? a = some v) : ∀ p : After w1, p.w.cell? a = some v := fun p => (Fr.new p.ok).cell h fun e => e
theorem after_obj {w1 : World} {b : Nat} {cs : Array Value} {t : TypeId} {f : Nat × Nat} (h : w1.heap[b]? = some (.cells cs t f)) (i : Nat) {v : Value} (hv : cs[i]? = some v) : ∀ p : After w1, p.w.cell? ⟨b, i, none⟩ = some v :=
  after_cell (by simp [World.cell?, h, hv])
end Go.Proofs.Ytgmkpncpcikecaa
