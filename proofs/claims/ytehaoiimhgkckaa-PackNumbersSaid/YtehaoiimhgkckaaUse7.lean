/-
  What the texts on lists of one's own want, for seats without package useless.
-/
import Derived.Test.YtehaoiimhgkckaaOwn
import Derived.Test.YtehaoiimhgkckaaUse1
namespace Go.Proofs.Ytehaoiimhgkckaa
open Go.RowKit
theorem own_base {w : World} {B B' e size n : Nat} {v : Value} {xs : List Value} (h : w.ownsRow B e size v n xs) (hb : B' ≤ B) : w.ownsRow B' e size v n xs := by
  obtain ⟨h1, h2⟩ := h
  refine ⟨h1, ?_⟩
  rcases h2 with h2 | ⟨g, cap, cur, hv, hg, rest⟩
  · exact .inl h2
  · exact .inr ⟨g, cap, cur, hv, Nat.le_trans hb hg, rest⟩
end Go.Proofs.Ytehaoiimhgkckaa
