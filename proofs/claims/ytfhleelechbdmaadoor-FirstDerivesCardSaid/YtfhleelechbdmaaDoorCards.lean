/-
  DERIVED. GIVEN WITH THE SEED: THE CARDS: each row of YtfhleelechbdmaaDoorRows.lean that lists a variable, with what it lists TIED to the program's text (the seventh form; the later family's looks); each row that meets fmt, with fmt's text TOLD by the authors' own Lean function (tested against real Go, not proved from fmt's source: count such statements apart). THE CARD IS WHAT COUNTS. Prove the row's statement (the work); the ties are given (YtfhleelechbdmaaDoorTie.lean); close each card by the builder's one call (the guide's Derived/Test/ToyasCard.lean, 'card_holds'). Laid BY PROGRAM, IN A SANDBOX (cutbox-door.mjs). By AI agents, Wed Nov 11 2026. No macro, syntax, notation, axiom, sorry.
-/
import Derived.Test.YtfhleelechbdmaaDoorRows
import GoSem.ClaimSeven
namespace Go.Proofs.YtfhleelechbdmaaDoor
namespace Rows

/-- THE TIED CARD OF 'gristmilllaw18.FirstDerives'. -/
def firstDerivesCard : Claim7 := { stood := { row := firstDerivesRow, standIns := [], harness := (true, "7c336517d75e0d07aff62c96d9322827bfb0a71c6695cd2f04cbf9edb20c9bf9"), looks := true }, kinds := [], alts := [], laidByText := true, laidKinds := [.data], laidTests := true, laidLooks := .later }
def FirstDerivesCardSaid : Prop := Claim7.holds Tryd.pinned (.plain (OpenSpec.ofChange firstDerivesSpec)) firstDerivesCard

/-- THE SECOND FORM's CARD OF 'gristmilllaw18.FirstDerives'. -/
def firstDerivesUptoCard : Claim7 := { stood := { row := firstDerivesUptoRow, standIns := [], harness := (true, "7c336517d75e0d07aff62c96d9322827bfb0a71c6695cd2f04cbf9edb20c9bf9"), looks := true }, kinds := [], alts := [], laidByText := true, laidKinds := [.data], laidTests := true, laidLooks := .later }
def FirstDerivesUptoCardSaid : Prop := Claim7.holds Tryd.pinned (.plain (OpenSpec.upto firstDerivesSpec)) firstDerivesUptoCard
end Rows
end Go.Proofs.YtfhleelechbdmaaDoor
