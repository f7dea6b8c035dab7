/-
  DERIVED. GIVEN WITH THE SEED: THE CARDS: each row of YtlilegbdjnhfjaaGreatDoorRows.lean that lists a variable, with what it lists TIED to the program's text (the seventh form; the later family's looks); each row that meets fmt, with fmt's text TOLD by the authors' own Lean function (tested against real Go, not proved from fmt's source: count such statements apart). THE CARD IS WHAT COUNTS. Prove the row's statement (the work); the ties are given (YtlilegbdjnhfjaaGreatDoorTie.lean); close each card by the builder's one call (the guide's Derived/Test/ToyasCard.lean, 'card_holds'). Laid BY PROGRAM, IN A SANDBOX (cutbox-door.mjs). By AI agents, Wed Nov 11 2026. No macro, syntax, notation, axiom, sorry.
-/
import Derived.Test.YtlilegbdjnhfjaaGreatDoorRows
import GoSem.ClaimSeven
namespace Go.Proofs.YtlilegbdjnhfjaaGreatDoor
namespace Rows

/-- THE TIED CARD OF 'gristmilllaw17.BitsLives'. -/
def bitsLivesCard : Claim7 := { stood := { row := bitsLivesRow, standIns := [], harness := (true, "3a54422e132b3edaf039271134201e00938311c04f435bce119986df7c73da7d"), looks := true }, kinds := [], alts := [], laidByText := true, laidKinds := [.data], laidTests := true, laidLooks := .later }
def BitsLivesCardSaid : Prop := Claim7.holds Tryz.pinned (.plain (OpenSpec.ofChange bitsLivesSpec)) bitsLivesCard

/-- THE TIED CARD OF 'gristmilllaw17.BitsNumbers'. -/
def bitsNumbersCard : Claim7 := { stood := { row := bitsNumbersRow, standIns := [], harness := (true, "3a54422e132b3edaf039271134201e00938311c04f435bce119986df7c73da7d"), looks := true }, kinds := [], alts := [], laidByText := true, laidKinds := [.data], laidTests := true, laidLooks := .later }
def BitsNumbersCardSaid : Prop := Claim7.holds Tryz.pinned (.plain (OpenSpec.ofChange bitsNumbersSpec)) bitsNumbersCard

/-- THE SECOND FORM's CARD OF 'gristmilllaw17.BitsLives'. -/
def bitsLivesUptoCard : Claim7 := { stood := { row := bitsLivesUptoRow, standIns := [], harness := (true, "3a54422e132b3edaf039271134201e00938311c04f435bce119986df7c73da7d"), looks := true }, kinds := [], alts := [], laidByText := true, laidKinds := [.data], laidTests := true, laidLooks := .later }
def BitsLivesUptoCardSaid : Prop := Claim7.holds Tryz.pinned (.plain (OpenSpec.upto bitsLivesSpec)) bitsLivesUptoCard

/-- THE SECOND FORM's CARD OF 'gristmilllaw17.BitsNumbers'. -/
def bitsNumbersUptoCard : Claim7 := { stood := { row := bitsNumbersUptoRow, standIns := [], harness := (true, "3a54422e132b3edaf039271134201e00938311c04f435bce119986df7c73da7d"), looks := true }, kinds := [], alts := [], laidByText := true, laidKinds := [.data], laidTests := true, laidLooks := .later }
def BitsNumbersUptoCardSaid : Prop := Claim7.holds Tryz.pinned (.plain (OpenSpec.upto bitsNumbersSpec)) bitsNumbersUptoCard
end Rows
end Go.Proofs.YtlilegbdjnhfjaaGreatDoor
