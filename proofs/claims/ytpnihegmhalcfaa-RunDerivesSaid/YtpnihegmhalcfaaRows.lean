/-
  No cell of these rows narrows 'for every input' (looked for: loops, veiled, ifaces, maps, wideKeys, modest, calm, conditions, laid).
  DERIVED. THE GIVEN ROWS OF THIS SEAT. 4 by the template 'for every input the law returns true; each argument reads behind the call as it read before'; 0 by the template 'total and deterministic' (their statements: YtpnihegmhalcfaaTotals.lean).
  GIVEN WITH THE SEED: the statements are not yours to turn. If you find one false, say at which input.
  Laid BY PROGRAM, IN A SANDBOX (cutbox-rows.mjs): the forced cells as the released guide's own fill.sh prints them over the translation 9b73bac11c86da9b… (all of the seat's roots in one cut). By AI agents, Wed Nov 11 2026. No macro, syntax, notation, axiom, sorry.
-/
import Derived.Test.YtpnihegmhalcfaaChecked
import GoSem.Claim
import GoSem.ClaimJoined
import GoSem.ClaimMapViews
import Derived.JoinedTies
import Derived.KernelRfl
namespace Go.Proofs.Ytpnihegmhalcfaa
/- THE CELL 'sum', in the pinned program and in every row, IS THE sha256 OF THE DUMP (.gsa) THAT YtpnihegmhalcfaaProg.lean LOADS. Nothing in Lean hashes anything: it is a label: what it is worth is what the hold of that sum in a sandbox is worth. -/
noncomputable def Try.pinned : Pinned := { name := "ytpnihegmhalcfaa", sum := "9b73bac11c86da9ba3fd77df8dbe8a3e67619f86e8fa2609aadf7ee53f0f82fb", checked := Try.checked }
namespace Rows
def none {H : Type} : Left H := { results := [], args := [] }

/-- 'gristmilllaw25.RunTables': WHATEVER THE INPUT: true; the input reads as it did. -/
def runTablesSpec : ChangeSpec := { name := "runTables", fn := fun _ => fun
  | [d1, d2, d3] => { results := [.lit (.bool true)], args := [d1, d2, d3] }
  | _ => none }
def runTablesRow : OpenClaim := { program := "ytpnihegmhalcfaa", sum := "9b73bac11c86da9ba3fd77df8dbe8a3e67619f86e8fa2609aadf7ee53f0f82fb", func := "gristmill/gristmilllaw25.RunTables", spec := "runTables", unfollowed := true, recurses := true, apart := false }
def RunTablesSaid : Prop := runTablesRow.holds Try.pinned (OpenSpec.ofChange runTablesSpec)

/-- ITS FALSE NEIGHBOUR: 'it returns false'. Refute it at one input. -/
def runTablesWrong : ChangeSpec := { name := "runTables", fn := fun _ => fun
  | [d1, d2, d3] => { results := [.lit (.bool false)], args := [d1, d2, d3] }
  | _ => none }
def RunTablesWrongFalsely : Prop := runTablesRow.holds Try.pinned (OpenSpec.ofChange runTablesWrong)

/-- 'gristmilllaw25.RunGrammars': WHATEVER THE INPUT: true; the input reads as it did. -/
def runGrammarsSpec : ChangeSpec := { name := "runGrammars", fn := fun _ => fun
  | [d1, d2] => { results := [.lit (.bool true)], args := [d1, d2] }
  | _ => none }
def runGrammarsRow : OpenClaim := { program := "ytpnihegmhalcfaa", sum := "9b73bac11c86da9ba3fd77df8dbe8a3e67619f86e8fa2609aadf7ee53f0f82fb", func := "gristmill/gristmilllaw25.RunGrammars", spec := "runGrammars", unfollowed := true, recurses := true, apart := false }
def RunGrammarsSaid : Prop := runGrammarsRow.holds Try.pinned (OpenSpec.ofChange runGrammarsSpec)

/-- ITS FALSE NEIGHBOUR: 'it returns false'. Refute it at one input. -/
def runGrammarsWrong : ChangeSpec := { name := "runGrammars", fn := fun _ => fun
  | [d1, d2] => { results := [.lit (.bool false)], args := [d1, d2] }
  | _ => none }
def RunGrammarsWrongFalsely : Prop := runGrammarsRow.holds Try.pinned (OpenSpec.ofChange runGrammarsWrong)

/-- 'gristmilllaw25.RunDerives': WHATEVER THE INPUT: true; the input reads as it did. -/
def runDerivesSpec : ChangeSpec := { name := "runDerives", fn := fun _ => fun
  | [d1, d2] => { results := [.lit (.bool true)], args := [d1, d2] }
  | _ => none }
def runDerivesRow : OpenClaim := { program := "ytpnihegmhalcfaa", sum := "9b73bac11c86da9ba3fd77df8dbe8a3e67619f86e8fa2609aadf7ee53f0f82fb", func := "gristmill/gristmilllaw25.RunDerives", spec := "runDerives", unfollowed := true, recurses := true, apart := false }
def RunDerivesSaid : Prop := runDerivesRow.holds Try.pinned (OpenSpec.ofChange runDerivesSpec)

/-- ITS FALSE NEIGHBOUR: 'it returns false'. Refute it at one input. -/
def runDerivesWrong : ChangeSpec := { name := "runDerives", fn := fun _ => fun
  | [d1, d2] => { results := [.lit (.bool false)], args := [d1, d2] }
  | _ => none }
def RunDerivesWrongFalsely : Prop := runDerivesRow.holds Try.pinned (OpenSpec.ofChange runDerivesWrong)

/-- 'gristmilllaw25.RunAhead': WHATEVER THE INPUT: true; the input reads as it did. -/
def runAheadSpec : ChangeSpec := { name := "runAhead", fn := fun _ => fun
  | [d1, d2, d3] => { results := [.lit (.bool true)], args := [d1, d2, d3] }
  | _ => none }
def runAheadRow : OpenClaim := { program := "ytpnihegmhalcfaa", sum := "9b73bac11c86da9ba3fd77df8dbe8a3e67619f86e8fa2609aadf7ee53f0f82fb", func := "gristmill/gristmilllaw25.RunAhead", spec := "runAhead", unfollowed := true, recurses := true, apart := false }
def RunAheadSaid : Prop := runAheadRow.holds Try.pinned (OpenSpec.ofChange runAheadSpec)

/-- ITS FALSE NEIGHBOUR: 'it returns false'. Refute it at one input. -/
def runAheadWrong : ChangeSpec := { name := "runAhead", fn := fun _ => fun
  | [d1, d2, d3] => { results := [.lit (.bool false)], args := [d1, d2, d3] }
  | _ => none }
def RunAheadWrongFalsely : Prop := runAheadRow.holds Try.pinned (OpenSpec.ofChange runAheadWrong)

/- THE SECOND FORM. 'bulk': how many values and letters a reading holds, each counted each time it is reached (what is shared counts as often as it is met; a slice's spare places count too). A statement '..UptoSaid' is the law's where the arguments, and the package variables that the reading takes, are together of bulk at most 1048576: NARROWER than '..Said'. Prove '..Said' where nothing that the law and all that it calls make is longer than what came in: it says more and counts as full. Else prove '..UptoSaid'. A law counts once. -/
mutual
def uptoBulk {H : Type} : DataW H → Nat
  | .lit (.string bytes) => bytes.length + 1
  | .lit _ => 1
  | .nil => 1
  | .ptr d => uptoBulk d + 1
  | .slice elems spare => uptoBulkAll elems + uptoBulkAll spare + 1
  | .agg parts => uptoBulkAll parts + 1
  | .iface _ d => uptoBulk d + 1
  | .map entries => uptoBulkEntries entries + 1
  | .held _ => 1
def uptoBulkAll {H : Type} : List (DataW H) → Nat
  | [] => 0
  | d :: r => uptoBulk d + uptoBulkAll r
def uptoBulkEntries {H : Type} : List (Lit × DataW H) → Nat
  | [] => 0
  | x :: r => uptoBulkEntry x + uptoBulkEntries r
def uptoBulkEntry {H : Type} : Lit × DataW H → Nat
  | (.string bytes, d) => bytes.length + uptoBulk d + 1
  | (_, d) => uptoBulk d + 1
 end
def uptoSmall : (H : Type) → List (DataW H) → Bool := fun _ ds => decide (uptoBulkAll ds ≤ 1048576)
def OpenSpec.upto (s : _root_.Go.ChangeSpec) : _root_.Go.OpenSpec := { _root_.Go.OpenSpec.ofChange s with cond := some uptoSmall }

/-- 'gristmilllaw25.RunTables', WHERE WHAT IT READS IS OF BULK AT MOST 1048576: true; the input reads as it did. -/
def runTablesUptoRow : OpenClaim := { program := "ytpnihegmhalcfaa", sum := "9b73bac11c86da9ba3fd77df8dbe8a3e67619f86e8fa2609aadf7ee53f0f82fb", func := "gristmill/gristmilllaw25.RunTables", spec := "runTables", unfollowed := true, recurses := true, apart := false, narrowed := true }
def RunTablesUptoSaid : Prop := runTablesUptoRow.holds Try.pinned (OpenSpec.upto runTablesSpec)

/-- 'gristmilllaw25.RunGrammars', WHERE WHAT IT READS IS OF BULK AT MOST 1048576: true; the input reads as it did. -/
def runGrammarsUptoRow : OpenClaim := { program := "ytpnihegmhalcfaa", sum := "9b73bac11c86da9ba3fd77df8dbe8a3e67619f86e8fa2609aadf7ee53f0f82fb", func := "gristmill/gristmilllaw25.RunGrammars", spec := "runGrammars", unfollowed := true, recurses := true, apart := false, narrowed := true }
def RunGrammarsUptoSaid : Prop := runGrammarsUptoRow.holds Try.pinned (OpenSpec.upto runGrammarsSpec)

/-- 'gristmilllaw25.RunDerives', WHERE WHAT IT READS IS OF BULK AT MOST 1048576: true; the input reads as it did. -/
def runDerivesUptoRow : OpenClaim := { program := "ytpnihegmhalcfaa", sum := "9b73bac11c86da9ba3fd77df8dbe8a3e67619f86e8fa2609aadf7ee53f0f82fb", func := "gristmill/gristmilllaw25.RunDerives", spec := "runDerives", unfollowed := true, recurses := true, apart := false, narrowed := true }
def RunDerivesUptoSaid : Prop := runDerivesUptoRow.holds Try.pinned (OpenSpec.upto runDerivesSpec)

/-- 'gristmilllaw25.RunAhead', WHERE WHAT IT READS IS OF BULK AT MOST 1048576: true; the input reads as it did. -/
def runAheadUptoRow : OpenClaim := { program := "ytpnihegmhalcfaa", sum := "9b73bac11c86da9ba3fd77df8dbe8a3e67619f86e8fa2609aadf7ee53f0f82fb", func := "gristmill/gristmilllaw25.RunAhead", spec := "runAhead", unfollowed := true, recurses := true, apart := false, narrowed := true }
def RunAheadUptoSaid : Prop := runAheadUptoRow.holds Try.pinned (OpenSpec.upto runAheadSpec)

end Rows
end Go.Proofs.Ytpnihegmhalcfaa
