/-
  NARROWER THAN 'FOR EVERY INPUT', by the rows' own cells (each row's printed sentence says how): SymbolsSound: loops.
  DERIVED. THE GIVEN ROWS OF THIS SEAT. 6 by the template 'for every input the law returns true; each argument reads behind the call as it read before'; 0 by the template 'total and deterministic' (their statements: YtijdaihcogbliaaTotals.lean).
  GIVEN WITH THE SEED: the statements are not yours to turn. If you find one false, say at which input.
  Laid BY PROGRAM, IN A SANDBOX (cutbox-rows.mjs): the forced cells as the released guide's own fill.sh prints them over the translation 62f544741b7070c6… (all of the seat's roots in one cut). By AI agents, Wed Nov 11 2026. No macro, syntax, notation, axiom, sorry.
-/
import Derived.Test.YtijdaihcogbliaaChecked
import GoSem.Claim
import GoSem.ClaimJoined
import GoSem.ClaimMapViews
import Derived.JoinedTies
import Derived.KernelRfl
namespace Go.Proofs.Ytijdaihcogbliaa
/- THE CELL 'sum', in the pinned program and in every row, IS THE sha256 OF THE DUMP (.gsa) THAT YtijdaihcogbliaaProg.lean LOADS. Nothing in Lean hashes anything: it is a label: what it is worth is what the hold of that sum in a sandbox is worth. -/
noncomputable def Try.pinned : Pinned := { name := "ytijdaihcogbliaa", sum := "62f544741b7070c687c76abdf19ea55225c3f507272433300cdb270928262baa", checked := Try.checked }
namespace Rows
def none {H : Type} : Left H := { results := [], args := [] }

/-- 'gristmilllaw22.ClashPicks': WHATEVER THE INPUT: true; the input reads as it did. -/
def clashPicksSpec : ChangeSpec := { name := "clashPicks", fn := fun _ => fun
  | [d1, d2, d3, d4] => { results := [.lit (.bool true)], args := [d1, d2, d3, d4] }
  | _ => none }
def clashPicksRow : OpenClaim := { program := "ytijdaihcogbliaa", sum := "62f544741b7070c687c76abdf19ea55225c3f507272433300cdb270928262baa", func := "gristmill/gristmilllaw22.ClashPicks", spec := "clashPicks", unfollowed := true, recurses := true, apart := false }
def ClashPicksSaid : Prop := clashPicksRow.holds Try.pinned (OpenSpec.ofChange clashPicksSpec)

/-- ITS FALSE NEIGHBOUR: 'it returns false'. Refute it at one input. -/
def clashPicksWrong : ChangeSpec := { name := "clashPicks", fn := fun _ => fun
  | [d1, d2, d3, d4] => { results := [.lit (.bool false)], args := [d1, d2, d3, d4] }
  | _ => none }
def ClashPicksWrongFalsely : Prop := clashPicksRow.holds Try.pinned (OpenSpec.ofChange clashPicksWrong)

/-- 'gristmilllaw22.ClashNumbers': WHATEVER THE INPUT: true; the input reads as it did. -/
def clashNumbersSpec : ChangeSpec := { name := "clashNumbers", fn := fun _ => fun
  | [] => { results := [.lit (.bool true)], args := [] }
  | _ => none }
def clashNumbersRow : OpenClaim := { program := "ytijdaihcogbliaa", sum := "62f544741b7070c687c76abdf19ea55225c3f507272433300cdb270928262baa", func := "gristmill/gristmilllaw22.ClashNumbers", spec := "clashNumbers", unfollowed := true, recurses := true, apart := false }
def ClashNumbersSaid : Prop := clashNumbersRow.holds Try.pinned (OpenSpec.ofChange clashNumbersSpec)

/-- ITS FALSE NEIGHBOUR: 'it returns false'. Refute it at one input. -/
def clashNumbersWrong : ChangeSpec := { name := "clashNumbers", fn := fun _ => fun
  | [] => { results := [.lit (.bool false)], args := [] }
  | _ => none }
def ClashNumbersWrongFalsely : Prop := clashNumbersRow.holds Try.pinned (OpenSpec.ofChange clashNumbersWrong)

/-- 'gristmilllaw22.ClashTurned': WHATEVER THE INPUT: true; the input reads as it did. -/
def clashTurnedSpec : ChangeSpec := { name := "clashTurned", fn := fun _ => fun
  | [d1, d2, d3, d4] => { results := [.lit (.bool true)], args := [d1, d2, d3, d4] }
  | _ => none }
def clashTurnedRow : OpenClaim := { program := "ytijdaihcogbliaa", sum := "62f544741b7070c687c76abdf19ea55225c3f507272433300cdb270928262baa", func := "gristmill/gristmilllaw22.ClashTurned", spec := "clashTurned", unfollowed := true, recurses := true, apart := false }
def ClashTurnedSaid : Prop := clashTurnedRow.holds Try.pinned (OpenSpec.ofChange clashTurnedSpec)

/-- ITS FALSE NEIGHBOUR: 'it returns false'. Refute it at one input. -/
def clashTurnedWrong : ChangeSpec := { name := "clashTurned", fn := fun _ => fun
  | [d1, d2, d3, d4] => { results := [.lit (.bool false)], args := [d1, d2, d3, d4] }
  | _ => none }
def ClashTurnedWrongFalsely : Prop := clashTurnedRow.holds Try.pinned (OpenSpec.ofChange clashTurnedWrong)

/-- 'gristmilllaw16.UselessWithout': WHATEVER THE INPUT: true; the input reads as it did. -/
def uselessWithoutSpec : ChangeSpec := { name := "uselessWithout", fn := fun _ => fun
  | [d] => { results := [.lit (.bool true)], args := [d] }
  | _ => none }
def uselessWithoutRow : OpenClaim := { program := "ytijdaihcogbliaa", sum := "62f544741b7070c687c76abdf19ea55225c3f507272433300cdb270928262baa", func := "gristmill/gristmilllaw16.UselessWithout", spec := "uselessWithout", unfollowed := true, recurses := true, apart := false }
def UselessWithoutSaid : Prop := uselessWithoutRow.holds Try.pinned (OpenSpec.ofChange uselessWithoutSpec)

/-- ITS FALSE NEIGHBOUR: 'it returns false'. Refute it at one input. -/
def uselessWithoutWrong : ChangeSpec := { name := "uselessWithout", fn := fun _ => fun
  | [d] => { results := [.lit (.bool false)], args := [d] }
  | _ => none }
def UselessWithoutWrongFalsely : Prop := uselessWithoutRow.holds Try.pinned (OpenSpec.ofChange uselessWithoutWrong)

/-- 'gristmilllaw14.SymbolsRight': WHATEVER THE INPUT: true; the input reads as it did. -/
def symbolsRightSpec : ChangeSpec := { name := "symbolsRight", fn := fun _ => fun
  | [d] => { results := [.lit (.bool true)], args := [d] }
  | _ => none }
def symbolsRightRow : OpenClaim := { program := "ytijdaihcogbliaa", sum := "62f544741b7070c687c76abdf19ea55225c3f507272433300cdb270928262baa", func := "gristmill/gristmilllaw14.SymbolsRight", spec := "symbolsRight", unfollowed := true, recurses := true, apart := false }
def SymbolsRightSaid : Prop := symbolsRightRow.holds Try.pinned (OpenSpec.ofChange symbolsRightSpec)

/-- ITS FALSE NEIGHBOUR: 'it returns false'. Refute it at one input. -/
def symbolsRightWrong : ChangeSpec := { name := "symbolsRight", fn := fun _ => fun
  | [d] => { results := [.lit (.bool false)], args := [d] }
  | _ => none }
def SymbolsRightWrongFalsely : Prop := symbolsRightRow.holds Try.pinned (OpenSpec.ofChange symbolsRightWrong)

/-- 'gristmilllaw14.SymbolsSound': WHATEVER THE INPUT: true; the input reads as it did. -/
def symbolsSoundSpec : ChangeSpec := { name := "symbolsSound", fn := fun _ => fun
  | [d] => { results := [.lit (.bool true)], args := [d] }
  | _ => none }
def symbolsSoundRow : OpenClaim := { program := "ytijdaihcogbliaa", sum := "62f544741b7070c687c76abdf19ea55225c3f507272433300cdb270928262baa", func := "gristmill/gristmilllaw14.SymbolsSound", spec := "symbolsSound", unfollowed := true, recurses := true, loops := true, apart := false }
def SymbolsSoundSaid : Prop := symbolsSoundRow.holds Try.pinned (OpenSpec.ofChange symbolsSoundSpec)

/-- ITS FALSE NEIGHBOUR: 'it returns false'. Refute it at one input. -/
def symbolsSoundWrong : ChangeSpec := { name := "symbolsSound", fn := fun _ => fun
  | [d] => { results := [.lit (.bool false)], args := [d] }
  | _ => none }
def SymbolsSoundWrongFalsely : Prop := symbolsSoundRow.holds Try.pinned (OpenSpec.ofChange symbolsSoundWrong)

/- THE SECOND FORM. 'bulk': how many values and letters a reading holds, each counted each time it is reached (what is shared counts as often as it is met; a slice's spare places count too). A statement '..UptoSaid' is the law's where the arguments, and the package variables that the reading takes, are together of bulk at most 1048576: NARROWER than '..Said'. Prove '..Said' where nothing that the law and all that it calls make is longer than what came in: it says more and counts as full. Else prove '..UptoSaid'. A law counts once. -/
mutual
def uptoBulk {H : Type} : DataW H → Nat
  | .lit (.string bytes) => bytes.length + 1
  | .lit _ => 1
  | .nil => 1
  | .ptr d => uptoBulk d + 1
  | .slice elems spare => uptoBulkAll elems + uptoBulkAll spare + 1
  | .agg parts => uptoBulkAll parts + 1
  | .iface _ d => uptoBulk d + 1
  | .map entries => uptoBulkEntries entries + 1
  | .held _ => 1
def uptoBulkAll {H : Type} : List (DataW H) → Nat
  | [] => 0
  | d :: r => uptoBulk d + uptoBulkAll r
def uptoBulkEntries {H : Type} : List (Lit × DataW H) → Nat
  | [] => 0
  | x :: r => uptoBulkEntry x + uptoBulkEntries r
def uptoBulkEntry {H : Type} : Lit × DataW H → Nat
  | (.string bytes, d) => bytes.length + uptoBulk d + 1
  | (_, d) => uptoBulk d + 1
 end
def uptoSmall : (H : Type) → List (DataW H) → Bool := fun _ ds => decide (uptoBulkAll ds ≤ 1048576)
def OpenSpec.upto (s : _root_.Go.ChangeSpec) : _root_.Go.OpenSpec := { _root_.Go.OpenSpec.ofChange s with cond := some uptoSmall }

/-- 'gristmilllaw22.ClashPicks', WHERE WHAT IT READS IS OF BULK AT MOST 1048576: true; the input reads as it did. -/
def clashPicksUptoRow : OpenClaim := { program := "ytijdaihcogbliaa", sum := "62f544741b7070c687c76abdf19ea55225c3f507272433300cdb270928262baa", func := "gristmill/gristmilllaw22.ClashPicks", spec := "clashPicks", unfollowed := true, recurses := true, apart := false, narrowed := true }
def ClashPicksUptoSaid : Prop := clashPicksUptoRow.holds Try.pinned (OpenSpec.upto clashPicksSpec)

/-- 'gristmilllaw22.ClashNumbers', WHERE WHAT IT READS IS OF BULK AT MOST 1048576: true; the input reads as it did. -/
def clashNumbersUptoRow : OpenClaim := { program := "ytijdaihcogbliaa", sum := "62f544741b7070c687c76abdf19ea55225c3f507272433300cdb270928262baa", func := "gristmill/gristmilllaw22.ClashNumbers", spec := "clashNumbers", unfollowed := true, recurses := true, apart := false, narrowed := true }
def ClashNumbersUptoSaid : Prop := clashNumbersUptoRow.holds Try.pinned (OpenSpec.upto clashNumbersSpec)

/-- 'gristmilllaw22.ClashTurned', WHERE WHAT IT READS IS OF BULK AT MOST 1048576: true; the input reads as it did. -/
def clashTurnedUptoRow : OpenClaim := { program := "ytijdaihcogbliaa", sum := "62f544741b7070c687c76abdf19ea55225c3f507272433300cdb270928262baa", func := "gristmill/gristmilllaw22.ClashTurned", spec := "clashTurned", unfollowed := true, recurses := true, apart := false, narrowed := true }
def ClashTurnedUptoSaid : Prop := clashTurnedUptoRow.holds Try.pinned (OpenSpec.upto clashTurnedSpec)

/-- 'gristmilllaw16.UselessWithout', WHERE WHAT IT READS IS OF BULK AT MOST 1048576: true; the input reads as it did. -/
def uselessWithoutUptoRow : OpenClaim := { program := "ytijdaihcogbliaa", sum := "62f544741b7070c687c76abdf19ea55225c3f507272433300cdb270928262baa", func := "gristmill/gristmilllaw16.UselessWithout", spec := "uselessWithout", unfollowed := true, recurses := true, apart := false, narrowed := true }
def UselessWithoutUptoSaid : Prop := uselessWithoutUptoRow.holds Try.pinned (OpenSpec.upto uselessWithoutSpec)

/-- 'gristmilllaw14.SymbolsRight', WHERE WHAT IT READS IS OF BULK AT MOST 1048576: true; the input reads as it did. -/
def symbolsRightUptoRow : OpenClaim := { program := "ytijdaihcogbliaa", sum := "62f544741b7070c687c76abdf19ea55225c3f507272433300cdb270928262baa", func := "gristmill/gristmilllaw14.SymbolsRight", spec := "symbolsRight", unfollowed := true, recurses := true, apart := false, narrowed := true }
def SymbolsRightUptoSaid : Prop := symbolsRightUptoRow.holds Try.pinned (OpenSpec.upto symbolsRightSpec)

/-- 'gristmilllaw14.SymbolsSound', WHERE WHAT IT READS IS OF BULK AT MOST 1048576: true; the input reads as it did. -/
def symbolsSoundUptoRow : OpenClaim := { program := "ytijdaihcogbliaa", sum := "62f544741b7070c687c76abdf19ea55225c3f507272433300cdb270928262baa", func := "gristmill/gristmilllaw14.SymbolsSound", spec := "symbolsSound", unfollowed := true, recurses := true, loops := true, apart := false, narrowed := true }
def SymbolsSoundUptoSaid : Prop := symbolsSoundUptoRow.holds Try.pinned (OpenSpec.upto symbolsSoundSpec)

end Rows
end Go.Proofs.Ytijdaihcogbliaa
