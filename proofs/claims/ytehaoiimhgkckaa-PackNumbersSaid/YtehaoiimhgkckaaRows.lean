/-
  NARROWER THAN 'FOR EVERY INPUT', by the rows' own cells (each row's printed sentence says how): SymbolsSound: loops.
  DERIVED. THE GIVEN ROWS OF THIS SEAT. 4 by the template 'for every input the law returns true; each argument reads behind the call as it read before'; 0 by the template 'total and deterministic' (their statements: YtehaoiimhgkckaaTotals.lean).
  GIVEN WITH THE SEED: the statements are not yours to turn. If you find one false, say at which input.
  Laid BY PROGRAM, IN A SANDBOX (cutbox-rows.mjs): the forced cells as the released guide's own fill.sh prints them over the translation 2ca025885c4246f5… (all of the seat's roots in one cut). By AI agents, Wed Nov 11 2026. No macro, syntax, notation, axiom, sorry.
-/
import Derived.Test.YtehaoiimhgkckaaChecked
import GoSem.Claim
import GoSem.ClaimJoined
import GoSem.ClaimMapViews
import Derived.JoinedTies
import Derived.KernelRfl
namespace Go.Proofs.Ytehaoiimhgkckaa
/- THE CELL 'sum', in the pinned program and in every row, IS THE sha256 OF THE DUMP (.gsa) THAT YtehaoiimhgkckaaProg.lean LOADS. Nothing in Lean hashes anything: it is a label: what it is worth is what the hold of that sum in a sandbox is worth. -/
noncomputable def Try.pinned : Pinned := { name := "ytehaoiimhgkckaa", sum := "2ca025885c4246f58ac567e6552494dd3510e79fbc5c6a787a31756dc95eaec1", checked := Try.checked }
namespace Rows
def none {H : Type} : Left H := { results := [], args := [] }

/-- 'gristmilllaw24.PackSays': WHATEVER THE INPUT: true; the input reads as it did. -/
def packSaysSpec : ChangeSpec := { name := "packSays", fn := fun _ => fun
  | [d1, d2, d3, d4] => { results := [.lit (.bool true)], args := [d1, d2, d3, d4] }
  | _ => none }
def packSaysRow : OpenClaim := { program := "ytehaoiimhgkckaa", sum := "2ca025885c4246f58ac567e6552494dd3510e79fbc5c6a787a31756dc95eaec1", func := "gristmill/gristmilllaw24.PackSays", spec := "packSays", unfollowed := true, recurses := true, plainKeys := false, apart := false }
def PackSaysSaid : Prop := packSaysRow.holds Try.pinned (OpenSpec.ofChange packSaysSpec)

/-- ITS FALSE NEIGHBOUR: 'it returns false'. Refute it at one input. -/
def packSaysWrong : ChangeSpec := { name := "packSays", fn := fun _ => fun
  | [d1, d2, d3, d4] => { results := [.lit (.bool false)], args := [d1, d2, d3, d4] }
  | _ => none }
def PackSaysWrongFalsely : Prop := packSaysRow.holds Try.pinned (OpenSpec.ofChange packSaysWrong)

/-- 'gristmilllaw24.PackNumbers': WHATEVER THE INPUT: true; the input reads as it did. -/
def packNumbersSpec : ChangeSpec := { name := "packNumbers", fn := fun _ => fun
  | [] => { results := [.lit (.bool true)], args := [] }
  | _ => none }
def packNumbersRow : OpenClaim := { program := "ytehaoiimhgkckaa", sum := "2ca025885c4246f58ac567e6552494dd3510e79fbc5c6a787a31756dc95eaec1", func := "gristmill/gristmilllaw24.PackNumbers", spec := "packNumbers", unfollowed := true, recurses := true, plainKeys := false, apart := false }
def PackNumbersSaid : Prop := packNumbersRow.holds Try.pinned (OpenSpec.ofChange packNumbersSpec)

/-- ITS FALSE NEIGHBOUR: 'it returns false'. Refute it at one input. -/
def packNumbersWrong : ChangeSpec := { name := "packNumbers", fn := fun _ => fun
  | [] => { results := [.lit (.bool false)], args := [] }
  | _ => none }
def PackNumbersWrongFalsely : Prop := packNumbersRow.holds Try.pinned (OpenSpec.ofChange packNumbersWrong)

/-- 'gristmilllaw14.SymbolsRight': WHATEVER THE INPUT: true; the input reads as it did. -/
def symbolsRightSpec : ChangeSpec := { name := "symbolsRight", fn := fun _ => fun
  | [d] => { results := [.lit (.bool true)], args := [d] }
  | _ => none }
def symbolsRightRow : OpenClaim := { program := "ytehaoiimhgkckaa", sum := "2ca025885c4246f58ac567e6552494dd3510e79fbc5c6a787a31756dc95eaec1", func := "gristmill/gristmilllaw14.SymbolsRight", spec := "symbolsRight", unfollowed := true, recurses := true, plainKeys := false, apart := false }
def SymbolsRightSaid : Prop := symbolsRightRow.holds Try.pinned (OpenSpec.ofChange symbolsRightSpec)

/-- ITS FALSE NEIGHBOUR: 'it returns false'. Refute it at one input. -/
def symbolsRightWrong : ChangeSpec := { name := "symbolsRight", fn := fun _ => fun
  | [d] => { results := [.lit (.bool false)], args := [d] }
  | _ => none }
def SymbolsRightWrongFalsely : Prop := symbolsRightRow.holds Try.pinned (OpenSpec.ofChange symbolsRightWrong)

/-- 'gristmilllaw14.SymbolsSound': WHATEVER THE INPUT: true; the input reads as it did. -/
def symbolsSoundSpec : ChangeSpec := { name := "symbolsSound", fn := fun _ => fun
  | [d] => { results := [.lit (.bool true)], args := [d] }
  | _ => none }
def symbolsSoundRow : OpenClaim := { program := "ytehaoiimhgkckaa", sum := "2ca025885c4246f58ac567e6552494dd3510e79fbc5c6a787a31756dc95eaec1", func := "gristmill/gristmilllaw14.SymbolsSound", spec := "symbolsSound", unfollowed := true, recurses := true, loops := true, plainKeys := false, apart := false }
def SymbolsSoundSaid : Prop := symbolsSoundRow.holds Try.pinned (OpenSpec.ofChange symbolsSoundSpec)

/-- ITS FALSE NEIGHBOUR: 'it returns false'. Refute it at one input. -/
def symbolsSoundWrong : ChangeSpec := { name := "symbolsSound", fn := fun _ => fun
  | [d] => { results := [.lit (.bool false)], args := [d] }
  | _ => none }
def SymbolsSoundWrongFalsely : Prop := symbolsSoundRow.holds Try.pinned (OpenSpec.ofChange symbolsSoundWrong)

/- THE SECOND FORM. 'bulk': how many values and letters a reading holds, each counted each time it is reached (what is shared counts as often as it is met; a slice's spare places count too). A statement '..UptoSaid' is the law's where the arguments, and the package variables that the reading takes, are together of bulk at most 1048576: NARROWER than '..Said'. Prove '..Said' where nothing that the law and all that it calls make is longer than what came in: it says more and counts as full. Else prove '..UptoSaid'. A law counts once. -/
mutual
def uptoBulk {H : Type} : DataW H → Nat
  | .lit (.string bytes) => bytes.length + 1
  | .lit _ => 1
  | .nil => 1
  | .ptr d => uptoBulk d + 1
  | .slice elems spare => uptoBulkAll elems + uptoBulkAll spare + 1
  | .agg parts => uptoBulkAll parts + 1
  | .iface _ d => uptoBulk d + 1
  | .map entries => uptoBulkEntries entries + 1
  | .held _ => 1
def uptoBulkAll {H : Type} : List (DataW H) → Nat
  | [] => 0
  | d :: r => uptoBulk d + uptoBulkAll r
def uptoBulkEntries {H : Type} : List (Lit × DataW H) → Nat
  | [] => 0
  | x :: r => uptoBulkEntry x + uptoBulkEntries r
def uptoBulkEntry {H : Type} : Lit × DataW H → Nat
  | (.string bytes, d) => bytes.length + uptoBulk d + 1
  | (_, d) => uptoBulk d + 1
 end
def uptoSmall : (H : Type) → List (DataW H) → Bool := fun _ ds => decide (uptoBulkAll ds ≤ 1048576)
def OpenSpec.upto (s : _root_.Go.ChangeSpec) : _root_.Go.OpenSpec := { _root_.Go.OpenSpec.ofChange s with cond := some uptoSmall }

/-- 'gristmilllaw24.PackSays', WHERE WHAT IT READS IS OF BULK AT MOST 1048576: true; the input reads as it did. -/
def packSaysUptoRow : OpenClaim := { program := "ytehaoiimhgkckaa", sum := "2ca025885c4246f58ac567e6552494dd3510e79fbc5c6a787a31756dc95eaec1", func := "gristmill/gristmilllaw24.PackSays", spec := "packSays", unfollowed := true, recurses := true, plainKeys := false, apart := false, narrowed := true }
def PackSaysUptoSaid : Prop := packSaysUptoRow.holds Try.pinned (OpenSpec.upto packSaysSpec)

/-- 'gristmilllaw24.PackNumbers', WHERE WHAT IT READS IS OF BULK AT MOST 1048576: true; the input reads as it did. -/
def packNumbersUptoRow : OpenClaim := { program := "ytehaoiimhgkckaa", sum := "2ca025885c4246f58ac567e6552494dd3510e79fbc5c6a787a31756dc95eaec1", func := "gristmill/gristmilllaw24.PackNumbers", spec := "packNumbers", unfollowed := true, recurses := true, plainKeys := false, apart := false, narrowed := true }
def PackNumbersUptoSaid : Prop := packNumbersUptoRow.holds Try.pinned (OpenSpec.upto packNumbersSpec)

/-- 'gristmilllaw14.SymbolsRight', WHERE WHAT IT READS IS OF BULK AT MOST 1048576: true; the input reads as it did. -/
def symbolsRightUptoRow : OpenClaim := { program := "ytehaoiimhgkckaa", sum := "2ca025885c4246f58ac567e6552494dd3510e79fbc5c6a787a31756dc95eaec1", func := "gristmill/gristmilllaw14.SymbolsRight", spec := "symbolsRight", unfollowed := true, recurses := true, plainKeys := false, apart := false, narrowed := true }
def SymbolsRightUptoSaid : Prop := symbolsRightUptoRow.holds Try.pinned (OpenSpec.upto symbolsRightSpec)

/-- 'gristmilllaw14.SymbolsSound', WHERE WHAT IT READS IS OF BULK AT MOST 1048576: true; the input reads as it did. -/
def symbolsSoundUptoRow : OpenClaim := { program := "ytehaoiimhgkckaa", sum := "2ca025885c4246f58ac567e6552494dd3510e79fbc5c6a787a31756dc95eaec1", func := "gristmill/gristmilllaw14.SymbolsSound", spec := "symbolsSound", unfollowed := true, recurses := true, loops := true, plainKeys := false, apart := false, narrowed := true }
def SymbolsSoundUptoSaid : Prop := symbolsSoundUptoRow.holds Try.pinned (OpenSpec.upto symbolsSoundSpec)

end Rows
end Go.Proofs.Ytehaoiimhgkckaa
