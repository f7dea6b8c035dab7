/-
  The statements' own helper on what lies apart: no lists of any kind.
-/
import Derived.Test.YtiiceickjaeehaaGreatBase
import Derived.Deep.OwnRows
namespace Go.Proofs.YtiiceickjaeehaaGreat
open Go.RowKit
set_option maxHeartbeats 400000

theorem make_none {t e : TypeId} (ht : Tryz.prog.underlying t = some (.slice e)) (hinfo : (Tryz.prog.info? e).map (fun i => (i.zero, i.size, i.bytes)) = some (some (.slice none 0 0), 1, 24)) (w : World) :
    (Instr.makeSlice t (.int .i64 0) (.int .i64 0)).run Tryz.prog w = .ok (.slice (some ⟨w.heap.size, 0, none⟩) 0 0) (w.alloc (.cells (madeCells #[Value.slice none 0 0] 0) e)) :=
  run_make_row' (P := Tryz.prog) t e (.slice none 0 0) 24 ht hinfo rfl .i64 .i64 0 (by omega) (by omega) w
set_option maxRecDepth 100000 in
theorem flatLimbs_nil (w : World) : Calls Tryz.prog 51 #[.slice none 0 0] w fun e w' => e = .returned (.bool true) ∧ Below w.heap.size w w' := by
  have hmk := fun w => make_none (t := 58) (e := 135) (by kernel_rfl) (by kernel_rfl) w
  go_enter Tryz.func51, Tryz.ntmps51
  go_wp2
  iterate 5
    refine wp_loop_rounds 1 ?_
    rw [rounds_succ]
    go_wp2
  go_ret
  exact ⟨rfl, (Below.refl _ w).alloc (Nat.le_refl _) _⟩
set_option maxRecDepth 100000 in
theorem flatWords_nil (w : World) : Calls Tryz.prog 52 #[.slice none 0 0] w fun e w' => e = .returned (.bool true) ∧ Below w.heap.size w w' := by
  have hmk := fun w => make_none (t := 59) (e := 137) (by kernel_rfl) (by kernel_rfl) w
  go_enter Tryz.func52, Tryz.ntmps52
  go_wp2
  iterate 5
    refine wp_loop_rounds 1 ?_
    rw [rounds_succ]
    go_wp2
  go_ret
  exact ⟨rfl, (Below.refl _ w).alloc (Nat.le_refl _) _⟩
set_option maxRecDepth 100000 in
theorem flatLongs_nil (w : World) : Calls Tryz.prog 54 #[.slice none 0 0] w fun e w' => e = .returned (.bool true) ∧ Below w.heap.size w w' := by
  have hmk := fun w => make_none (t := 60) (e := 139) (by kernel_rfl) (by kernel_rfl) w
  go_enter Tryz.func54, Tryz.ntmps54
  go_wp2
  iterate 5
    refine wp_loop_rounds 1 ?_
    rw [rounds_succ]
    go_wp2
  go_ret
  exact ⟨rfl, (Below.refl _ w).alloc (Nat.le_refl _) _⟩
set_option maxRecDepth 100000 in
theorem flatTexts_nil (w : World) : Calls Tryz.prog 55 #[.slice none 0 0] w fun e w' => e = .returned (.bool true) ∧ Below w.heap.size w w' := by
  have hmk := fun w => make_none (t := 61) (e := 140) (by kernel_rfl) (by kernel_rfl) w
  go_enter Tryz.func55, Tryz.ntmps55
  go_wp2
  iterate 5
    refine wp_loop_rounds 1 ?_
    rw [rounds_succ]
    go_wp2
  go_ret
  exact ⟨rfl, (Below.refl _ w).alloc (Nat.le_refl _) _⟩
set_option maxRecDepth 100000 in
theorem flatBytes_nil (w : World) : Calls Tryz.prog 56 #[.slice none 0 0] w fun e w' => e = .returned (.bool true) ∧ Below w.heap.size w w' := by
  have hmk := fun w => make_none (t := 62) (e := 91) (by kernel_rfl) (by kernel_rfl) w
  go_enter Tryz.func56, Tryz.ntmps56
  go_wp2
  iterate 5
    refine wp_loop_rounds 1 ?_
    rw [rounds_succ]
    go_wp2
  go_ret
  exact ⟨rfl, (Below.refl _ w).alloc (Nat.le_refl _) _⟩
set_option maxRecDepth 100000 in
theorem flatTokens_nil (w : World) : Calls Tryz.prog 57 #[.slice none 0 0] w fun e w' => e = .returned (.bool true) ∧ Below w.heap.size w w' := by
  have hmk := fun w => make_none (t := 63) (e := 143) (by kernel_rfl) (by kernel_rfl) w
  go_enter Tryz.func57, Tryz.ntmps57
  go_wp2
  iterate 5
    refine wp_loop_rounds 1 ?_
    rw [rounds_succ]
    go_wp2
  go_ret
  exact ⟨rfl, (Below.refl _ w).alloc (Nat.le_refl _) _⟩
set_option maxRecDepth 100000 in
theorem flatFaults_nil (w : World) : Calls Tryz.prog 58 #[.slice none 0 0] w fun e w' => e = .returned (.bool true) ∧ Below w.heap.size w w' := by
  have hmk := fun w => make_none (t := 64) (e := 148) (by kernel_rfl) (by kernel_rfl) w
  go_enter Tryz.func58, Tryz.ntmps58
  go_wp2
  iterate 5
    refine wp_loop_rounds 1 ?_
    rw [rounds_succ]
    go_wp2
  go_ret
  exact ⟨rfl, (Below.refl _ w).alloc (Nat.le_refl _) _⟩
set_option maxRecDepth 100000 in
theorem flatNodes_nil (w : World) : Calls Tryz.prog 59 #[.slice none 0 0] w fun e w' => e = .returned (.bool true) ∧ Below w.heap.size w w' := by
  have hmk := fun w => make_none (t := 65) (e := 153) (by kernel_rfl) (by kernel_rfl) w
  go_enter Tryz.func59, Tryz.ntmps59
  go_wp2
  iterate 5
    refine wp_loop_rounds 1 ?_
    rw [rounds_succ]
    go_wp2
  go_ret
  exact ⟨rfl, (Below.refl _ w).alloc (Nat.le_refl _) _⟩
set_option maxRecDepth 100000 in
theorem flatTypes_nil (w : World) : Calls Tryz.prog 60 #[.slice none 0 0] w fun e w' => e = .returned (.bool true) ∧ Below w.heap.size w w' := by
  have hmk := fun w => make_none (t := 66) (e := 159) (by kernel_rfl) (by kernel_rfl) w
  go_enter Tryz.func60, Tryz.ntmps60
  go_wp2
  iterate 5
    refine wp_loop_rounds 1 ?_
    rw [rounds_succ]
    go_wp2
  go_ret
  exact ⟨rfl, (Below.refl _ w).alloc (Nat.le_refl _) _⟩
set_option maxRecDepth 100000 in
theorem flatValues_nil (w : World) : Calls Tryz.prog 61 #[.slice none 0 0] w fun e w' => e = .returned (.bool true) ∧ Below w.heap.size w w' := by
  have hmk := fun w => make_none (t := 67) (e := 165) (by kernel_rfl) (by kernel_rfl) w
  go_enter Tryz.func61, Tryz.ntmps61
  go_wp2
  iterate 5
    refine wp_loop_rounds 1 ?_
    rw [rounds_succ]
    go_wp2
  go_ret
  exact ⟨rfl, (Below.refl _ w).alloc (Nat.le_refl _) _⟩
set_option maxRecDepth 100000 in
theorem flatOutcomes_nil (w : World) : Calls Tryz.prog 62 #[.slice none 0 0] w fun e w' => e = .returned (.bool true) ∧ Below w.heap.size w w' := by
  have hmk := fun w => make_none (t := 68) (e := 170) (by kernel_rfl) (by kernel_rfl) w
  go_enter Tryz.func62, Tryz.ntmps62
  go_wp2
  iterate 5
    refine wp_loop_rounds 1 ?_
    rw [rounds_succ]
    go_wp2
  go_ret
  exact ⟨rfl, (Below.refl _ w).alloc (Nat.le_refl _) _⟩
set_option maxRecDepth 100000 in
theorem flatWordRow_nil (w : World) : Calls Tryz.prog 63 #[.slice none 0 0] w fun e w' => e = .returned (.bool true) ∧ Below w.heap.size w w' := by
  have hmk := fun w => make_none (t := 69) (e := 175) (by kernel_rfl) (by kernel_rfl) w
  go_enter Tryz.func63, Tryz.ntmps63
  go_wp2
  iterate 5
    refine wp_loop_rounds 1 ?_
    rw [rounds_succ]
    go_wp2
  go_ret
  exact ⟨rfl, (Below.refl _ w).alloc (Nat.le_refl _) _⟩
set_option maxRecDepth 100000 in
theorem flatAlts_nil (w : World) : Calls Tryz.prog 64 #[.slice none 0 0] w fun e w' => e = .returned (.bool true) ∧ Below w.heap.size w w' := by
  have hmk := fun w => make_none (t := 70) (e := 180) (by kernel_rfl) (by kernel_rfl) w
  go_enter Tryz.func64, Tryz.ntmps64
  go_wp2
  iterate 5
    refine wp_loop_rounds 1 ?_
    rw [rounds_succ]
    go_wp2
  go_ret
  exact ⟨rfl, (Below.refl _ w).alloc (Nat.le_refl _) _⟩
set_option maxRecDepth 100000 in
theorem flatRules_nil (w : World) : Calls Tryz.prog 65 #[.slice none 0 0] w fun e w' => e = .returned (.bool true) ∧ Below w.heap.size w w' := by
  have hmk := fun w => make_none (t := 71) (e := 185) (by kernel_rfl) (by kernel_rfl) w
  go_enter Tryz.func65, Tryz.ntmps65
  go_wp2
  iterate 5
    refine wp_loop_rounds 1 ?_
    rw [rounds_succ]
    go_wp2
  go_ret
  exact ⟨rfl, (Below.refl _ w).alloc (Nat.le_refl _) _⟩
set_option maxRecDepth 100000 in
theorem flatDecls_nil (w : World) : Calls Tryz.prog 66 #[.slice none 0 0] w fun e w' => e = .returned (.bool true) ∧ Below w.heap.size w w' := by
  have hmk := fun w => make_none (t := 72) (e := 190) (by kernel_rfl) (by kernel_rfl) w
  go_enter Tryz.func66, Tryz.ntmps66
  go_wp2
  iterate 5
    refine wp_loop_rounds 1 ?_
    rw [rounds_succ]
    go_wp2
  go_ret
  exact ⟨rfl, (Below.refl _ w).alloc (Nat.le_refl _) _⟩
set_option maxRecDepth 100000 in
theorem flatSources_nil (w : World) : Calls Tryz.prog 67 #[.slice none 0 0] w fun e w' => e = .returned (.bool true) ∧ Below w.heap.size w w' := by
  have hmk := fun w => make_none (t := 73) (e := 195) (by kernel_rfl) (by kernel_rfl) w
  go_enter Tryz.func67, Tryz.ntmps67
  go_wp2
  iterate 5
    refine wp_loop_rounds 1 ?_
    rw [rounds_succ]
    go_wp2
  go_ret
  exact ⟨rfl, (Below.refl _ w).alloc (Nat.le_refl _) _⟩
set_option maxRecDepth 100000 in
theorem flatProds_nil (w : World) : Calls Tryz.prog 68 #[.slice none 0 0] w fun e w' => e = .returned (.bool true) ∧ Below w.heap.size w w' := by
  have hmk := fun w => make_none (t := 74) (e := 23) (by kernel_rfl) (by kernel_rfl) w
  go_enter Tryz.func68, Tryz.ntmps68
  go_wp2
  iterate 5
    refine wp_loop_rounds 1 ?_
    rw [rounds_succ]
    go_wp2
  go_ret
  exact ⟨rfl, (Below.refl _ w).alloc (Nat.le_refl _) _⟩
set_option maxRecDepth 100000 in
theorem flatSymbols_nil (w : World) : Calls Tryz.prog 69 #[.slice none 0 0] w fun e w' => e = .returned (.bool true) ∧ Below w.heap.size w w' := by
  have hmk := fun w => make_none (t := 75) (e := 22) (by kernel_rfl) (by kernel_rfl) w
  go_enter Tryz.func69, Tryz.ntmps69
  go_wp2
  iterate 5
    refine wp_loop_rounds 1 ?_
    rw [rounds_succ]
    go_wp2
  go_ret
  exact ⟨rfl, (Below.refl _ w).alloc (Nat.le_refl _) _⟩
set_option maxRecDepth 100000 in
theorem flatGrammars_nil (w : World) : Calls Tryz.prog 70 #[.slice none 0 0] w fun e w' => e = .returned (.bool true) ∧ Below w.heap.size w w' := by
  have hmk := fun w => make_none (t := 76) (e := 200) (by kernel_rfl) (by kernel_rfl) w
  go_enter Tryz.func70, Tryz.ntmps70
  go_wp2
  iterate 5
    refine wp_loop_rounds 1 ?_
    rw [rounds_succ]
    go_wp2
  go_ret
  exact ⟨rfl, (Below.refl _ w).alloc (Nat.le_refl _) _⟩
set_option maxRecDepth 100000 in
theorem flatItems_nil (w : World) : Calls Tryz.prog 71 #[.slice none 0 0] w fun e w' => e = .returned (.bool true) ∧ Below w.heap.size w w' := by
  have hmk := fun w => make_none (t := 77) (e := 202) (by kernel_rfl) (by kernel_rfl) w
  go_enter Tryz.func71, Tryz.ntmps71
  go_wp2
  iterate 5
    refine wp_loop_rounds 1 ?_
    rw [rounds_succ]
    go_wp2
  go_ret
  exact ⟨rfl, (Below.refl _ w).alloc (Nat.le_refl _) _⟩
set_option maxRecDepth 100000 in
theorem flatEdges_nil (w : World) : Calls Tryz.prog 72 #[.slice none 0 0] w fun e w' => e = .returned (.bool true) ∧ Below w.heap.size w w' := by
  have hmk := fun w => make_none (t := 78) (e := 206) (by kernel_rfl) (by kernel_rfl) w
  go_enter Tryz.func72, Tryz.ntmps72
  go_wp2
  iterate 5
    refine wp_loop_rounds 1 ?_
    rw [rounds_succ]
    go_wp2
  go_ret
  exact ⟨rfl, (Below.refl _ w).alloc (Nat.le_refl _) _⟩
set_option maxRecDepth 100000 in
theorem flatStates_nil (w : World) : Calls Tryz.prog 73 #[.slice none 0 0] w fun e w' => e = .returned (.bool true) ∧ Below w.heap.size w w' := by
  have hmk := fun w => make_none (t := 79) (e := 210) (by kernel_rfl) (by kernel_rfl) w
  go_enter Tryz.func73, Tryz.ntmps73
  go_wp2
  iterate 5
    refine wp_loop_rounds 1 ?_
    rw [rounds_succ]
    go_wp2
  go_ret
  exact ⟨rfl, (Below.refl _ w).alloc (Nat.le_refl _) _⟩
set_option maxRecDepth 100000 in
theorem flatAheads_nil (w : World) : Calls Tryz.prog 74 #[.slice none 0 0] w fun e w' => e = .returned (.bool true) ∧ Below w.heap.size w w' := by
  have hmk := fun w => make_none (t := 80) (e := 215) (by kernel_rfl) (by kernel_rfl) w
  go_enter Tryz.func74, Tryz.ntmps74
  go_wp2
  iterate 5
    refine wp_loop_rounds 1 ?_
    rw [rounds_succ]
    go_wp2
  go_ret
  exact ⟨rfl, (Below.refl _ w).alloc (Nat.le_refl _) _⟩
set_option maxRecDepth 100000 in
theorem flatActs_nil (w : World) : Calls Tryz.prog 75 #[.slice none 0 0] w fun e w' => e = .returned (.bool true) ∧ Below w.heap.size w w' := by
  have hmk := fun w => make_none (t := 81) (e := 220) (by kernel_rfl) (by kernel_rfl) w
  go_enter Tryz.func75, Tryz.ntmps75
  go_wp2
  iterate 5
    refine wp_loop_rounds 1 ?_
    rw [rounds_succ]
    go_wp2
  go_ret
  exact ⟨rfl, (Below.refl _ w).alloc (Nat.le_refl _) _⟩
set_option maxRecDepth 100000 in
theorem flatClashes_nil (w : World) : Calls Tryz.prog 76 #[.slice none 0 0] w fun e w' => e = .returned (.bool true) ∧ Below w.heap.size w w' := by
  have hmk := fun w => make_none (t := 82) (e := 225) (by kernel_rfl) (by kernel_rfl) w
  go_enter Tryz.func76, Tryz.ntmps76
  go_wp2
  iterate 5
    refine wp_loop_rounds 1 ?_
    rw [rounds_succ]
    go_wp2
  go_ret
  exact ⟨rfl, (Below.refl _ w).alloc (Nat.le_refl _) _⟩
set_option maxRecDepth 100000 in
theorem flatPackedRow_nil (w : World) : Calls Tryz.prog 77 #[.slice none 0 0] w fun e w' => e = .returned (.bool true) ∧ Below w.heap.size w w' := by
  have hmk := fun w => make_none (t := 83) (e := 229) (by kernel_rfl) (by kernel_rfl) w
  go_enter Tryz.func77, Tryz.ntmps77
  go_wp2
  iterate 5
    refine wp_loop_rounds 1 ?_
    rw [rounds_succ]
    go_wp2
  go_ret
  exact ⟨rfl, (Below.refl _ w).alloc (Nat.le_refl _) _⟩
set_option maxRecDepth 100000 in
theorem flatTrees_nil (w : World) : Calls Tryz.prog 78 #[.slice none 0 0] w fun e w' => e = .returned (.bool true) ∧ Below w.heap.size w w' := by
  have hmk := fun w => make_none (t := 84) (e := 234) (by kernel_rfl) (by kernel_rfl) w
  go_enter Tryz.func78, Tryz.ntmps78
  go_wp2
  iterate 5
    refine wp_loop_rounds 1 ?_
    rw [rounds_succ]
    go_wp2
  go_ret
  exact ⟨rfl, (Below.refl _ w).alloc (Nat.le_refl _) _⟩
set_option maxRecDepth 100000 in
theorem flatToks_nil (w : World) : Calls Tryz.prog 79 #[.slice none 0 0] w fun e w' => e = .returned (.bool true) ∧ Below w.heap.size w w' := by
  have hmk := fun w => make_none (t := 85) (e := 239) (by kernel_rfl) (by kernel_rfl) w
  go_enter Tryz.func79, Tryz.ntmps79
  go_wp2
  iterate 5
    refine wp_loop_rounds 1 ?_
    rw [rounds_succ]
    go_wp2
  go_ret
  exact ⟨rfl, (Below.refl _ w).alloc (Nat.le_refl _) _⟩
set_option maxRecDepth 100000 in
theorem flatParsedRow_nil (w : World) : Calls Tryz.prog 80 #[.slice none 0 0] w fun e w' => e = .returned (.bool true) ∧ Below w.heap.size w w' := by
  have hmk := fun w => make_none (t := 86) (e := 244) (by kernel_rfl) (by kernel_rfl) w
  go_enter Tryz.func80, Tryz.ntmps80
  go_wp2
  iterate 5
    refine wp_loop_rounds 1 ?_
    rw [rounds_succ]
    go_wp2
  go_ret
  exact ⟨rfl, (Below.refl _ w).alloc (Nat.le_refl _) _⟩
set_option maxRecDepth 100000 in
theorem flatNotices_nil (w : World) : Calls Tryz.prog 81 #[.slice none 0 0] w fun e w' => e = .returned (.bool true) ∧ Below w.heap.size w w' := by
  have hmk := fun w => make_none (t := 87) (e := 249) (by kernel_rfl) (by kernel_rfl) w
  go_enter Tryz.func81, Tryz.ntmps81
  go_wp2
  iterate 5
    refine wp_loop_rounds 1 ?_
    rw [rounds_succ]
    go_wp2
  go_ret
  exact ⟨rfl, (Below.refl _ w).alloc (Nat.le_refl _) _⟩
end Go.Proofs.YtiiceickjaeehaaGreat
