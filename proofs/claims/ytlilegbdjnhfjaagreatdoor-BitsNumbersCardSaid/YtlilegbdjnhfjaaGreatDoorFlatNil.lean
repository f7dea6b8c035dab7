/-
  The statements' own helper on what lies apart: no lists of any kind.
-/
import Derived.Test.YtlilegbdjnhfjaaGreatDoorBase
import Derived.Deep.OwnRows
namespace Go.Proofs.YtlilegbdjnhfjaaGreatDoor
open Go.RowKit
set_option maxHeartbeats 400000

theorem make_none {t e : TypeId} (ht : Tryz.prog.underlying t = some (.slice e)) (hinfo : (Tryz.prog.info? e).map (fun i => (i.zero, i.size, i.bytes)) = some (some (.slice none 0 0), 1, 24)) (w : World) :
    (Instr.makeSlice t (.int .i64 0) (.int .i64 0)).run Tryz.prog w = .ok (.slice (some ⟨w.heap.size, 0, none⟩) 0 0) (w.alloc (.cells (madeCells #[Value.slice none 0 0] 0) e)) :=
  run_make_row' (P := Tryz.prog) t e (.slice none 0 0) 24 ht hinfo rfl .i64 .i64 0 (by omega) (by omega) w
set_option maxRecDepth 100000 in
theorem flatLimbs_nil (w : World) : Calls Tryz.prog 41 #[.slice none 0 0] w fun e w' => e = .returned (.bool true) ∧ Below w.heap.size w w' := by
  have hmk := fun w => make_none (t := 64) (e := 136) (by kernel_rfl) (by kernel_rfl) w
  go_enter Tryz.func41, Tryz.ntmps41
  go_wp2
  iterate 5
    refine wp_loop_rounds 1 ?_
    rw [rounds_succ]
    go_wp2
  go_ret
  exact ⟨rfl, (Below.refl _ w).alloc (Nat.le_refl _) _⟩
set_option maxRecDepth 100000 in
theorem flatWords_nil (w : World) : Calls Tryz.prog 42 #[.slice none 0 0] w fun e w' => e = .returned (.bool true) ∧ Below w.heap.size w w' := by
  have hmk := fun w => make_none (t := 65) (e := 43) (by kernel_rfl) (by kernel_rfl) w
  go_enter Tryz.func42, Tryz.ntmps42
  go_wp2
  iterate 5
    refine wp_loop_rounds 1 ?_
    rw [rounds_succ]
    go_wp2
  go_ret
  exact ⟨rfl, (Below.refl _ w).alloc (Nat.le_refl _) _⟩
set_option maxRecDepth 100000 in
theorem flatLongs_nil (w : World) : Calls Tryz.prog 44 #[.slice none 0 0] w fun e w' => e = .returned (.bool true) ∧ Below w.heap.size w w' := by
  have hmk := fun w => make_none (t := 66) (e := 138) (by kernel_rfl) (by kernel_rfl) w
  go_enter Tryz.func44, Tryz.ntmps44
  go_wp2
  iterate 5
    refine wp_loop_rounds 1 ?_
    rw [rounds_succ]
    go_wp2
  go_ret
  exact ⟨rfl, (Below.refl _ w).alloc (Nat.le_refl _) _⟩
set_option maxRecDepth 100000 in
theorem flatTexts_nil (w : World) : Calls Tryz.prog 45 #[.slice none 0 0] w fun e w' => e = .returned (.bool true) ∧ Below w.heap.size w w' := by
  have hmk := fun w => make_none (t := 67) (e := 139) (by kernel_rfl) (by kernel_rfl) w
  go_enter Tryz.func45, Tryz.ntmps45
  go_wp2
  iterate 5
    refine wp_loop_rounds 1 ?_
    rw [rounds_succ]
    go_wp2
  go_ret
  exact ⟨rfl, (Below.refl _ w).alloc (Nat.le_refl _) _⟩
set_option maxRecDepth 100000 in
theorem flatBytes_nil (w : World) : Calls Tryz.prog 46 #[.slice none 0 0] w fun e w' => e = .returned (.bool true) ∧ Below w.heap.size w w' := by
  have hmk := fun w => make_none (t := 68) (e := 99) (by kernel_rfl) (by kernel_rfl) w
  go_enter Tryz.func46, Tryz.ntmps46
  go_wp2
  iterate 5
    refine wp_loop_rounds 1 ?_
    rw [rounds_succ]
    go_wp2
  go_ret
  exact ⟨rfl, (Below.refl _ w).alloc (Nat.le_refl _) _⟩
set_option maxRecDepth 100000 in
theorem flatTokens_nil (w : World) : Calls Tryz.prog 47 #[.slice none 0 0] w fun e w' => e = .returned (.bool true) ∧ Below w.heap.size w w' := by
  have hmk := fun w => make_none (t := 69) (e := 142) (by kernel_rfl) (by kernel_rfl) w
  go_enter Tryz.func47, Tryz.ntmps47
  go_wp2
  iterate 5
    refine wp_loop_rounds 1 ?_
    rw [rounds_succ]
    go_wp2
  go_ret
  exact ⟨rfl, (Below.refl _ w).alloc (Nat.le_refl _) _⟩
set_option maxRecDepth 100000 in
theorem flatFaults_nil (w : World) : Calls Tryz.prog 48 #[.slice none 0 0] w fun e w' => e = .returned (.bool true) ∧ Below w.heap.size w w' := by
  have hmk := fun w => make_none (t := 70) (e := 147) (by kernel_rfl) (by kernel_rfl) w
  go_enter Tryz.func48, Tryz.ntmps48
  go_wp2
  iterate 5
    refine wp_loop_rounds 1 ?_
    rw [rounds_succ]
    go_wp2
  go_ret
  exact ⟨rfl, (Below.refl _ w).alloc (Nat.le_refl _) _⟩
set_option maxRecDepth 100000 in
theorem flatNodes_nil (w : World) : Calls Tryz.prog 49 #[.slice none 0 0] w fun e w' => e = .returned (.bool true) ∧ Below w.heap.size w w' := by
  have hmk := fun w => make_none (t := 71) (e := 151) (by kernel_rfl) (by kernel_rfl) w
  go_enter Tryz.func49, Tryz.ntmps49
  go_wp2
  iterate 5
    refine wp_loop_rounds 1 ?_
    rw [rounds_succ]
    go_wp2
  go_ret
  exact ⟨rfl, (Below.refl _ w).alloc (Nat.le_refl _) _⟩
set_option maxRecDepth 100000 in
theorem flatTypes_nil (w : World) : Calls Tryz.prog 50 #[.slice none 0 0] w fun e w' => e = .returned (.bool true) ∧ Below w.heap.size w w' := by
  have hmk := fun w => make_none (t := 72) (e := 157) (by kernel_rfl) (by kernel_rfl) w
  go_enter Tryz.func50, Tryz.ntmps50
  go_wp2
  iterate 5
    refine wp_loop_rounds 1 ?_
    rw [rounds_succ]
    go_wp2
  go_ret
  exact ⟨rfl, (Below.refl _ w).alloc (Nat.le_refl _) _⟩
set_option maxRecDepth 100000 in
theorem flatValues_nil (w : World) : Calls Tryz.prog 51 #[.slice none 0 0] w fun e w' => e = .returned (.bool true) ∧ Below w.heap.size w w' := by
  have hmk := fun w => make_none (t := 73) (e := 163) (by kernel_rfl) (by kernel_rfl) w
  go_enter Tryz.func51, Tryz.ntmps51
  go_wp2
  iterate 5
    refine wp_loop_rounds 1 ?_
    rw [rounds_succ]
    go_wp2
  go_ret
  exact ⟨rfl, (Below.refl _ w).alloc (Nat.le_refl _) _⟩
set_option maxRecDepth 100000 in
theorem flatOutcomes_nil (w : World) : Calls Tryz.prog 52 #[.slice none 0 0] w fun e w' => e = .returned (.bool true) ∧ Below w.heap.size w w' := by
  have hmk := fun w => make_none (t := 74) (e := 168) (by kernel_rfl) (by kernel_rfl) w
  go_enter Tryz.func52, Tryz.ntmps52
  go_wp2
  iterate 5
    refine wp_loop_rounds 1 ?_
    rw [rounds_succ]
    go_wp2
  go_ret
  exact ⟨rfl, (Below.refl _ w).alloc (Nat.le_refl _) _⟩
set_option maxRecDepth 100000 in
theorem flatWordRow_nil (w : World) : Calls Tryz.prog 53 #[.slice none 0 0] w fun e w' => e = .returned (.bool true) ∧ Below w.heap.size w w' := by
  have hmk := fun w => make_none (t := 75) (e := 173) (by kernel_rfl) (by kernel_rfl) w
  go_enter Tryz.func53, Tryz.ntmps53
  go_wp2
  iterate 5
    refine wp_loop_rounds 1 ?_
    rw [rounds_succ]
    go_wp2
  go_ret
  exact ⟨rfl, (Below.refl _ w).alloc (Nat.le_refl _) _⟩
set_option maxRecDepth 100000 in
theorem flatAlts_nil (w : World) : Calls Tryz.prog 54 #[.slice none 0 0] w fun e w' => e = .returned (.bool true) ∧ Below w.heap.size w w' := by
  have hmk := fun w => make_none (t := 76) (e := 178) (by kernel_rfl) (by kernel_rfl) w
  go_enter Tryz.func54, Tryz.ntmps54
  go_wp2
  iterate 5
    refine wp_loop_rounds 1 ?_
    rw [rounds_succ]
    go_wp2
  go_ret
  exact ⟨rfl, (Below.refl _ w).alloc (Nat.le_refl _) _⟩
set_option maxRecDepth 100000 in
theorem flatRules_nil (w : World) : Calls Tryz.prog 55 #[.slice none 0 0] w fun e w' => e = .returned (.bool true) ∧ Below w.heap.size w w' := by
  have hmk := fun w => make_none (t := 77) (e := 183) (by kernel_rfl) (by kernel_rfl) w
  go_enter Tryz.func55, Tryz.ntmps55
  go_wp2
  iterate 5
    refine wp_loop_rounds 1 ?_
    rw [rounds_succ]
    go_wp2
  go_ret
  exact ⟨rfl, (Below.refl _ w).alloc (Nat.le_refl _) _⟩
set_option maxRecDepth 100000 in
theorem flatDecls_nil (w : World) : Calls Tryz.prog 56 #[.slice none 0 0] w fun e w' => e = .returned (.bool true) ∧ Below w.heap.size w w' := by
  have hmk := fun w => make_none (t := 78) (e := 188) (by kernel_rfl) (by kernel_rfl) w
  go_enter Tryz.func56, Tryz.ntmps56
  go_wp2
  iterate 5
    refine wp_loop_rounds 1 ?_
    rw [rounds_succ]
    go_wp2
  go_ret
  exact ⟨rfl, (Below.refl _ w).alloc (Nat.le_refl _) _⟩
set_option maxRecDepth 100000 in
theorem flatSources_nil (w : World) : Calls Tryz.prog 57 #[.slice none 0 0] w fun e w' => e = .returned (.bool true) ∧ Below w.heap.size w w' := by
  have hmk := fun w => make_none (t := 79) (e := 193) (by kernel_rfl) (by kernel_rfl) w
  go_enter Tryz.func57, Tryz.ntmps57
  go_wp2
  iterate 5
    refine wp_loop_rounds 1 ?_
    rw [rounds_succ]
    go_wp2
  go_ret
  exact ⟨rfl, (Below.refl _ w).alloc (Nat.le_refl _) _⟩
set_option maxRecDepth 100000 in
theorem flatProds_nil (w : World) : Calls Tryz.prog 58 #[.slice none 0 0] w fun e w' => e = .returned (.bool true) ∧ Below w.heap.size w w' := by
  have hmk := fun w => make_none (t := 80) (e := 198) (by kernel_rfl) (by kernel_rfl) w
  go_enter Tryz.func58, Tryz.ntmps58
  go_wp2
  iterate 5
    refine wp_loop_rounds 1 ?_
    rw [rounds_succ]
    go_wp2
  go_ret
  exact ⟨rfl, (Below.refl _ w).alloc (Nat.le_refl _) _⟩
set_option maxRecDepth 100000 in
theorem flatSymbols_nil (w : World) : Calls Tryz.prog 59 #[.slice none 0 0] w fun e w' => e = .returned (.bool true) ∧ Below w.heap.size w w' := by
  have hmk := fun w => make_none (t := 81) (e := 203) (by kernel_rfl) (by kernel_rfl) w
  go_enter Tryz.func59, Tryz.ntmps59
  go_wp2
  iterate 5
    refine wp_loop_rounds 1 ?_
    rw [rounds_succ]
    go_wp2
  go_ret
  exact ⟨rfl, (Below.refl _ w).alloc (Nat.le_refl _) _⟩
set_option maxRecDepth 100000 in
theorem flatGrammars_nil (w : World) : Calls Tryz.prog 60 #[.slice none 0 0] w fun e w' => e = .returned (.bool true) ∧ Below w.heap.size w w' := by
  have hmk := fun w => make_none (t := 82) (e := 208) (by kernel_rfl) (by kernel_rfl) w
  go_enter Tryz.func60, Tryz.ntmps60
  go_wp2
  iterate 5
    refine wp_loop_rounds 1 ?_
    rw [rounds_succ]
    go_wp2
  go_ret
  exact ⟨rfl, (Below.refl _ w).alloc (Nat.le_refl _) _⟩
set_option maxRecDepth 100000 in
theorem flatItems_nil (w : World) : Calls Tryz.prog 61 #[.slice none 0 0] w fun e w' => e = .returned (.bool true) ∧ Below w.heap.size w w' := by
  have hmk := fun w => make_none (t := 83) (e := 213) (by kernel_rfl) (by kernel_rfl) w
  go_enter Tryz.func61, Tryz.ntmps61
  go_wp2
  iterate 5
    refine wp_loop_rounds 1 ?_
    rw [rounds_succ]
    go_wp2
  go_ret
  exact ⟨rfl, (Below.refl _ w).alloc (Nat.le_refl _) _⟩
set_option maxRecDepth 100000 in
theorem flatEdges_nil (w : World) : Calls Tryz.prog 62 #[.slice none 0 0] w fun e w' => e = .returned (.bool true) ∧ Below w.heap.size w w' := by
  have hmk := fun w => make_none (t := 84) (e := 217) (by kernel_rfl) (by kernel_rfl) w
  go_enter Tryz.func62, Tryz.ntmps62
  go_wp2
  iterate 5
    refine wp_loop_rounds 1 ?_
    rw [rounds_succ]
    go_wp2
  go_ret
  exact ⟨rfl, (Below.refl _ w).alloc (Nat.le_refl _) _⟩
set_option maxRecDepth 100000 in
theorem flatStates_nil (w : World) : Calls Tryz.prog 63 #[.slice none 0 0] w fun e w' => e = .returned (.bool true) ∧ Below w.heap.size w w' := by
  have hmk := fun w => make_none (t := 85) (e := 221) (by kernel_rfl) (by kernel_rfl) w
  go_enter Tryz.func63, Tryz.ntmps63
  go_wp2
  iterate 5
    refine wp_loop_rounds 1 ?_
    rw [rounds_succ]
    go_wp2
  go_ret
  exact ⟨rfl, (Below.refl _ w).alloc (Nat.le_refl _) _⟩
set_option maxRecDepth 100000 in
theorem flatAheads_nil (w : World) : Calls Tryz.prog 64 #[.slice none 0 0] w fun e w' => e = .returned (.bool true) ∧ Below w.heap.size w w' := by
  have hmk := fun w => make_none (t := 86) (e := 226) (by kernel_rfl) (by kernel_rfl) w
  go_enter Tryz.func64, Tryz.ntmps64
  go_wp2
  iterate 5
    refine wp_loop_rounds 1 ?_
    rw [rounds_succ]
    go_wp2
  go_ret
  exact ⟨rfl, (Below.refl _ w).alloc (Nat.le_refl _) _⟩
set_option maxRecDepth 100000 in
theorem flatActs_nil (w : World) : Calls Tryz.prog 65 #[.slice none 0 0] w fun e w' => e = .returned (.bool true) ∧ Below w.heap.size w w' := by
  have hmk := fun w => make_none (t := 87) (e := 231) (by kernel_rfl) (by kernel_rfl) w
  go_enter Tryz.func65, Tryz.ntmps65
  go_wp2
  iterate 5
    refine wp_loop_rounds 1 ?_
    rw [rounds_succ]
    go_wp2
  go_ret
  exact ⟨rfl, (Below.refl _ w).alloc (Nat.le_refl _) _⟩
set_option maxRecDepth 100000 in
theorem flatClashes_nil (w : World) : Calls Tryz.prog 66 #[.slice none 0 0] w fun e w' => e = .returned (.bool true) ∧ Below w.heap.size w w' := by
  have hmk := fun w => make_none (t := 88) (e := 236) (by kernel_rfl) (by kernel_rfl) w
  go_enter Tryz.func66, Tryz.ntmps66
  go_wp2
  iterate 5
    refine wp_loop_rounds 1 ?_
    rw [rounds_succ]
    go_wp2
  go_ret
  exact ⟨rfl, (Below.refl _ w).alloc (Nat.le_refl _) _⟩
set_option maxRecDepth 100000 in
theorem flatPackedRow_nil (w : World) : Calls Tryz.prog 67 #[.slice none 0 0] w fun e w' => e = .returned (.bool true) ∧ Below w.heap.size w w' := by
  have hmk := fun w => make_none (t := 89) (e := 240) (by kernel_rfl) (by kernel_rfl) w
  go_enter Tryz.func67, Tryz.ntmps67
  go_wp2
  iterate 5
    refine wp_loop_rounds 1 ?_
    rw [rounds_succ]
    go_wp2
  go_ret
  exact ⟨rfl, (Below.refl _ w).alloc (Nat.le_refl _) _⟩
set_option maxRecDepth 100000 in
theorem flatTrees_nil (w : World) : Calls Tryz.prog 68 #[.slice none 0 0] w fun e w' => e = .returned (.bool true) ∧ Below w.heap.size w w' := by
  have hmk := fun w => make_none (t := 90) (e := 245) (by kernel_rfl) (by kernel_rfl) w
  go_enter Tryz.func68, Tryz.ntmps68
  go_wp2
  iterate 5
    refine wp_loop_rounds 1 ?_
    rw [rounds_succ]
    go_wp2
  go_ret
  exact ⟨rfl, (Below.refl _ w).alloc (Nat.le_refl _) _⟩
set_option maxRecDepth 100000 in
theorem flatToks_nil (w : World) : Calls Tryz.prog 69 #[.slice none 0 0] w fun e w' => e = .returned (.bool true) ∧ Below w.heap.size w w' := by
  have hmk := fun w => make_none (t := 91) (e := 250) (by kernel_rfl) (by kernel_rfl) w
  go_enter Tryz.func69, Tryz.ntmps69
  go_wp2
  iterate 5
    refine wp_loop_rounds 1 ?_
    rw [rounds_succ]
    go_wp2
  go_ret
  exact ⟨rfl, (Below.refl _ w).alloc (Nat.le_refl _) _⟩
set_option maxRecDepth 100000 in
theorem flatParsedRow_nil (w : World) : Calls Tryz.prog 70 #[.slice none 0 0] w fun e w' => e = .returned (.bool true) ∧ Below w.heap.size w w' := by
  have hmk := fun w => make_none (t := 92) (e := 255) (by kernel_rfl) (by kernel_rfl) w
  go_enter Tryz.func70, Tryz.ntmps70
  go_wp2
  iterate 5
    refine wp_loop_rounds 1 ?_
    rw [rounds_succ]
    go_wp2
  go_ret
  exact ⟨rfl, (Below.refl _ w).alloc (Nat.le_refl _) _⟩
set_option maxRecDepth 100000 in
theorem flatNotices_nil (w : World) : Calls Tryz.prog 71 #[.slice none 0 0] w fun e w' => e = .returned (.bool true) ∧ Below w.heap.size w w' := by
  have hmk := fun w => make_none (t := 93) (e := 260) (by kernel_rfl) (by kernel_rfl) w
  go_enter Tryz.func71, Tryz.ntmps71
  go_wp2
  iterate 5
    refine wp_loop_rounds 1 ?_
    rw [rounds_succ]
    go_wp2
  go_ret
  exact ⟨rfl, (Below.refl _ w).alloc (Nat.le_refl _) _⟩
end Go.Proofs.YtlilegbdjnhfjaaGreatDoor
