/-
  The statements' own helpers on symbols: KeptSymbols, SameSymbols, of lists that are one.
-/
import Derived.Test.YtehaoiimhgkckaaLentS
import Derived.Test.YtehaoiimhgkckaaLate
import Derived.Test.YtehaoiimhgkckaaAfter
namespace Go.Proofs.Ytehaoiimhgkckaa
open Go.RowKit
set_option maxHeartbeats 400000

set_option maxRecDepth 100000 in
set_option maxHeartbeats 2000000 in
theorem keptSyms_any (B : Nat) (v u : Value) (l : List Sym) (w : World) (hv : LentS w B v l) (hu : IsSyms w u l) :
    Calls Try.prog 44 #[v, u] w fun e w' => e = .returned (.bool true) ∧ Below w.heap.size w w' := by
  obtain ⟨g, cap, rfl, _, hcap, hcm, hc, _, _⟩ := hv
  obtain ⟨hlen, a, cap', rfl, hca, hcb, hx⟩ := id hu
  have hcm' : cap ≤ 9223372036854775807 := hcm
  clear hcm hcb
  have HC := Lib.hid hc
  have HU := Lib.hid hu
  clear hc hu hx
  generalize hN : l.length = N at *
  have HN := Lib.hid hN
  clear hN
  go_enter Try.func44, Try.ntmps44
  go_wp2
  go_loopw [6] (fun i wr => ∃ k : Nat, k ≤ N + 12 ∧ i = .int .i64 k ∧ Below w.heap.size w wr) (fun i _ => N + 12 - (intOf i).toNat)
  case atStart => exact ⟨0, by omega, rfl, Below.refl _ _⟩
  case round =>
    obtain ⟨k, hk, rfl, hB⟩ := hrel
    have hne := after_ne wr
    by_cases hlt : k < N
    · have hk1 : k < l.length := by rw [HN.out]; exact hlt
      obtain ⟨b, o, rfl, _, hcx⟩ := HU.out.get k hk1
      have hcg := flat_cells (m := 4) (fun _ => rfl) HC.out k (by rw [List.length_append]; omega)
      rw [List.getElem_append_left hk1] at hcg
      generalize l[k] = s at *
      have x0 := after_cell ((Fr.new hB).cell (hcx 0 (by simp [symCells])) fun e => e)
      have x1 := after_cell ((Fr.new hB).cell (hcx 1 (by simp [symCells])) fun e => e)
      have x2 := after_cell ((Fr.new hB).cell (hcx 2 (by simp [symCells])) fun e => e)
      have x3 := after_cell ((Fr.new hB).cell (hcx 3 (by simp [symCells])) fun e => e)
      have y0 := after_cell ((Fr.new hB).cell (hcg 0 (by simp [symCells])) fun e => e)
      have y1 := after_cell ((Fr.new hB).cell (hcg 1 (by simp [symCells])) fun e => e)
      have y2 := after_cell ((Fr.new hB).cell (hcg 2 (by simp [symCells])) fun e => e)
      have y3 := after_cell ((Fr.new hB).cell (hcg 3 (by simp [symCells])) fun e => e)
      simp only [symCells, List.getElem_cons_zero, List.getElem_cons_succ, Nat.add_zero, Nat.zero_add] at x0 x1 x2 x3 y0 y1 y2 y3
      have t1 : decide (k < N) = true := by simp [hlt]
      have t2 : decide (N ≤ k) = false := by simp; omega
      have t3 : k < N + 12 := by omega
      have HB := Lib.hid hB
      clear hB hcx hcg
      go_wp2_with fail
      refine wp_region_after wr (by kernel_rfl) (by kernel_rfl) (Below.refl _ _) ?_
      repeat (go_big_quiet_step (fail))
      refine wpQuiet_nil ?_
      intro _ hw'
      obtain ⟨q, hw''⟩ := hw'
      subst hw''
      go_wp2
      go_roundw
      case rel => exact ⟨k + 1, by omega, by simp, HB.out.trans (q.ok.mono HB.out.size)⟩
      case measure => simp [intOf]; omega
    · by_cases hlt2 : k < N + 12
      · have hcg := flat_cells (m := 4) (fun _ => rfl) HC.out k (by rw [List.length_append, markSyms_length, HN.out]; exact hlt2)
        rw [List.getElem_append_right (by rw [HN.out]; omega)] at hcg
        have h3 : (markSyms 12)[k - l.length]'(by rw [markSyms_length, HN.out]; omega) = markSym ((k : Int) - N) := by
          simp [markSyms, HN.out]
          congr 1
          omega
        rw [h3] at hcg
        have hm := fun p : After wr => after_call p (markSymbol_any ((k : Int) - N) p.w (by omega) (by omega))
        have y0 := after_cell ((Fr.new hB).cell (hcg 0 (by simp [symCells])) fun e => e)
        have y1 := after_cell ((Fr.new hB).cell (hcg 1 (by simp [symCells])) fun e => e)
        have y2 := after_cell ((Fr.new hB).cell (hcg 2 (by simp [symCells])) fun e => e)
        have y3 := after_cell ((Fr.new hB).cell (hcg 3 (by simp [symCells])) fun e => e)
        simp only [symCells, markSym, nNone, List.getElem_cons_zero, List.getElem_cons_succ, Nat.add_zero, Nat.zero_add] at y0 y1 y2 y3
        have hw1 : IntKind.i64.wrap ((k : Int) - N) = (k : Int) - N := IntWalk.i64_in _ (by omega)
        generalize markOf ((k : Int) - N) = mk at *
        have HM := Lib.hid hm
        have t1 : decide (k < N) = false := by simp; omega
        have t2 : decide (N ≤ k) = true := by simp; omega
        have HB := Lib.hid hB
        clear hB hcg h3 hm
        go_wp2_with fail
        refine wp_region_after wr (by kernel_rfl) (by kernel_rfl) (Below.refl _ _) ?_
        repeat (go_big_quiet_step (exact HM.out _))
        refine wpQuiet_nil ?_
        intro _ hw'
        obtain ⟨q, hw''⟩ := hw'
        subst hw''
        clear hw1
        go_wp2
        go_roundw
        case rel => exact ⟨k + 1, by omega, by simp, HB.out.trans (q.ok.mono HB.out.size)⟩
        case measure => simp [intOf]; omega
      · obtain rfl : k = N + 12 := by omega
        clear hlt hlt2
        go_wp2
        go_ret
        exact ⟨rfl, hB⟩

set_option maxRecDepth 100000 in
set_option maxHeartbeats 2000000 in
theorem sameSyms_any (v u : Value) (l : List Sym) (w : World) (hv : IsSyms w v l) (hu : IsSyms w u l) :
    Calls Try.prog 49 #[v, u] w fun e w' => e = .returned (.bool true) ∧ Below w.heap.size w w' := by
  obtain ⟨_, a', cap, rfl, _, _, hx'⟩ := id hv
  obtain ⟨hlen, a, cap', rfl, _, _, hx⟩ := id hu
  clear hx hx'
  have HV := Lib.hid hv
  have HU := Lib.hid hu
  clear hu hv
  generalize hN : l.length = N at *
  have HN := Lib.hid hN
  clear hN
  go_enter Try.func49, Try.ntmps49
  go_wp2
  go_loopw [5] (fun i wr => ∃ k : Nat, k ≤ N ∧ i = .int .i64 k ∧ Below w.heap.size w wr) (fun i _ => N - (intOf i).toNat)
  case atStart => exact ⟨0, by omega, rfl, Below.refl _ _⟩
  case round =>
    obtain ⟨k, hk, rfl, hB⟩ := hrel
    have hne := after_ne wr
    by_cases hlt : k < N
    · have hk1 : k < l.length := by rw [HN.out]; exact hlt
      obtain ⟨b, o, rfl, _, hcx⟩ := HU.out.get k hk1
      obtain ⟨b', o', rfl, _, hcg⟩ := HV.out.get k hk1
      generalize l[k] = s at *
      have x0 := after_cell ((Fr.new hB).cell (hcx 0 (by simp [symCells])) fun e => e)
      have x1 := after_cell ((Fr.new hB).cell (hcx 1 (by simp [symCells])) fun e => e)
      have x2 := after_cell ((Fr.new hB).cell (hcx 2 (by simp [symCells])) fun e => e)
      have x3 := after_cell ((Fr.new hB).cell (hcx 3 (by simp [symCells])) fun e => e)
      have y0 := after_cell ((Fr.new hB).cell (hcg 0 (by simp [symCells])) fun e => e)
      have y1 := after_cell ((Fr.new hB).cell (hcg 1 (by simp [symCells])) fun e => e)
      have y2 := after_cell ((Fr.new hB).cell (hcg 2 (by simp [symCells])) fun e => e)
      have y3 := after_cell ((Fr.new hB).cell (hcg 3 (by simp [symCells])) fun e => e)
      simp only [symCells, List.getElem_cons_zero, List.getElem_cons_succ, Nat.add_zero] at x0 x1 x2 x3 y0 y1 y2 y3
      have HB := Lib.hid hB
      clear hB hcx hcg
      go_wp2_with fail
      refine wp_region_after wr (by kernel_rfl) (by kernel_rfl) (Below.refl _ _) ?_
      repeat (go_big_quiet_step (fail))
      refine wpQuiet_nil ?_
      intro _ hw'
      obtain ⟨q, hw''⟩ := hw'
      subst hw''
      go_wp2
      go_roundw
      case rel => exact ⟨k + 1, by omega, by simp, HB.out.trans (q.ok.mono HB.out.size)⟩
      case measure => simp [intOf]; omega
    · obtain rfl : k = N := by omega
      clear hlt
      go_wp2
      go_ret
      exact ⟨rfl, hB⟩
end Go.Proofs.Ytehaoiimhgkckaa
