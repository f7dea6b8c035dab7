/-
  The statements' own helpers on productions: KeptProds.
-/
import Derived.Test.YtehaoiimhgkckaaProdK3
namespace Go.Proofs.Ytehaoiimhgkckaa
open Go.RowKit
set_option maxHeartbeats 400000

set_option maxRecDepth 100000 in
set_option maxHeartbeats 2000000 in
theorem keptProds_any (B : Nat) (v u : Value) (l : List Prd) (w : World) (hv : LentPs w B v l) (hu : IsPrds w u l) :
    Calls Try.prog 45 #[v, u] w fun e w' => e = .returned (.bool true) ∧ Below w.heap.size w w' := by
  obtain ⟨g, cap, xs, rfl, _, hcap, hcm, hxl, hc, hle, hfit, _⟩ := hv
  obtain ⟨hlen, a, cap', rfl, hca, hcb, hx⟩ := id hu
  have hcm' : cap ≤ 9223372036854775807 := hcm
  clear hcm hcb hx
  have hxn : xs.length = l.length := by rw [← hxl, List.length_map]
  have HC := Lib.hid (And.intro hc (And.intro hxl (And.intro hxn (And.intro hle hfit))))
  have HU := Lib.hid hu
  clear hc hu hxl hxn hle hfit
  generalize hN : l.length = N at *
  have HN := Lib.hid hN
  clear hN
  go_enter Try.func45, Try.ntmps45
  go_wp2
  go_loopw [6] (fun i wr => ∃ k : Nat, k ≤ N + 12 ∧ i = .int .i64 k ∧ Below w.heap.size w wr) (fun i _ => N + 12 - (intOf i).toNat)
  case atStart => exact ⟨0, by omega, rfl, Below.refl _ _⟩
  case round =>
    obtain ⟨k, hk, rfl, hB⟩ := hrel
    have hne := after_ne wr
    by_cases hlt : k < N
    · have hk1 : k < l.length := by rw [HN.out]; exact hlt
      have hk2 : k < xs.length := by rw [HC.out.2.2.1]; exact hlt
      obtain ⟨b, o, ra, rc, rfl, hq, hcx⟩ := HU.out.get k hk1
      have hcg := flat_cells (m := 6) (fun _ => rfl) HC.out.1 k (by rw [List.length_append]; omega)
      rw [List.getElem_append_left hk2] at hcg
      have hx1 : xs[k].1 = l[k] := by
        have h1 := HC.out.2.1
        have h2 : (xs.map Prod.fst)[k]'(by simpa using hk2) = xs[k].1 := List.getElem_map ..
        rw [← h2]
        simp only [h1]
      have hl1 := HC.out.2.2.2.1 _ (List.getElem_mem hk2)
      have hft := HC.out.2.2.2.2 _ (List.getElem_mem hk1)
      rw [hx1] at hl1
      have hcg' : Cells w g (0 + k * 6) (prdCells l[k] xs[k].2) := by rw [← hx1]; exact hcg
      generalize xs[k].2 = rv at *
      have hints := hl1.ints hft.bound hft.len
      have hS := fun q : After wr => after_call q (keptProd_any B rv _ l[k] q.w hft.ok (((hl1.fr (ch := nothing) (Fr.new hB) fun _ _ e => e)).fr (ch := nothing) (Fr.new q.ok) fun _ _ e => e) ((hints.fr (Fr.new hB)).fr (Fr.new q.ok)) ((hq.fr (Fr.new hB)).fr (Fr.new q.ok)))
      obtain ⟨g2, cap2, rfl, _⟩ := hl1
      unfold prdVal at hS
      clear hcg hx1 hft hints hq
      generalize l[k].right.length = rl at *
      generalize l[k] = s at *
      have HS := Lib.hid hS
      have x0 := after_cell ((Fr.new hB).cell (hcx 0 (by simp [prdCells])) fun e => e)
      have x1 := after_cell ((Fr.new hB).cell (hcx 1 (by simp [prdCells])) fun e => e)
      have x2 := after_cell ((Fr.new hB).cell (hcx 2 (by simp [prdCells])) fun e => e)
      have x3 := after_cell ((Fr.new hB).cell (hcx 3 (by simp [prdCells])) fun e => e)
      have x4 := after_cell ((Fr.new hB).cell (hcx 4 (by simp [prdCells])) fun e => e)
      have x5 := after_cell ((Fr.new hB).cell (hcx 5 (by simp [prdCells])) fun e => e)
      have y0 := after_cell ((Fr.new hB).cell (hcg' 0 (by simp [prdCells])) fun e => e)
      have y1 := after_cell ((Fr.new hB).cell (hcg' 1 (by simp [prdCells])) fun e => e)
      have y2 := after_cell ((Fr.new hB).cell (hcg' 2 (by simp [prdCells])) fun e => e)
      have y3 := after_cell ((Fr.new hB).cell (hcg' 3 (by simp [prdCells])) fun e => e)
      have y4 := after_cell ((Fr.new hB).cell (hcg' 4 (by simp [prdCells])) fun e => e)
      have y5 := after_cell ((Fr.new hB).cell (hcg' 5 (by simp [prdCells])) fun e => e)
      simp only [prdCells, List.getElem_cons_zero, List.getElem_cons_succ, Nat.add_zero, Nat.zero_add] at x0 x1 x2 x3 x4 x5 y0 y1 y2 y3 y4 y5
      have t1 : decide (k < N) = true := by simp [hlt]
      have t2 : decide (N ≤ k) = false := by simp; omega
      have t3 : k < N + 12 := by omega
      have HB := Lib.hid hB
      clear hB hcx hcg' hS
      go_wp2_with fail
      refine wp_region_after wr (by kernel_rfl) (by kernel_rfl) (Below.refl _ _) ?_
      repeat (go_big_quiet_step (exact HS.out _))
      refine wpQuiet_nil ?_
      intro _ hw'
      obtain ⟨q, hw''⟩ := hw'
      subst hw''
      go_wp2
      go_roundw
      case rel => exact ⟨k + 1, by omega, by simp, HB.out.trans (q.ok.mono HB.out.size)⟩
      case measure => simp [intOf]; omega
    · by_cases hlt2 : k < N + 12
      · have hcg := flat_cells (m := 6) (fun _ => rfl) HC.out.1 k (by rw [List.length_append, markPs_length, HC.out.2.2.1]; exact hlt2)
        rw [List.getElem_append_right (by rw [HC.out.2.2.1]; omega)] at hcg
        have h3 : (markPs 12)[k - xs.length]'(by rw [markPs_length, HC.out.2.2.1]; omega) = markP ((k : Int) - N) := by
          simp [markPs, HC.out.2.2.1]
          congr 1
          omega
        rw [h3] at hcg
        have hm := fun p : After wr => after_call p (markProd_any ((k : Int) - N) p.w (by omega) (by omega))
        have hok : PrdOk (markP ((k : Int) - N)).1 := ⟨show i64 0 by unfold i64; decide, show i64 0 by unfold i64; decide, by unfold markP markOf i64; simp only; omega⟩
        have hs := fun p : After wr => after_call p (sameProd_any _ _ _ p.w ⟨hok, .slice none 0 0, Ints.nil _, rfl⟩ ⟨hok, .slice none 0 0, Ints.nil _, rfl⟩)
        unfold prdVal markP nNone at hs
        simp only at hs
        have y0 := after_cell ((Fr.new hB).cell (hcg 0 (by simp [cellsP, prdCells])) fun e => e)
        have y1 := after_cell ((Fr.new hB).cell (hcg 1 (by simp [cellsP, prdCells])) fun e => e)
        have y2 := after_cell ((Fr.new hB).cell (hcg 2 (by simp [cellsP, prdCells])) fun e => e)
        have y3 := after_cell ((Fr.new hB).cell (hcg 3 (by simp [cellsP, prdCells])) fun e => e)
        have y4 := after_cell ((Fr.new hB).cell (hcg 4 (by simp [cellsP, prdCells])) fun e => e)
        have y5 := after_cell ((Fr.new hB).cell (hcg 5 (by simp [cellsP, prdCells])) fun e => e)
        simp only [cellsP, prdCells, markP, nNone, List.getElem_cons_zero, List.getElem_cons_succ, Nat.add_zero, Nat.zero_add] at y0 y1 y2 y3 y4 y5
        have hw1 : IntKind.i64.wrap ((k : Int) - N) = (k : Int) - N := IntWalk.i64_in _ (by omega)
        clear hok h3
        generalize markOf ((k : Int) - N) = mk at *
        have HM := Lib.hid hm
        have HS := Lib.hid hs
        have t1 : decide (k < N) = false := by simp; omega
        have t2 : decide (N ≤ k) = true := by simp; omega
        have HB := Lib.hid hB
        clear hB hcg hm hs
        go_wp2_with fail
        refine wp_region_after wr (by kernel_rfl) (by kernel_rfl) (Below.refl _ _) ?_
        repeat (go_big_quiet_step (first | exact HM.out _ | exact HS.out _))
        refine wpQuiet_nil ?_
        intro _ hw'
        obtain ⟨q, hw''⟩ := hw'
        subst hw''
        clear hw1
        go_wp2
        go_roundw
        case rel => exact ⟨k + 1, by omega, by simp, HB.out.trans (q.ok.mono HB.out.size)⟩
        case measure => simp [intOf]; omega
      · obtain rfl : k = N + 12 := by omega
        clear hlt hlt2
        go_wp2
        go_ret
        exact ⟨rfl, hB⟩
end Go.Proofs.Ytehaoiimhgkckaa
