/-
  The statements' own helpers on productions: SameProd, SameProds, KeptProd, of what is one.
-/
import Derived.Test.YtehaoiimhgkckaaLentS
import Derived.Test.YtehaoiimhgkckaaLate
import Derived.Test.YtehaoiimhgkckaaSym3
namespace Go.Proofs.Ytehaoiimhgkckaa
open Go.RowKit
set_option maxHeartbeats 400000

theorem Lent.fr {ch : Nat → Prop} {w w' : World} {B : Nat} {v : Value} {xs : List Int} (h : Lent w B v xs) (k : Fr ch w w') (hc : ∀ g, B ≤ g → ¬ ch g) : Lent w' B v xs := by
  obtain ⟨g, cap, h1, h2, h3, h4, h5⟩ := h
  exact ⟨g, cap, h1, h2, h3, h4, h5.fr k (hc g h2)⟩
theorem Lent.mono {w : World} {B B' : Nat} {v : Value} {xs : List Int} (h : Lent w B v xs) (hb : B' ≤ B) : Lent w B' v xs := by
  obtain ⟨g, cap, h1, h2, h3⟩ := h
  exact ⟨g, cap, h1, Nat.le_trans hb h2, h3⟩
theorem Lent.ints {w : World} {B : Nat} {v : Value} {xs : List Int} (h : Lent w B v xs) (hx : ∀ x ∈ xs, -9223372036854775808 ≤ x ∧ x ≤ 9223372036854775807) (hl : xs.length ≤ 17592186044416) : Ints w v xs := by
  obtain ⟨g, cap, rfl, _, h3, h4, h5⟩ := h
  refine ⟨hx, hl, some ⟨g, 0, none⟩, cap, rfl, by omega, h4, .inr ⟨g, 0, rfl, fun i hi => ?_⟩⟩
  have hi' : i < xs.length := by simpa using hi
  have := h5 i (by simp; omega)
  rw [this, List.getElem_map, List.getElem_append_left hi', List.getElem_map]

set_option maxRecDepth 100000 in
set_option maxHeartbeats 2000000 in
theorem sameProd_any (u v : Value) (p : Prd) (w : World) (hu : IsPrd w u p) (hv : IsPrd w v p) :
    Calls Try.prog 68 #[u, v] w fun e w' => e = .returned (.bool true) ∧ Below w.heap.size w w' := by
  obtain ⟨_, ra, hra, rfl⟩ := hu
  obtain ⟨_, rb, hrb, rfl⟩ := hv
  have ha := hra
  have hb := hrb
  obtain ⟨_, _, a, ac, rfl, _⟩ := hra
  obtain ⟨_, _, b, bc, rfl, _⟩ := hrb
  obtain ⟨left, right, prec, has, action, whr⟩ := p
  simp only at ha hb
  unfold prdVal
  simp only
  obtain ⟨w1, hw1⟩ : ∃ w1, w1 = (w.alloc (.cells #[.int .i64 left, .slice a right.length ac, .int .i64 prec, .bool has, .string action, .int .i64 whr] 62 (0, 0))).alloc (.cells #[.int .i64 left, .slice b right.length bc, .int .i64 prec, .bool has, .string action, .int .i64 whr] 62 (0, 0)) := ⟨_, rfl⟩
  have hx := two_boxes w (.cells #[.int .i64 left, .slice a right.length ac, .int .i64 prec, .bool has, .string action, .int .i64 whr] 62 (0, 0)) (.cells #[.int .i64 left, .slice b right.length bc, .int .i64 prec, .bool has, .string action, .int .i64 whr] 62 (0, 0))
  rw [← hw1] at hx
  obtain ⟨o0, o1, hB1⟩ := hx
  have hS := same_any _ _ right right w1 (ha.fr (Fr.new hB1)) (hb.fr (Fr.new hB1))
  have HS := Lib.hid (hS.mono fun e w' hh => (show e = .returned (.bool true) ∧ ∃ q : After w1, w' = q.w from by
    obtain ⟨he, n, rfl⟩ := hh
    exact ⟨by rw [he]; simp [sameI], ⟨w1.drewN n, below_drewN (Below.refl _ _) n⟩, rfl⟩))
  have g0 : ∀ q : After w1, q.w.cell? ⟨w.heap.size, 0, none⟩ = some (.int .i64 left) := after_obj o0 0 rfl
  have g1 : ∀ q : After w1, q.w.cell? ⟨w.heap.size, 1, none⟩ = some (.slice a right.length ac) := after_obj o0 1 rfl
  have g2 : ∀ q : After w1, q.w.cell? ⟨w.heap.size, 2, none⟩ = some (.int .i64 prec) := after_obj o0 2 rfl
  have g3 : ∀ q : After w1, q.w.cell? ⟨w.heap.size, 3, none⟩ = some (.bool has) := after_obj o0 3 rfl
  have g4 : ∀ q : After w1, q.w.cell? ⟨w.heap.size, 4, none⟩ = some (.string action) := after_obj o0 4 rfl
  have g5 : ∀ q : After w1, q.w.cell? ⟨w.heap.size, 5, none⟩ = some (.int .i64 whr) := after_obj o0 5 rfl
  have k0 : ∀ q : After w1, q.w.cell? ⟨w.heap.size + 1, 0, none⟩ = some (.int .i64 left) := after_obj o1 0 rfl
  have k1 : ∀ q : After w1, q.w.cell? ⟨w.heap.size + 1, 1, none⟩ = some (.slice b right.length bc) := after_obj o1 1 rfl
  have k2 : ∀ q : After w1, q.w.cell? ⟨w.heap.size + 1, 2, none⟩ = some (.int .i64 prec) := after_obj o1 2 rfl
  have k3 : ∀ q : After w1, q.w.cell? ⟨w.heap.size + 1, 3, none⟩ = some (.bool has) := after_obj o1 3 rfl
  have k4 : ∀ q : After w1, q.w.cell? ⟨w.heap.size + 1, 4, none⟩ = some (.string action) := after_obj o1 4 rfl
  have k5 : ∀ q : After w1, q.w.cell? ⟨w.heap.size + 1, 5, none⟩ = some (.int .i64 whr) := after_obj o1 5 rfl
  have z0 := g0 ⟨w1, Below.refl _ _⟩
  have z1 := g1 ⟨w1, Below.refl _ _⟩
  have y0 := k0 ⟨w1, Below.refl _ _⟩
  have y1 := k1 ⟨w1, Below.refl _ _⟩
  simp only at z0 z1 y0 y1
  have HW := Lib.hid hw1
  have HB := Lib.hid hB1
  clear hw1 hB1 o0 o1 hS ha hb
  generalize right.length = n at *
  go_enter Try.func68, Try.ntmps68
  go_upto_region 1 with fail
  rw [← HW.out]
  go_wp2_with (go_at_call 59; refine HS.out.mono ?_; rintro e w' ⟨rfl, q, rfl⟩)
  go_ret
  exact ⟨rfl, HB.out.trans (q.ok.mono HB.out.size)⟩

theorem kept_below (B : Nat) (v u : Value) (xs : List Int) (w : World) (hv : Lent w B v xs) (hu : Ints w u xs) :
    Calls Try.prog 33 #[v, u] w fun e w' => e = .returned (.bool true) ∧ Below w.heap.size w w' :=
  (kept_any B v u xs w hv hu).mono fun _ _ ⟨he, n, hw⟩ => ⟨he, hw ▸ below_drewN (Below.refl _ _) n⟩
set_option maxRecDepth 100000 in
set_option maxHeartbeats 2000000 in
theorem keptProd_any (B : Nat) (ra v : Value) (p : Prd) (w : World) (hok : PrdOk p) (hl : Lent w B ra p.right) (hra : Ints w ra p.right) (hv : IsPrd w v p) :
    Calls Try.prog 67 #[prdVal p ra, v] w fun e w' => e = .returned (.bool true) ∧ Below w.heap.size w w' := by
  have hu : IsPrd w (prdVal p ra) p := ⟨hok, ra, hra, rfl⟩
  have hv' := hv
  obtain ⟨_, rb, hrb, rfl⟩ := hv
  have hb := hrb
  obtain ⟨_, _, a, ac, rfl, _⟩ := hra
  obtain ⟨_, _, b, bc, rfl, _⟩ := hrb
  obtain ⟨left, right, prec, has, action, whr⟩ := p
  simp only at hb hl
  unfold prdVal at hu hv'
  unfold prdVal
  simp only at hu hv'
  simp only
  obtain ⟨w1, hw1⟩ : ∃ w1, w1 = (w.alloc (.cells #[.int .i64 left, .slice a right.length ac, .int .i64 prec, .bool has, .string action, .int .i64 whr] 62 (0, 0))).alloc (.cells #[.int .i64 left, .slice b right.length bc, .int .i64 prec, .bool has, .string action, .int .i64 whr] 62 (0, 0)) := ⟨_, rfl⟩
  have hx := two_boxes w (.cells #[.int .i64 left, .slice a right.length ac, .int .i64 prec, .bool has, .string action, .int .i64 whr] 62 (0, 0)) (.cells #[.int .i64 left, .slice b right.length bc, .int .i64 prec, .bool has, .string action, .int .i64 whr] 62 (0, 0))
  rw [← hw1] at hx
  obtain ⟨o0, o1, hB1⟩ := hx
  have hS := sameProd_any _ _ _ w1 (hu.fr (Fr.new hB1)) (hv'.fr (Fr.new hB1))
  have HS := Lib.hid (hS.mono fun e w' hh => (show e = .returned (.bool true) ∧ ∃ q : After w1, w' = q.w from ⟨hh.1, ⟨w', hh.2⟩, rfl⟩))
  have HK := Lib.hid fun q : After w1 => after_call q (kept_below B _ _ right q.w ((hl.fr (ch := nothing) (Fr.new hB1) fun _ _ e => e).fr (ch := nothing) (Fr.new q.ok) fun _ _ e => e) ((hb.fr (Fr.new hB1)).fr (Fr.new q.ok)))
  have g1 : ∀ q : After w1, q.w.cell? ⟨w.heap.size, 1, none⟩ = some (.slice a right.length ac) := after_obj o0 1 rfl
  have k1 : ∀ q : After w1, q.w.cell? ⟨w.heap.size + 1, 1, none⟩ = some (.slice b right.length bc) := after_obj o1 1 rfl
  have z0 : w1.cell? ⟨w.heap.size, 0, none⟩ = some (.int .i64 left) := obj_cell o0 0 rfl
  have z1 : w1.cell? ⟨w.heap.size, 1, none⟩ = some (.slice a right.length ac) := obj_cell o0 1 rfl
  have z2 : w1.cell? ⟨w.heap.size, 2, none⟩ = some (.int .i64 prec) := obj_cell o0 2 rfl
  have z3 : w1.cell? ⟨w.heap.size, 3, none⟩ = some (.bool has) := obj_cell o0 3 rfl
  have z4 : w1.cell? ⟨w.heap.size, 4, none⟩ = some (.string action) := obj_cell o0 4 rfl
  have z5 : w1.cell? ⟨w.heap.size, 5, none⟩ = some (.int .i64 whr) := obj_cell o0 5 rfl
  have y0 : w1.cell? ⟨w.heap.size + 1, 0, none⟩ = some (.int .i64 left) := obj_cell o1 0 rfl
  have y1 : w1.cell? ⟨w.heap.size + 1, 1, none⟩ = some (.slice b right.length bc) := obj_cell o1 1 rfl
  have y2 : w1.cell? ⟨w.heap.size + 1, 2, none⟩ = some (.int .i64 prec) := obj_cell o1 2 rfl
  have y3 : w1.cell? ⟨w.heap.size + 1, 3, none⟩ = some (.bool has) := obj_cell o1 3 rfl
  have y4 : w1.cell? ⟨w.heap.size + 1, 4, none⟩ = some (.string action) := obj_cell o1 4 rfl
  have y5 : w1.cell? ⟨w.heap.size + 1, 5, none⟩ = some (.int .i64 whr) := obj_cell o1 5 rfl
  have HW := Lib.hid hw1
  have HB := Lib.hid hB1
  clear hw1 hB1 o0 o1 hS hu hv' hb hl hok
  generalize right.length = n at *
  go_enter Try.func67, Try.ntmps67
  go_upto_region 1 with fail
  rw [← HW.out]
  go_wp2_with (first | (go_at_call 68; refine HS.out.mono ?_; rintro e w' ⟨rfl, q, rfl⟩) | (go_at_call 33; refine (HK.out _).mono ?_; rintro e w' ⟨rfl, q', rfl⟩))
  go_ret
  exact ⟨rfl, HB.out.trans (q'.ok.mono HB.out.size)⟩

set_option maxRecDepth 100000 in
set_option maxHeartbeats 2000000 in
theorem sameProds_any (v u : Value) (l : List Prd) (w : World) (hv : IsPrds w v l) (hu : IsPrds w u l) :
    Calls Try.prog 50 #[v, u] w fun e w' => e = .returned (.bool true) ∧ Below w.heap.size w w' := by
  obtain ⟨_, a', cap, rfl, _, _, hx'⟩ := id hv
  obtain ⟨hlen, a, cap', rfl, _, _, hx⟩ := id hu
  clear hx hx'
  have HV := Lib.hid hv
  have HU := Lib.hid hu
  clear hu hv
  generalize hN : l.length = N at *
  have HN := Lib.hid hN
  clear hN
  go_enter Try.func50, Try.ntmps50
  go_wp2
  go_loopw [5] (fun i wr => ∃ k : Nat, k ≤ N ∧ i = .int .i64 k ∧ Below w.heap.size w wr) (fun i _ => N - (intOf i).toNat)
  case atStart => exact ⟨0, by omega, rfl, Below.refl _ _⟩
  case round =>
    obtain ⟨k, hk, rfl, hB⟩ := hrel
    have hne := after_ne wr
    by_cases hlt : k < N
    · have hk1 : k < l.length := by rw [HN.out]; exact hlt
      obtain ⟨b, o, ra, rc, rfl, hq, hcx⟩ := HU.out.get k hk1
      obtain ⟨b', o', ra', rc', rfl, hq', hcg⟩ := HV.out.get k hk1
      have hS := fun q : After wr => after_call q (sameProd_any _ _ _ q.w ((hq'.fr (Fr.new hB)).fr (Fr.new q.ok)) ((hq.fr (Fr.new hB)).fr (Fr.new q.ok)))
      unfold prdVal at hS
      generalize l[k].right.length = rl at *
      generalize l[k] = s at *
      have HS := Lib.hid hS
      have x0 := after_cell ((Fr.new hB).cell (hcx 0 (by simp [prdCells])) fun e => e)
      have x1 := after_cell ((Fr.new hB).cell (hcx 1 (by simp [prdCells])) fun e => e)
      have x2 := after_cell ((Fr.new hB).cell (hcx 2 (by simp [prdCells])) fun e => e)
      have x3 := after_cell ((Fr.new hB).cell (hcx 3 (by simp [prdCells])) fun e => e)
      have x4 := after_cell ((Fr.new hB).cell (hcx 4 (by simp [prdCells])) fun e => e)
      have x5 := after_cell ((Fr.new hB).cell (hcx 5 (by simp [prdCells])) fun e => e)
      have y0 := after_cell ((Fr.new hB).cell (hcg 0 (by simp [prdCells])) fun e => e)
      have y1 := after_cell ((Fr.new hB).cell (hcg 1 (by simp [prdCells])) fun e => e)
      have y2 := after_cell ((Fr.new hB).cell (hcg 2 (by simp [prdCells])) fun e => e)
      have y3 := after_cell ((Fr.new hB).cell (hcg 3 (by simp [prdCells])) fun e => e)
      have y4 := after_cell ((Fr.new hB).cell (hcg 4 (by simp [prdCells])) fun e => e)
      have y5 := after_cell ((Fr.new hB).cell (hcg 5 (by simp [prdCells])) fun e => e)
      simp only [prdCells, List.getElem_cons_zero, List.getElem_cons_succ, Nat.add_zero] at x0 x1 x2 x3 x4 x5 y0 y1 y2 y3 y4 y5
      have HB := Lib.hid hB
      clear hB hcx hcg hS hq hq'
      go_wp2_with fail
      refine wp_region_after wr (by kernel_rfl) (by kernel_rfl) (Below.refl _ _) ?_
      repeat (go_big_quiet_step (exact HS.out _))
      refine wpQuiet_nil ?_
      intro _ hw'
      obtain ⟨q, hw''⟩ := hw'
      subst hw''
      go_wp2
      go_roundw
      case rel => exact ⟨k + 1, by omega, by simp, HB.out.trans (q.ok.mono HB.out.size)⟩
      case measure => simp [intOf]; omega
    · obtain rfl : k = N := by omega
      clear hlt
      go_wp2
      go_ret
      exact ⟨rfl, hB⟩
end Go.Proofs.Ytehaoiimhgkckaa
