/-
  Package items: how items are compared.
-/
import Derived.Test.YtgmkpncpcikecaaIt9
import Derived.Sort.OwnSorted
import Derived.Shelf.SlSortCmp.NoneTotal
namespace Go.Proofs.Ytgmkpncpcikecaa
open Go.RowKit Go.MapKept Go.ChangeMaps
set_option maxHeartbeats 400000

theorem isNaN_any (x : Int) (w : World) : Calls Try.prog 63 #[.int .i64 x] w fun e w' => e = .returned (.bool false) ∧ w = w' := by
  go_enter Try.func63, Try.ntmps63
  go_wp2
  go_ret
  exact ⟨by simp, rfl⟩
theorem compare_any (x y : Int) (w : World) : Calls Try.prog 53 #[.int .i64 x, .int .i64 y] w fun e w' => e = .returned (.int .i64 (Lib.compareInt x y)) ∧ w = w' := by
  unfold Lib.compareInt
  by_cases h1 : x < y
  · rw [if_pos h1]
    go_enter Try.func53, Try.ntmps53
    go_wp2_with (go_at_call 63; refine (isNaN_any _ _).mono ?_; rintro e w' ⟨rfl, rfl⟩)
    go_ret
    exact ⟨rfl, rfl⟩
  · rw [if_neg h1]
    by_cases h2 : y < x
    · rw [if_pos h2]
      go_enter Try.func53, Try.ntmps53
      go_wp2_with (go_at_call 63; refine (isNaN_any _ _).mono ?_; rintro e w' ⟨rfl, rfl⟩)
      go_ret
      exact ⟨rfl, rfl⟩
    · rw [if_neg h2]
      go_enter Try.func53, Try.ntmps53
      go_wp2_with (go_at_call 63; refine (isNaN_any _ _).mono ?_; rintro e w' ⟨rfl, rfl⟩)
      go_ret
      exact ⟨rfl, rfl⟩
def orI (a b : Int) : Int := if a ≠ 0 then a else b
set_option maxHeartbeats 1000000 in
theorem or_any (a b : Int) (g : Nat) (w : World) (h : w.heap[g]? = some (.cells #[.int .i64 a, .int .i64 b] 3 (0, 0))) : Calls Try.prog 52 #[.slice (some ⟨g, 0, none⟩) 2 2] w fun e w' => e = .returned (.int .i64 (orI a b)) ∧ w = w' := by
  have c0 := obj_cell h 0 (v := .int .i64 a) rfl
  have c1 := obj_cell h 1 (v := .int .i64 b) rfl
  have HC := Lib.hid (And.intro c0 c1)
  unfold orI
  clear h c0 c1
  by_cases ha : a = 0
  · subst ha
    rw [if_neg (fun h => h rfl)]
    go_enter Try.func52, Try.ntmps52
    go_wp2
    go_loopw [8] (fun i wr => (∃ k : Nat, k ≤ 2 ∧ i = .int .i64 k ∧ (k = 2 → b = 0)) ∧ w = wr) (fun i _ => 2 - (intOf i).toNat)
    case atStart => exact ⟨⟨0, by omega, rfl, fun h => by omega⟩, rfl⟩
    case round =>
      obtain ⟨⟨k, hk, rfl, hb⟩, rfl⟩ := hrel
      obtain ⟨c0, c1⟩ := HC.out
      match k, hk, hb with
      | 0, _, _ =>
        go_wp2
        go_roundw
        case rel => exact ⟨⟨1, by omega, rfl, fun h => by omega⟩, trivial⟩
        case measure => simp [intOf]
      | 1, _, _ =>
        by_cases hb : b = 0
        · subst hb
          go_wp2
          go_roundw
          case rel => exact ⟨⟨2, by omega, rfl, fun _ => trivial⟩, trivial⟩
          case measure => simp [intOf]
        · have hb' : (b != 0) = true := by simpa using hb
          clear hb
          go_wp2
          go_ret
          exact ⟨rfl, rfl⟩
      | 2, _, hb =>
        obtain rfl := hb rfl
        clear hb
        go_wp2
        go_ret
        exact ⟨rfl, rfl⟩
  · rw [if_pos ha]
    have ha' : (a != 0) = true := by simpa using ha
    clear ha
    go_enter Try.func52, Try.ntmps52
    go_wp2
    go_loopw [8] (fun i wr => i = .int .i64 0 ∧ w = wr) (fun i _ => 2 - (intOf i).toNat)
    case atStart => exact ⟨rfl, rfl⟩
    case round =>
      obtain ⟨rfl, rfl⟩ := hrel
      obtain ⟨c0, c1⟩ := HC.out
      go_wp2
      go_ret
      exact ⟨rfl, rfl⟩
theorem grow3 (w : World) (a b o : Obj) : (((w.alloc a).alloc b).drew).alloc o = Sort.grow (w.drewN 1) #[a, b, o] := by
  rw [Sort.alloc_eq_grow, Sort.alloc_eq_grow, Sort.alloc_eq_grow, Sort.drew_grow, Sort.drew_grow, Sort.grow_grow, Sort.grow_grow]
  rfl
def cfI (x y : It) : Int := orI (Lib.compareInt x.1 y.1) (Lib.compareInt x.2 y.2)

set_option maxRecDepth 100000 in
set_option maxHeartbeats 2000000 in
theorem sorted1_any (x y : It) (w : World) : Calls Try.prog 51 #[itVal x, itVal y] w fun e w' => e = .returned (.int .i64 (cfI x y)) ∧ ∃ q os', w' = Sort.grow (w.drewN q) os' := by
  obtain ⟨p, d⟩ := x
  obtain ⟨p', d'⟩ := y
  unfold itVal cfI
  simp only
  have hx := alloc_obj w (Obj.cells #[.int .i64 p, .int .i64 d] 41 (0, 0))
  have hy := alloc_obj (w.alloc (Obj.cells #[.int .i64 p, .int .i64 d] 41 (0, 0))) (Obj.cells #[.int .i64 p', .int .i64 d'] 41 (0, 0))
  simp only [World.size_alloc] at hy
  have hx := alloc_older (o := Obj.cells #[.int .i64 p', .int .i64 d'] 41 (0, 0)) hx
  generalize hc1 : Lib.compareInt p p' = r1
  generalize hc2 : Lib.compareInt d d' = r2
  have HC := Lib.hid (And.intro hc1 hc2)
  clear hc1 hc2
  go_enter Try.func51, Try.ntmps51
  go_upto_region 1 with fail
  generalize hW1 : ((w.alloc (Obj.cells #[.int .i64 p, .int .i64 d] 41 (0, 0))).alloc (Obj.cells #[.int .i64 p', .int .i64 d'] 41 (0, 0))) = W1 at *
  have HW := Lib.hid hW1
  clear hW1
  obtain ⟨wq, hq⟩ : ∃ wq, wq = W1.drew := ⟨_, rfl⟩
  have kq : Fr nothing W1 wq := by rw [hq]; exact Fr.drew _
  have hR : ∀ W, Fr nothing wq W → W.cell? ⟨w.heap.size, 0, none⟩ = some (.int .i64 p) ∧ W.cell? ⟨w.heap.size, 1, none⟩ = some (.int .i64 d) ∧ W.cell? ⟨w.heap.size + 1, 0, none⟩ = some (.int .i64 p') ∧ W.cell? ⟨w.heap.size + 1, 1, none⟩ = some (.int .i64 d') := fun W k =>
    ⟨obj_cell ((kq.trans k).obj hx id) 0 rfl, obj_cell ((kq.trans k).obj hx id) 1 rfl, obj_cell ((kq.trans k).obj hy id) 0 rfl, obj_cell ((kq.trans k).obj hy id) 1 rfl⟩
  have hS0 := hR wq (Fr.refl _ _)
  refine wp_region_anyT (fun j W => j < 10 → W.cell? ⟨w.heap.size, 0, none⟩ = some (.int .i64 p) ∧ W.cell? ⟨w.heap.size, 1, none⟩ = some (.int .i64 d) ∧ W.cell? ⟨w.heap.size + 1, 0, none⟩ = some (.int .i64 p') ∧ W.cell? ⟨w.heap.size + 1, 1, none⟩ = some (.int .i64 d')) (by kernel_rfl) ?_
  rw [← hq]
  have HQ := Lib.hid hq
  clear hq kq hx hy hR
  refine anyT_take (R := _) (i := 0) (v := ?_) (fun j => decide (j < 10)) (fun j w h k => k (of_decide_eq_true h)) (fun w h _ => h) rfl (by kernel_rfl) (fun _ _ _ h => h) _ _ _ _ (by kernel_rfl) (by kernel_rfl) (by kernel_rfl) (by kernel_rfl) (Or.inl ⟨by rfl, ?_⟩) (by assumption) ?_
  rotate_left
  · (intro w hSw; (try dsimp only at hSw); go_simp)
    try with_reducible rfl
  refine anyT_take (R := _) (i := 1) (v := ?_) (fun j => decide (j < 10)) (fun j w h k => k (of_decide_eq_true h)) (fun w h _ => h) rfl (by kernel_rfl) (fun _ _ _ h => h) _ _ _ _ (by kernel_rfl) (by kernel_rfl) (by kernel_rfl) (by kernel_rfl) (Or.inl ⟨by rfl, ?_⟩) (by assumption) ?_
  rotate_left
  · (intro w hSw; (try dsimp only at hSw); go_simp)
    try with_reducible rfl
  refine anyT_take (R := _) (i := 2) (v := ?_) (fun j => decide (j < 10)) (fun j w h k => k (of_decide_eq_true h)) (fun w h _ => h) rfl (by kernel_rfl) (fun _ _ _ h => h) _ _ _ _ (by kernel_rfl) (by kernel_rfl) (by kernel_rfl) (by kernel_rfl) (Or.inl ⟨by rfl, ?_⟩) (by assumption) ?_
  rotate_left
  · (intro w hSw; (try dsimp only at hSw); go_simp)
    try with_reducible rfl
  refine anyT_take (R := _) (i := 3) (v := ?_) (fun j => decide (j < 10)) (fun j w h k => k (of_decide_eq_true h)) (fun w h _ => h) rfl (by kernel_rfl) (fun _ _ _ h => h) _ _ _ _ (by kernel_rfl) (by kernel_rfl) (by kernel_rfl) (by kernel_rfl) (Or.inl ⟨by rfl, ?_⟩) (by assumption) ?_
  rotate_left
  · (intro w hSw; (try dsimp only at hSw); go_simp)
    try with_reducible rfl
  refine anyT_take (R := _) (i := 5) (v := ?_) (fun j => decide (j < 10)) (fun j w h k => k (of_decide_eq_true h)) (fun w h _ => h) rfl (by kernel_rfl) (fun _ _ _ h => h) _ _ _ _ (by kernel_rfl) (by kernel_rfl) (by kernel_rfl) (by kernel_rfl) (Or.inl ⟨by rfl, ?_⟩) (by assumption) ?_
  rotate_left
  · (intro w hSw; (try dsimp only at hSw); go_simp)
    try with_reducible rfl
  refine anyT_take (R := _) (i := 6) (v := ?_) (fun j => decide (j < 10)) (fun j w h k => k (of_decide_eq_true h)) (fun w h _ => h) rfl (by kernel_rfl) (fun _ _ _ h => h) _ _ _ _ (by kernel_rfl) (by kernel_rfl) (by kernel_rfl) (by kernel_rfl) (Or.inl ⟨by rfl, ?_⟩) (by assumption) ?_
  rotate_left
  · (intro w hSw; (try dsimp only at hSw); go_simp)
    try with_reducible rfl
  refine anyT_take (R := _) (i := 7) (v := ?_) (fun j => decide (j < 10)) (fun j w h k => k (of_decide_eq_true h)) (fun w h _ => h) rfl (by kernel_rfl) (fun _ _ _ h => h) _ _ _ _ (by kernel_rfl) (by kernel_rfl) (by kernel_rfl) (by kernel_rfl) (Or.inl ⟨by rfl, ?_⟩) (by assumption) ?_
  rotate_left
  · (intro w hSw; (try dsimp only at hSw); go_simp)
    try with_reducible rfl
  refine anyT_take (R := _) (i := 8) (v := ?_) (fun j => decide (j < 10)) (fun j w h k => k (of_decide_eq_true h)) (fun w h _ => h) rfl (by kernel_rfl) (fun _ _ _ h => h) _ _ _ _ (by kernel_rfl) (by kernel_rfl) (by kernel_rfl) (by kernel_rfl) (Or.inl ⟨by rfl, ?_⟩) (by assumption) ?_
  rotate_left
  · (intro w hSw; (try dsimp only at hSw); go_simp)
    try with_reducible rfl
  refine anyT_ready (rs := [4]) (by kernel_rfl) (by simp) ?_
  intro j hj
  obtain rfl := List.mem_singleton.1 hj
  clear hj
  refine wpOp_plain rfl rfl ?_
  go_simp
  refine (compare_any _ _ _).mono ?_
  rintro e w2 ⟨rfl, rfl⟩
  dsimp only
  refine ⟨hS0, ?_⟩
  refine anyT_ready (rs := [9]) (by kernel_rfl) (by simp) ?_
  intro j hj
  obtain rfl := List.mem_singleton.1 hj
  clear hj
  refine wpOp_plain rfl rfl ?_
  go_simp
  refine (compare_any _ _ _).mono ?_
  rintro e w2 ⟨rfl, rfl⟩
  dsimp only
  rw [HC.out.1, HC.out.2]
  refine ⟨hS0, ?_⟩
  refine anyT_ready (rs := [10]) (by kernel_rfl) (by simp) ?_
  intro j hj
  obtain rfl := List.mem_singleton.1 hj
  clear hj
  refine wpOp_plain rfl rfl ?_
  go_simp
  refine anyT_ready (rs := [11]) (by kernel_rfl) (by simp) ?_
  intro j hj
  obtain rfl := List.mem_singleton.1 hj
  clear hj
  refine wpOp_plain rfl rfl ?_
  go_simp
  refine (or_any r1 r2 _ _ (alloc_obj _ _)).mono ?_
  rintro e w2 ⟨rfl, rfl⟩
  dsimp only
  refine anyT_ready (rs := [12]) (by kernel_rfl) (by simp) ?_
  intro j hj
  obtain rfl := List.mem_singleton.1 hj
  clear hj
  refine wpOp_plain rfl rfl ?_
  go_simp
  refine anyT_done (by kernel_rfl) ?_ _
  go_wp2
  go_ret
  refine ⟨rfl, 1, #[Obj.cells #[.int .i64 p, .int .i64 d] 41 (0, 0), Obj.cells #[.int .i64 p', .int .i64 d'] 41 (0, 0), Obj.cells #[.int .i64 r1, .int .i64 r2] 3 (0, 0)], ?_⟩
  rw [HQ.out, ← HW.out]
  exact grow3 _ _ _ _
end Go.Proofs.Ytgmkpncpcikecaa
