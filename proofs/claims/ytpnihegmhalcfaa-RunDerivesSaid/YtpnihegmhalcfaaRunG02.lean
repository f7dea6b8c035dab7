/-
  Package symbols: is a production right?
-/
import Derived.Test.YtpnihegmhalcfaaRunG01
namespace Go.Proofs.Ytpnihegmhalcfaa
open Go.RowKit
set_option maxHeartbeats 400000

theorem rightRow_nil (t n : Int) : rightRow t n [] = true := rfl
theorem rightRow_take (t n : Int) (l : List Int) (k : Nat) (h : k < l.length) : rightRow t n (l.take (k + 1)) = (rightRow t n (l.take k) && !(decide (l[k] < 1) || (decide (n ≤ l[k]) || decide (l[k] = t)))) := by
  have e : l.take (k + 1) = l.take k ++ [l[k]] := by rw [List.take_add_one, List.getElem?_eq_getElem h]; rfl
  rw [e]
  simp only [rightRow, List.all_append, List.all_cons, List.all_nil, Bool.and_true]
theorem rightRow_false (t n : Int) (l : List Int) (k : Nat) (h : rightRow t n (l.take k) = false) : rightRow t n l = false := by
  cases e : rightRow t n l
  · rfl
  · rw [rightRow, List.all_eq_true] at e
    rw [rightRow, ← Bool.not_eq_true, List.all_eq_true] at h
    exact absurd (fun x hx => e x (List.mem_of_mem_take hx)) h

set_option maxRecDepth 100000 in
theorem right_any (terms : Int) (a : Option Addr) (n cap : Nat) (vp v : Value) (l : List Int) (w : World) (_ : n ≤ 17592186044416) (hl : Ints w v l) :
    Calls Try.prog 97 #[.agg #[.int .i64 terms, .slice a n cap, vp], v] w fun e w' => e = .returned (.bool (rightSide terms n l)) ∧ Below w.heap.size w w' := by
  obtain ⟨hr, hlen, b, c, rfl, _, _, hx⟩ := hl
  have HR := Lib.hid hr
  clear hr
  go_enter Try.func97, Try.ntmps97
  go_wp2
  go_loopw [6, 9] (fun u i wr => ∃ k : Nat, k ≤ l.length ∧ i = .int .i64 k ∧ rightRow terms n (l.take k) = true ∧ wr.heap[w.heap.size]? = some (.cells #[.int .i64 terms, .slice a n cap, vp] 132 (0, 0)) ∧ Below w.heap.size w wr)
     (fun _ i _ => l.length - (intOf i).toNat)
  case atStart => exact ⟨0, Nat.zero_le _, rfl, rfl, alloc_obj _ _, (Below.refl _ w).alloc (Nat.le_refl _) _⟩
  case round =>
    obtain ⟨k, hk, rfl, he, hob, hB⟩ := hrel
    have hc0 := obj_cell hob 0 rfl
    have hc1 := obj_cell hob 1 rfl
    have HOB := Lib.hid hob
    clear hob
    by_cases hlt : k < l.length
    · obtain ⟨b', o, rfl, hcx⟩ : ∃ b' o, b = some ⟨b', o, none⟩ ∧ Cells w b' o (l.map (Value.int .i64)) := by
        rcases hx with rfl | h
        · simp at hlt
        · exact h
      have h1 := keep_cells hcx hB k (by simpa using hlt)
      rw [List.getElem_map] at h1
      have h2 := HR.out _ (List.getElem_mem hlt)
      have tk := rightRow_take terms n l k hlt
      rw [he] at tk
      generalize l[k] = x at *
      have TK := Lib.hid tk
      clear tk he hx hcx
      have bad : (decide (x < 1) || (decide ((n : Int) ≤ x) || decide (x = terms))) = true → rightSide terms n l = false := fun e => by
        have := TK.out
        rw [e] at this
        simp [rightSide, rightRow_false terms n l (k + 1) this]
      by_cases c1 : x < 1
      · have BAD := Lib.hid (bad (by simp [c1]))
        clear bad
        have d1 : decide (x < 1) = true := by simp [c1]
        go_wp2
        go_ret
        exact ⟨congrArg (fun t => Ending.returned (Value.bool t)) BAD.out.symm, hB⟩
      · by_cases c2 : (n : Int) ≤ x
        · have BAD := Lib.hid (bad (by simp [c2]))
          clear bad
          have d1 : decide (x < 1) = false := by simp [c1]
          have d2 : decide ((n : Int) ≤ x) = true := by simp [c2]
          go_wp2
          go_ret
          exact ⟨congrArg (fun t => Ending.returned (Value.bool t)) BAD.out.symm, hB⟩
        · by_cases c3 : x = terms
          · have BAD := Lib.hid (bad (by simp [c3]))
            clear bad
            have d1 : decide (x < 1) = false := by simp [c1]
            have d2 : decide ((n : Int) ≤ x) = false := by simp [c2]
            have d3 : (x == terms) = true := by simp [c3]
            go_wp2
            go_ret
            exact ⟨congrArg (fun t => Ending.returned (Value.bool t)) BAD.out.symm, hB⟩
          · clear bad
            have d1 : decide (x < 1) = false := by simp [c1]
            have d2 : decide ((n : Int) ≤ x) = false := by simp [c2]
            have d3 : (x == terms) = false := by simp [c3]
            go_wp2
            go_roundw
            case rel => exact ⟨k + 1, by omega, by simp, by rw [TK.out]; simp [c1, c2, c3], HOB.out, hB⟩
            case measure => simp [intOf]; omega
    · obtain rfl : k = l.length := by omega
      have he' : rightRow terms n l = true := by simpa using he
      have HE := Lib.hid he'
      clear he he' hlt
      by_cases c : l.length ≤ 10
      all_goals
        have d : decide ((l.length : Int) ≤ 10) = decide (l.length ≤ 10) := decide_eq_decide.2 (by omega)
        simp only [c, decide_true, decide_false] at d
        go_wp2
        go_ret
        exact ⟨congrArg (fun t => Ending.returned (Value.bool t)) (by simp [rightSide, HE.out, c]), hB⟩

set_option maxRecDepth 100000 in
set_option maxHeartbeats 2000000 in
theorem first_any (terms : Int) (a : Option Addr) (n cap : Nat) (vp v : Value) (p : Prd) (w : World) (hn : n ≤ 17592186044416) (hp : IsPrd w v p) :
    Calls Try.prog 63 #[.agg #[.int .i64 terms, .slice a n cap, vp], v] w fun e w' => e = .returned (.bool (firstG terms n p)) ∧ Below w.heap.size w w' := by
  obtain ⟨ok, r, hr, rfl⟩ := hp
  obtain ⟨left, right, prec, has, action, whr⟩ := p
  obtain ⟨_, hlen, b, c, rfl, hcc, hcm, hx⟩ := id hr
  obtain ⟨hI1, hI2, hI3⟩ := two_boxes w (.cells #[.int .i64 terms, .slice a n cap, vp] 132 (0, 0)) (.cells #[.int .i64 left, .slice b right.length c, .int .i64 prec, .bool has, .string action, .int .i64 whr] 46 (0, 0))
  obtain ⟨w1, hw1⟩ : ∃ w1, w1 = (w.alloc (.cells #[.int .i64 terms, .slice a n cap, vp] 132 (0, 0))).alloc (.cells #[.int .i64 left, .slice b right.length c, .int .i64 prec, .bool has, .string action, .int .i64 whr] 46 (0, 0)) := ⟨_, rfl⟩
  rw [← hw1] at hI1 hI2 hI3
  have HC := Lib.hid fun p : After w1 => after_call p (right_any terms a n cap vp _ right p.w hn ((hr.fr (Fr.new hI3)).fr (Fr.new p.ok)))
  have HW := Lib.hid hw1
  have HB := Lib.hid hI3
  have hxc : right.length = 1 → ∃ x b' o, right = [x] ∧ b = some ⟨b', o, none⟩ ∧ w1.cell? ⟨b', o, none⟩ = some (.int .i64 x) := fun h => by
    obtain ⟨x, rfl⟩ := List.length_eq_one_iff.1 h
    rcases hx with h | ⟨b', o, rfl, hc⟩
    · cases h
    · exact ⟨x, b', o, rfl, rfl, (Fr.new hI3).cell (hc 0 (by simp)) fun e => e⟩
  have l0 := after_obj hI1 0 rfl
  have l1 := after_obj hI1 1 rfl
  have l2 := after_obj hI1 2 rfl
  have p0 := after_obj hI2 0 rfl
  have p1 := after_obj hI2 1 rfl
  have p2 := after_obj hI2 2 rfl
  have p3 := after_obj hI2 3 rfl
  have p4 := after_obj hI2 4 rfl
  have p5 := after_obj hI2 5 rfl
  have hne := after_ne w1
  clear hI1 hI2 hw1
  unfold prdVal firstG
  generalize e1 : decide (left = terms) = B1
  generalize e2 : decide (right.length = 1) = B2
  generalize e3 : rightSide terms n right = B3 at *
  generalize e5 : decide (prec = -1) = B5
  generalize e7 : decide (action = nNone) = B7
  generalize e8 : decide (whr = 0) = B8
  have t1 : (left == terms) = B1 := by rw [← e1]; rfl
  have t2 : ((right.length : Int) == 1) = B2 := by rw [← e2]; exact decide_eq_decide.2 (by omega)
  have t5 : (prec == -1) = B5 := by rw [← e5]; rfl
  have t7 := str_ilit action [] B7 e7
  have t8 : (whr == 0) = B8 := by rw [← e8]; rfl
  clear e1 e3 e5 e7 e8 ok hr hcc hcm hx hI3
  have cs : (B1 = false ∨ B1 = true ∧ B2 = false) ∨ B1 = true ∧ B2 = true := by cases B1 <;> cases B2 <;> simp
  rcases cs with cs | ⟨rfl, rfl⟩
  · clear hxc e2
    rcases cs with rfl | ⟨rfl, rfl⟩
    all_goals
      go_enter Try.func63, Try.ntmps63
      go_wp2_with fail
      refine wp_region_after w1 (by kernel_rfl) (by kernel_rfl) (by rw [HW.out]; exact Below.refl _ _) ?_
      repeat (go_big_quiet_step (fail))
      refine wpQuiet_nil ?_
      intro _ hw'
      obtain ⟨p, hw''⟩ := hw'
      subst hw''
      go_wp2
      go_ret
      exact ⟨rfl, HB.out.trans (p.ok.mono HB.out.size)⟩
  · obtain ⟨x, b', o, rfl, rfl, hcx⟩ := hxc (by simpa using e2)
    have cx := after_cell hcx
    simp only [List.length_singleton] at p1 HW t2
    generalize e4 : decide (terms < [x].headD 0) = B4
    have t4 : decide (terms < x) = B4 := e4
    clear e2 e4 hxc hcx
    have cs : B3 = false ∨ B3 = true ∧ B4 = false ∨ B3 = true ∧ B4 = true ∧ B5 = false ∨ B3 = true ∧ B4 = true ∧ B5 = true ∧ has = true ∨ B3 = true ∧ B4 = true ∧ B5 = true ∧ has = false ∧ B7 = false ∨
        B3 = true ∧ B4 = true ∧ B5 = true ∧ has = false ∧ B7 = true ∧ B8 = false ∨ B3 = true ∧ B4 = true ∧ B5 = true ∧ has = false ∧ B7 = true ∧ B8 = true := by
      cases B3 <;> cases B4 <;> cases B5 <;> cases has <;> cases B7 <;> cases B8 <;> simp
    rcases cs with rfl | ⟨rfl, rfl⟩ | ⟨rfl, rfl, rfl⟩ | ⟨rfl, rfl, rfl, rfl⟩ | ⟨rfl, rfl, rfl, rfl, rfl⟩ | ⟨rfl, rfl, rfl, rfl, rfl, rfl⟩ | ⟨rfl, rfl, rfl, rfl, rfl, rfl⟩
    all_goals
      go_enter Try.func63, Try.ntmps63
      go_wp2_with fail
      refine wp_region_after w1 (by kernel_rfl) (by kernel_rfl) (by rw [HW.out]; exact Below.refl _ _) ?_
      repeat (go_big_quiet_step (exact HC.out _))
      refine wpQuiet_nil ?_
      intro _ hw'
      obtain ⟨p, hw''⟩ := hw'
      subst hw''
      go_wp2
      go_ret
      exact ⟨rfl, HB.out.trans (p.ok.mono HB.out.size)⟩

set_option maxRecDepth 100000 in
set_option maxHeartbeats 2000000 in
theorem prod_any (terms : Int) (a : Option Addr) (n cap : Nat) (vp v : Value) (p : Prd) (w : World) (hn : n ≤ 17592186044416) (hp : IsPrd w v p) :
    Calls Try.prog 64 #[.agg #[.int .i64 terms, .slice a n cap, vp], v] w fun e w' => e = .returned (.bool (prodG terms n p)) ∧ Below w.heap.size w w' := by
  obtain ⟨ok, r, hr, rfl⟩ := hp
  obtain ⟨left, right, prec, has, action, whr⟩ := p
  have HR := Lib.hid fun (w1 : World) (h : Below w.heap.size w w1) => right_any terms a n cap vp r right w1 hn (hr.fr (Fr.new h))
  have hw1 := two_boxes w (.cells #[.int .i64 terms, .slice a n cap, vp] 132 (0, 0)) (.cells #[.int .i64 left, r, .int .i64 prec, .bool has, .string action, .int .i64 whr] 46 (0, 0))
  have HC := Lib.hid (HR.out _ hw1.2.2)
  have HB := Lib.hid hw1.2.2
  have hI2 : ∀ w2, Below ((w.alloc (.cells #[.int .i64 terms, .slice a n cap, vp] 132 (0, 0))).alloc (.cells #[.int .i64 left, r, .int .i64 prec, .bool has, .string action, .int .i64 whr] 46 (0, 0))).heap.size ((w.alloc (.cells #[.int .i64 terms, .slice a n cap, vp] 132 (0, 0))).alloc (.cells #[.int .i64 left, r, .int .i64 prec, .bool has, .string action, .int .i64 whr] 46 (0, 0))) w2 →
      w2.cell? ⟨w.heap.size, 0, none⟩ = some (.int .i64 terms) ∧ w2.cell? ⟨w.heap.size + 1, 2, none⟩ = some (.int .i64 prec) ∧ w2.cell? ⟨w.heap.size + 1, 3, none⟩ = some (.bool has) ∧ w2.cell? ⟨w.heap.size + 1, 4, none⟩ = some (.string action) ∧ w2.cell? ⟨w.heap.size + 1, 5, none⟩ = some (.int .i64 whr) := fun w2 h =>
    ⟨obj_cell (keep_obj hw1.1 h) 0 rfl, obj_cell (keep_obj hw1.2.1 h) 2 rfl, obj_cell (keep_obj hw1.2.1 h) 3 rfl, obj_cell (keep_obj hw1.2.1 h) 4 rfl, obj_cell (keep_obj hw1.2.1 h) 5 rfl⟩
  have HI := Lib.hid hI2
  clear hI2 hw1 HR hr ok
  unfold prdVal prodG
  generalize e1 : decide (left ≤ terms) = B1
  generalize e2 : decide ((n : Int) ≤ left) = B2
  generalize e3 : rightSide terms n right = B3 at *
  generalize e4 : decide (prec = -1) = B4
  generalize e5 : decide (prec < 1) = B5
  generalize e6 : decide (terms ≤ prec) = B6
  generalize e7 : decide (whr < 0) = B7
  generalize e8 : decide (action = nNone) = B8
  generalize e9 : decide (whr = 0) = B9
  have t4 : (prec == -1) = B4 := by rw [← e4]; rfl
  have t4' : (prec != -1) = !B4 := by rw [← t4]; rfl
  have t8 := str_ilit action [] B8 e8
  have t9 : (whr == 0) = B9 := by rw [← e9]; rfl
  clear e3 e4 e8 e9
  go_enter Try.func64, Try.ntmps64
  go_wp2_with (go_at_call 97; refine HC.out.mono ?_; rintro e w2 ⟨rfl, hB2⟩; obtain ⟨c0, c1, c2, c3, c4⟩ := HI.out w2 hB2)
  all_goals
    go_ret
    refine ⟨?_, by first | exact HB.out | exact HB.out.trans (hB2.mono HB.out.size)⟩
    simp [*]
end Go.Proofs.Ytpnihegmhalcfaa
