/-
  The document's answer on symbols: is a production right?
-/
import Derived.Test.YtpnihegmhalcfaaRunG08
namespace Go.Proofs.Ytpnihegmhalcfaa
open Go.RowKit
set_option maxHeartbeats 400000

def first14 (terms n : Int) (p : Prd) : Bool :=
  decide (p.left = terms) && (decide (p.right.length = 1) && (decide (terms < p.right.headD 0) && (decide (p.right.headD 0 < n) && (decide (p.prec = -1) && (!p.has && (decide (p.action = nNone) && decide (p.whr = 0)))))))
def bad14 (terms n : Int) (p : Prd) : Bool :=
  decide (p.left ≤ terms) || (decide (n ≤ p.left) || (decide (10 < p.right.length) || ((!decide (p.prec = -1) && (decide (p.prec < 1) || decide (terms ≤ p.prec))) || (decide (p.whr < 0) || (!p.has && (!decide (p.action = nNone) || !decide (p.whr = 0)))))))
def prod14 (terms n i : Int) (p : Prd) : Bool := if i = 0 then first14 terms n p else !bad14 terms n p && rightRow terms n p.right

theorem rightRow_drop (terms n : Int) (l : List Int) (k : Nat) (h : k < l.length) : rightRow terms n (l.drop k) = (!(decide (l[k] < 1) || (decide (n ≤ l[k]) || decide (l[k] = terms))) && rightRow terms n (l.drop (k + 1))) := by
  rw [List.drop_eq_getElem_cons h]
  rfl

set_option maxRecDepth 100000 in
set_option maxHeartbeats 2000000 in
theorem prod14_any (terms i : Int) (a : Option Addr) (ns nc : Nat) (vp u : Value) (p : Prd) (w : World) (h : IsPrd w u p) :
    Calls Try.prog 85 #[.agg #[.int .i64 terms, .slice a ns nc, vp], .int .i64 i, u] w fun e w' => e = .returned (.bool (prod14 terms ns i p)) ∧ Below w.heap.size w w' := by
  obtain ⟨hok, r, hr, rfl⟩ := h
  obtain ⟨hr0, hrl, ra, rc, rfl, hrc, _, hrx⟩ := id hr
  obtain ⟨left, right, prec, has, action, whr⟩ := p
  simp only at hr hr0 hrl hrc hrx
  unfold prdVal prod14
  simp only
  obtain ⟨w1, hw1⟩ : ∃ w1, w1 = (w.alloc (.cells #[.int .i64 terms, .slice a ns nc, vp] 25 (0, 0))).alloc (.cells #[.int .i64 left, .slice ra right.length rc, .int .i64 prec, .bool has, .string action, .int .i64 whr] 46 (0, 0)) := ⟨_, rfl⟩
  have hx := two_boxes w (.cells #[.int .i64 terms, .slice a ns nc, vp] 25 (0, 0)) (.cells #[.int .i64 left, .slice ra right.length rc, .int .i64 prec, .bool has, .string action, .int .i64 whr] 46 (0, 0))
  rw [← hw1] at hx
  obtain ⟨o0, o1, hB1⟩ := hx
  have g0 : ∀ q : After w1, q.w.cell? ⟨w.heap.size, 0, none⟩ = some (.int .i64 terms) := after_obj o0 0 rfl
  have g1 : ∀ q : After w1, q.w.cell? ⟨w.heap.size, 1, none⟩ = some (.slice a ns nc) := after_obj o0 1 rfl
  have k0 : ∀ q : After w1, q.w.cell? ⟨w.heap.size + 1, 0, none⟩ = some (.int .i64 left) := after_obj o1 0 rfl
  have k1 : ∀ q : After w1, q.w.cell? ⟨w.heap.size + 1, 1, none⟩ = some (.slice ra right.length rc) := after_obj o1 1 rfl
  have k2 : ∀ q : After w1, q.w.cell? ⟨w.heap.size + 1, 2, none⟩ = some (.int .i64 prec) := after_obj o1 2 rfl
  have k3 : ∀ q : After w1, q.w.cell? ⟨w.heap.size + 1, 3, none⟩ = some (.bool has) := after_obj o1 3 rfl
  have k4 : ∀ q : After w1, q.w.cell? ⟨w.heap.size + 1, 4, none⟩ = some (.string action) := after_obj o1 4 rfl
  have k5 : ∀ q : After w1, q.w.cell? ⟨w.heap.size + 1, 5, none⟩ = some (.int .i64 whr) := after_obj o1 5 rfl
  have hne := after_ne w1
  have HW := Lib.hid hw1
  have HB := Lib.hid hB1
  have hr1 := hrx
  clear hw1 hB1 o0 o1
  by_cases hi : i = 0
  · subst hi
    unfold first14
    simp only [if_true]
    obtain ⟨B1, b1⟩ : ∃ x, decide (left = terms) = x := ⟨_, rfl⟩
    obtain ⟨B2, b2⟩ : ∃ x, decide (right.length = 1) = x := ⟨_, rfl⟩
    obtain ⟨B3, b3⟩ : ∃ x, decide (terms < right.headD 0) = x := ⟨_, rfl⟩
    obtain ⟨B4, b4⟩ : ∃ x, decide (right.headD 0 < (ns : Int)) = x := ⟨_, rfl⟩
    obtain ⟨B5, b5⟩ : ∃ x, decide (prec = -1) = x := ⟨_, rfl⟩
    obtain ⟨B7, b7⟩ : ∃ x, decide (action = nNone) = x := ⟨_, rfl⟩
    obtain ⟨B8, b8⟩ : ∃ x, decide (whr = 0) = x := ⟨_, rfl⟩
    rw [b1, b2, b3, b4, b5, b7, b8]
    have t1 : (left == terms) = B1 := by rw [← b1]; rfl
    have t2 : (right.length == 1) = B2 := by rw [← b2]; rfl
    have t2' : ((right.length : Int) == 1) = B2 := by
      rw [← b2]
      by_cases h : right.length = 1
      · simp [h]
      · simp [h]; omega
    have t5 : (prec == -1) = B5 := by rw [← b5]; rfl
    have t7 := str_ilit action [] B7 b7
    have t7' : action.toList.isEmpty = B7 := by
      rw [← t7]
      cases action.toList <;> rfl
    have t8 : (whr == 0) = B8 := by rw [← b8]; rfl
    clear b1 b5 b8
    have cs : (B1 = false ∨ B1 = true ∧ B2 = false) ∨ (B1 = true ∧ B2 = true) := by cases B1 <;> cases B2 <;> simp
    rcases cs with cs | ⟨rfl, rfl⟩
    · clear hr1 hrx hr
      rcases cs with rfl | ⟨rfl, rfl⟩
      all_goals
        go_enter Try.func85, Try.ntmps85
        go_wp2_with fail
        refine wp_region_after w1 (by kernel_rfl) (by kernel_rfl) (by rw [HW.out]; exact Below.refl _ _) ?_
        repeat (go_big_quiet_step (fail))
        refine wpQuiet_nil ?_
        intro _ hw'
        obtain ⟨q, hw''⟩ := hw'
        subst hw''
        go_wp2
        go_ret
        exact ⟨congrArg (fun t => Ending.returned (Value.bool t)) (by simp), HB.out.trans (q.ok.mono HB.out.size)⟩
    · obtain ⟨x, rfl⟩ : ∃ x, right = [x] := by
        simp only [decide_eq_true_eq] at b2
        match right, b2 with
        | [x], _ => exact ⟨x, rfl⟩
      obtain ⟨b, o, rfl, hc⟩ : ∃ b o, ra = some ⟨b, o, none⟩ ∧ w1.cell? ⟨b, o, none⟩ = some (.int .i64 x) := by
        rcases hrx with h | ⟨b, o, rfl, hc⟩
        · cases h
        · have := (Fr.new HB.out).cell (hc 0 (by simp)) fun e => e
          exact ⟨b, o, rfl, by simpa using this⟩
      have r0 := after_cell hc
      replace b3 : decide (terms < x) = B3 := b3
      replace b4 : decide (x < (ns : Int)) = B4 := b4
      simp only [List.length_cons, List.length_nil, Nat.zero_add] at k1 hrc
      have hlen : ([x] : List Int).length = 1 := rfl
      clear hrx hr1 hc hr hr0 hrl b2 t2 t2'
      have cs : (B3 = false ∨ B3 = true ∧ B4 = false ∨ B3 = true ∧ B4 = true ∧ B5 = false ∨ B3 = true ∧ B4 = true ∧ B5 = true ∧ has = true ∨ B3 = true ∧ B4 = true ∧ B5 = true ∧ has = false ∧ B7 = false) ∨ (B3 = true ∧ B4 = true ∧ B5 = true ∧ has = false ∧ B7 = true) := by
        cases B3 <;> cases B4 <;> cases B5 <;> cases has <;> cases B7 <;> simp
      simp only [List.length_cons, List.length_nil, Nat.zero_add]
      rcases cs with (rfl | ⟨rfl, rfl⟩ | ⟨rfl, rfl, rfl⟩ | ⟨rfl, rfl, rfl, rfl⟩ | ⟨rfl, rfl, rfl, rfl, rfl⟩) | ⟨rfl, rfl, rfl, rfl, rfl⟩
      all_goals
        go_enter Try.func85, Try.ntmps85
        go_wp2_with fail
        refine wp_region_after w1 (by kernel_rfl) (by kernel_rfl) (by rw [HW.out]; exact Below.refl _ _) ?_
        repeat (go_big_quiet_step (fail))
        refine wpQuiet_nil ?_
        intro _ hw'
        obtain ⟨q, hw''⟩ := hw'
        subst hw''
        go_wp2
        go_ret
        exact ⟨congrArg (fun t => Ending.returned (Value.bool t)) (by simp), HB.out.trans (q.ok.mono HB.out.size)⟩
  · have hi0 : (i == 0) = false := by simp [hi]
    rw [if_neg hi]
    have z0 := g0 ⟨w1, Below.refl _ _⟩
    have z1 := g1 ⟨w1, Below.refl _ _⟩
    have y0 := k0 ⟨w1, Below.refl _ _⟩
    have y1 := k1 ⟨w1, Below.refl _ _⟩
    have y2 := k2 ⟨w1, Below.refl _ _⟩
    have y3 := k3 ⟨w1, Below.refl _ _⟩
    have y4 := k4 ⟨w1, Below.refl _ _⟩
    have y5 := k5 ⟨w1, Below.refl _ _⟩
    simp only at z0 z1 y0 y1 y2 y3 y4 y5
    clear g0 g1 k0 k1 k2 k3 k4 k5 hne hr1
    have HBAD : ∃ x, bad14 terms ns ⟨left, right, prec, has, action, whr⟩ = x := ⟨_, rfl⟩
    obtain ⟨BAD, hbad⟩ := HBAD
    have HBad := Lib.hid hbad
    unfold bad14 at hbad
    simp only at hbad
    obtain ⟨B1, b1⟩ : ∃ x, decide (left ≤ terms) = x := ⟨_, rfl⟩
    obtain ⟨B2, b2⟩ : ∃ x, decide ((ns : Int) ≤ left) = x := ⟨_, rfl⟩
    obtain ⟨B3, b3⟩ : ∃ x, decide (10 < right.length) = x := ⟨_, rfl⟩
    obtain ⟨B4, b4⟩ : ∃ x, decide (prec = -1) = x := ⟨_, rfl⟩
    obtain ⟨B5, b5⟩ : ∃ x, decide (prec < 1) = x := ⟨_, rfl⟩
    obtain ⟨B6, b6⟩ : ∃ x, decide (terms ≤ prec) = x := ⟨_, rfl⟩
    obtain ⟨B7, b7⟩ : ∃ x, decide (whr < 0) = x := ⟨_, rfl⟩
    obtain ⟨B8, b8⟩ : ∃ x, decide (action = nNone) = x := ⟨_, rfl⟩
    obtain ⟨B9, b9⟩ : ∃ x, decide (whr = 0) = x := ⟨_, rfl⟩
    rw [b1, b2, b3, b4, b5, b6, b7, b8, b9] at hbad
    have t3 : decide (10 < (right.length : Int)) = B3 := by rw [← b3]; exact decide_eq_decide.2 (by omega)
    have t4 : (prec == -1) = B4 := by rw [← b4]; rfl
    have t4' : (prec != -1) = !B4 := by rw [bne, t4]
    have t9' : (whr != 0) = !B9 := by rw [bne, show (whr == 0) = B9 by rw [← b9]; rfl]
    have t8 := str_ilit action [] B8 b8
    have t8n := str_nlit action [] B8 b8
    have t8' : action.toList.isEmpty = B8 := by
      rw [← t8]
      cases action.toList <;> rfl
    have t9 : (whr == 0) = B9 := by rw [← b9]; rfl
    have HR := Lib.hid hrx
    have HBD := Lib.hid hbad
    clear b4 b9 b8 hrx hr hbad
    cases B4
    all_goals cases has
    all_goals
      go_enter Try.func85, Try.ntmps85
      go_upto_region 1 with fail
      rw [← HW.out]
      go_upto_region 4 with fail
      go_cut [116] (fun s wx => s = .bool BAD ∧ wx = w1)
      case first =>
        clear HR
        go_wp2
        all_goals
          go_meet
          exact ⟨by rw [← HBD.out]; simp [*], rfl⟩
      case rest =>
      obtain ⟨rfl, hwx⟩ := hcut
      rw [hwx]
      clear hwx
      clear b1 b2 b3 b5 b6 b7 t3 t4 t8 t8' t9 HBD t4' t8n t9'
      cases BAD
      case true =>
        go_wp2
        go_ret
        exact ⟨congrArg (fun t => Ending.returned (Value.bool t)) (by rw [HBad.out]; rfl), HB.out⟩
      case false =>
      go_wp2
      go_loopw [8, 9] (fun k _ wr => ∃ j : Nat, j ≤ right.length ∧ k = .int .i64 j ∧ rightRow terms ns (right.drop j) = rightRow terms ns right ∧ wr = w1)
        (fun k _ _ => right.length - (intOf k).toNat)
      case atStart => exact ⟨0, Nat.zero_le _, rfl, rfl, rfl⟩
      case round =>
        obtain ⟨j, hj, rfl, he, rfl⟩ := hrel
        by_cases hlt : j < right.length
        · rw [rightRow_drop _ _ _ _ hlt] at he
          obtain ⟨b, o, rfl, hc⟩ : ∃ b o, ra = some ⟨b, o, none⟩ ∧ wr.cell? ⟨b, o + j, none⟩ = some (.int .i64 right[j]) := by
            rcases HR.out with h | ⟨b, o, rfl, hc⟩
            · rw [h] at hlt
              simp at hlt
            · have := (Fr.new HB.out).cell (hc j (by simpa using hlt)) fun e => e
              exact ⟨b, o, rfl, by simpa using this⟩
          generalize right[j] = x at *
          obtain ⟨C1, c1⟩ : ∃ y, decide (x < 1) = y := ⟨_, rfl⟩
          obtain ⟨C2, c2⟩ : ∃ y, decide ((ns : Int) ≤ x) = y := ⟨_, rfl⟩
          obtain ⟨C3, c3⟩ : ∃ y, decide (x = terms) = y := ⟨_, rfl⟩
          rw [c1, c2, c3] at he
          have c3' : (x == terms) = C3 := by rw [← c3]; rfl
          have HE := Lib.hid he
          clear he c3 hr0 hok
          have cs : (C1 = true ∨ C1 = false ∧ C2 = true ∨ C1 = false ∧ C2 = false ∧ C3 = true) ∨ C1 = false ∧ C2 = false ∧ C3 = false := by
            cases C1 <;> cases C2 <;> cases C3 <;> simp
          rcases cs with cs | ⟨rfl, rfl, rfl⟩
          · rcases cs with rfl | ⟨rfl, rfl⟩ | ⟨rfl, rfl, rfl⟩
            all_goals
              go_wp2
              go_ret
              exact ⟨congrArg (fun t => Ending.returned (Value.bool t)) (by rw [HBad.out, ← HE.out]; simp), HB.out⟩
          · go_wp2
            go_roundw
            case rel => exact ⟨j + 1, by omega, by simp, by rw [← HE.out]; rfl, trivial⟩
            case measure => simp [intOf]; omega
        · obtain rfl : j = right.length := by omega
          simp only [List.drop_length] at he
          have HE := Lib.hid he
          clear he hlt hr0 hok
          go_wp2
          go_ret
          exact ⟨congrArg (fun t => Ending.returned (Value.bool t)) (by rw [HBad.out, ← HE.out]; rfl), HB.out⟩
end Go.Proofs.Ytpnihegmhalcfaa
