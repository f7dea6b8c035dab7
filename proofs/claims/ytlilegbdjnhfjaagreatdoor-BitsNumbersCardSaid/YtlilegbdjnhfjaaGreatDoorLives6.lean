/-
  BitsLives where both ends may be: the walk.
-/
import Derived.Test.YtlilegbdjnhfjaaGreatDoorLives5
namespace Go.Proofs.YtlilegbdjnhfjaaGreatDoor
open Go.RowKit Go.Shelf
set_option maxHeartbeats 400000

set_option maxRecDepth 100000 in
set_option maxHeartbeats 4000000 in
theorem bitsLives_yy (m n : Nat) (hm : m ≤ 4096) (hn : n ≤ 4096) (va : Value) (l : List (Int × Int × Int)) (w : World) (hv : IsDos w va l) (hT : Tab w) :
    Calls Tryz.prog 3 #[.int .i64 m, .int .i64 n, va] w fun e w' => e = .returned (.bool true) ∧ Below w.heap.size w w' := by
  have HM := Lib.hid (pNew m w hm)
  have HN := Lib.hid fun w => pNew n w hn
  have HM2 := Lib.hid fun w => rNew m w hm
  have HN2 := Lib.hid fun w => rNew n w hn
  have HT := Lib.hid hT
  obtain ⟨la, lc, rfl, hll, hrow⟩ := hv
  have HV := Lib.hid hrow
  clear hm hn hT hrow
  go_enter Tryz.func3, Tryz.ntmps3
  go_upto_region 2 with (go_at_call 5; first | (refine HM.out.mono ?_; clear HM; rintro e w1 ⟨p0, v0, rfl, hP0, hB1⟩) | (refine (HN.out _).mono ?_; rintro e w2 ⟨p1, v1, rfl, hP1, hB2⟩))
  refine wp_atW (F := fun W => W = w2.alloc (.cells #[.pointer (some ⟨p0, 0, none⟩), .pointer (some ⟨p1, 0, none⟩)] 23)) rfl ?_
  rintro wS hS
  have HP := Lib.hid (And.intro hP0 (And.intro hB1 (And.intro hP1 hB2)))
  have HS := Lib.hid hS
  have hs0 : wS.heap[w2.heap.size]? = some (.cells #[.pointer (some ⟨p0, 0, none⟩), .pointer (some ⟨p1, 0, none⟩)] 23 (0, 0)) := by rw [hS]; exact World.alloc_heap_new _ _
  clear hP0 hB1 hP1 hB2 hS HN
  go_upto_region 4 with (go_at_call 6; first | (refine (HM2.out _).mono ?_; clear HM2; rintro e w3 ⟨q0, u0, rfl, hR0, hB3⟩) | (refine (HN2.out _).mono ?_; rintro e w4 ⟨q1, u1, rfl, hR1, hB4⟩))
  have hF : Fr nothing wS w4 := (Fr.new hB3).trans (Fr.new hB4)
  have hs4 := hF.obj hs0 fun e => e
  have c0 : w4.cell? ⟨w2.heap.size, 0, none⟩ = some (.pointer (some ⟨p0, 0, none⟩)) := obj_cell hs4 0 rfl
  have c1 : w4.cell? ⟨w2.heap.size, 1, none⟩ = some (.pointer (some ⟨p1, 0, none⟩)) := obj_cell hs4 1 rfl
  have hSt := St.start HS.out HP.out.1 HP.out.2.1 HP.out.2.2.1 HP.out.2.2.2 hR0 hB3 hR1 hB4 HT.out
  have HST := Lib.hid hSt
  clear hSt hR0 hB3 hR1 hB4 hF hs4 hs0 HP HS HN2
  go_upto_region 9 with fail
  refine wp_atW (F := fun W => ∃ p v q u b, St W w.heap.size w2.heap.size w4.heap.size p v q u b ∧ Below w.heap.size w W) ⟨_, _, _, _, _, HST.out⟩ ?_
  clear HST c0 c1
  generalize w2.heap.size = sb
  generalize w4.heap.size = db
  rintro wZ ⟨p, v, q, u, b, hSt, hBZ⟩
  go_wp2
  go_loopw [13] (fun i wr => ∃ (k : Nat) (p : Nat → Nat) (v : Nat → Value) (q : Nat → Nat) (u : Nat → Value) (b : Nat → List Bool), k ≤ l.length ∧ i = .int .i64 k ∧ St wr w.heap.size sb db p v q u b ∧ Below w.heap.size w wr)
    (fun i _ => l.length - (intOf i).toNat)
  case atStart => exact ⟨0, p, v, q, u, b, Nat.zero_le _, rfl, hSt, hBZ⟩
  case round =>
    clear hSt hBZ
    obtain ⟨k, p, v, q, u, b, hk, rfl, hSt, hB⟩ := hrel
    by_cases hlt : k < l.length ∧ k < 150
    · obtain ⟨h1, h2⟩ := hlt
      obtain ⟨bx, o, rfl, hcs, hr1, hr2⟩ := HV.out k h1
      have hcs' := hcs.fr (Fr.new hB) fun e => e
      generalize l[k] = x at *
      obtain ⟨op, wh, n⟩ := x
      have e0 : wr.cell? ⟨bx, o + k * 3, none⟩ = some (.int .i64 op) := by simpa using hcs' 0 (by simp)
      have e1 : wr.cell? ⟨bx, o + k * 3 + 1, none⟩ = some (.int .i64 wh) := by simpa using hcs' 1 (by simp)
      have e2 : wr.cell? ⟨bx, o + k * 3 + 2, none⟩ = some (.int .i64 n) := by simpa using hcs' 2 (by simp)
      have s0 : wr.cell? ⟨sb, 0, none⟩ = some (.pointer (some ⟨p 0, 0, none⟩)) := hSt.sc (by omega)
      have d0 : wr.cell? ⟨db, 0, none⟩ = some (.pointer (some ⟨q 0, 0, none⟩)) := hSt.dc (by omega)
      have HSTEP := Lib.hid fun j => step_any (wr.drewN j) w.heap.size sb db p q v u b (hSt.fresh (Fr.drewN _ _)) op wh n hr1 hr2
      have HB := Lib.hid hB
      have HSt := Lib.hid hSt
      have HC := Lib.hid hcs
      clear hcs hcs' hr1 hr2 hB hSt
      go_wp2_with fail
      go_quiet (fail)
      go_upto_region 15 with (go_at_call 8; refine (HSTEP.out _).mono ?_; rintro e wy ⟨rfl, hBy, p', v', q', u', b', hSy, hor⟩)
      have HBY := Lib.hid (HB.out.trans (((Fr.drewN (ch := nothing) wr nq).below_new.mono HB.out.size).trans hBy))
      have HSY := Lib.hid hSy
      have HOR := Lib.hid hor
      clear e0 e1 e2 s0 d0 HSTEP hBy hSy hor HB HSt
      generalize p 0 = pz at *
      generalize q 0 = qz at *
      generalize v 0 = vz at *
      generalize u 0 = uz at *
      generalize b 0 = bz at *
      generalize hwA : wr = wA at *
      clear hwA
      go_wp2
      go_loopw [16] (fun i wr => ∃ j : Nat, j ≤ 2 ∧ i = .int .i64 j ∧ Fr nothing wy wr) (fun i _ => 2 - (intOf i).toNat)
      case atStart => exact ⟨0, by omega, rfl, Fr.refl _ _⟩
      case round =>
        obtain ⟨j, hj, rfl, hF⟩ := hrel
        by_cases hj2 : j < 2
        · have hS := HSY.out.fresh hF
          have sj := hS.sc hj2
          have dj := hS.dc hj2
          have HPA := Lib.hid fun W (h : Fr nothing wr W) => pAllS W _ _ _ _ ((hS.P j hj2).fresh h) (hS.tab.fr h fun e => e)
          have HRA := Lib.hid fun W (h : Fr nothing wr W) => rAllS W _ _ _ _ ((hS.R j hj2).fresh h)
          have HLN := Lib.hid fun W (h : Fr nothing wr W) => pLenS W _ _ _ _ ((hS.P j hj2).fresh h)
          have HF := Lib.hid hF
          clear hS hF
          generalize truesI (b' j) = xs at *
          generalize p' j = pj at *
          generalize q' j = qj at *
          have hji : (j : Int) < 2 := by omega
          go_wp2_with fail
          go_region_held3 (fun W => W.cell? ⟨sb, j, none⟩ = some (.pointer (some ⟨pj, 0, none⟩)) ∧ W.cell? ⟨db, j, none⟩ = some (.pointer (some ⟨qj, 0, none⟩)) ∧ Fr nothing wr W)
            (first | exact ⟨sj, dj, Fr.drew _⟩ | (go_split_ands; exact keep2 (by assumption) (by assumption) (by assumption) hF4) | (go_split_ands; exact keep2 (by assumption) (by assumption) (by assumption) hF3) | (go_split_ands; exact keep2 (by assumption) (by assumption) (by assumption) hF2) | (go_split_ands; exact keep2 (by assumption) (by assumption) (by assumption) hF1))
            (first
              | (go_at_call 10; go_split_ands; refine (HPA.out _ (by assumption)).mono ?_; rintro e w1 ⟨a1, c1, rfl, hF1, _, hI1⟩)
              | (go_at_call 11; go_split_ands; refine (HRA.out _ (by assumption)).mono ?_; rintro e w2 ⟨a2, c2, rfl, hF2, hI2⟩)
              | (go_at_call 9; refine (sameT _ _ xs _ ?_ ?_).mono ?_; (first | exact hI1 | exact hI1.fr hF2); (first | exact hI2 | exact hI2.fr hF1); rintro e w3 ⟨rfl, hF3⟩)
              | (go_at_call 12; go_split_ands; refine (HLN.out _ (by assumption)).mono ?_; rintro e w4 ⟨rfl, hF4⟩))
          all_goals
            go_wp2
            go_roundw
            case rel => exact ⟨j + 1, by omega, by simp, HF.out.trans (by go_split_ands; assumption)⟩
            case measure => simp [intOf]; omega
        · obtain rfl : j = 2 := by omega
          clear hj2 hj
          have hS := HSY.out.fresh hF
          have hBW := HBY.out.trans (hF.below_new.mono HBY.out.size)
          have s0 : wr.cell? ⟨sb, 0, none⟩ = some (.pointer (some ⟨p' 0, 0, none⟩)) := hS.sc (by omega)
          have d0 : wr.cell? ⟨db, 0, none⟩ = some (.pointer (some ⟨q' 0, 0, none⟩)) := hS.dc (by omega)
          have HS := Lib.hid hS
          have HBW := Lib.hid hBW
          rcases HOR.out with hp | ⟨hp, ho⟩
          · rw [hp] at s0
            have hnq := neqP_same wr ⟨pz, 0, none⟩
            clear hS hBW hF HOR
            go_wp2
            go_roundw
            case rel => exact ⟨k + 1, p', v', q', u', b', by omega, by simp, HS.out, HBW.out⟩
            case measure => simp [intOf]; omega
          · have HO := Lib.hid (ho.old.fresh hF)
            have hnq := HO.out.P.neq (hS.P 0 (by omega)) fun e => hp e.symm
            have e2 : wr.cell? ⟨bx, o + k * 3 + 2, none⟩ = some (.int .i64 n) := by simpa using (HC.out.fr (Fr.new hBW) fun e => e) 2 (by simp)
            have HAD := Lib.hid (pAdd wr _ _ _ _ HO.out.P n)
            clear hS hBW hF HOR ho
            go_upto_region 23 with (first
              | (go_at_call 13; refine HAD.out.mono ?_; rintro e w5 ⟨rfl, hP5, hF5⟩; obtain ⟨hO5, hS5, hB5⟩ := HO.out.addP HS.out hF5 hP5; have hBW5 := HBW.out.trans hB5; have e5 : w5.cell? ⟨bx, o + k * 3 + 2, none⟩ = some (.int .i64 n) := (HC.out.fr (Fr.new hBW5) fun e => e) 2 (Nat.lt_succ_self 2); have HRD := Lib.hid (rAdd w5 _ _ _ _ hO5.R n); have HO5 := Lib.hid hO5; have HS5 := Lib.hid hS5; have HBW5 := Lib.hid hBW5; clear hO5 hS5 hBW5 hB5 hP5 hF5)
              | (go_at_call 14; refine HRD.out.mono ?_; rintro e w6 ⟨rfl, hR6, hF6⟩; obtain ⟨hO6, hS6, hB6⟩ := HO5.out.addR HS5.out hF6 hR6; have hBW6 := HBW5.out.trans hB6))
            have HPA := Lib.hid fun W (h : Fr nothing w6 W) => pAllS W _ _ _ _ (hO6.P.fresh h) (hS6.tab.fr h fun e => e)
            have HRA := Lib.hid fun W (h : Fr nothing w6 W) => rAllS W _ _ _ _ (hO6.R.fresh h)
            have HPB := Lib.hid fun W (h : Fr nothing w6 W) => pAllS W _ _ _ _ ((hS6.P 0 (by omega)).fresh h) (hS6.tab.fr h fun e => e)
            have HRB := Lib.hid fun W (h : Fr nothing w6 W) => rAllS W _ _ _ _ ((hS6.R 0 (by omega)).fresh h)
            have s6 : w6.cell? ⟨sb, 0, none⟩ = some (.pointer (some ⟨p' 0, 0, none⟩)) := hS6.sc (by omega)
            have d6 : w6.cell? ⟨db, 0, none⟩ = some (.pointer (some ⟨q' 0, 0, none⟩)) := hS6.dc (by omega)
            have HS6 := Lib.hid hS6
            have HB6 := Lib.hid hBW6
            clear hS6 hO6 hBW6 hB6 hR6 hF6 HRD HAD HO5 HS5 HBW5 hnq s0 d0 e2 e5 HO HS HBW
            generalize truesI (addB bz n) = xs at *
            generalize truesI (b' 0) = ys at *
            generalize p' 0 = pj at *
            generalize q' 0 = qj at *
            go_region_held3 (fun W => W.cell? ⟨sb, 0, none⟩ = some (.pointer (some ⟨pj, 0, none⟩)) ∧ W.cell? ⟨db, 0, none⟩ = some (.pointer (some ⟨qj, 0, none⟩)) ∧ Fr nothing w6 W)
              (first | exact ⟨s6, d6, Fr.drew _⟩ | (go_split_ands; exact keep2 (by assumption) (by assumption) (by assumption) hF6) | (go_split_ands; exact keep2 (by assumption) (by assumption) (by assumption) hF5) | (go_split_ands; exact keep2 (by assumption) (by assumption) (by assumption) hF4) | (go_split_ands; exact keep2 (by assumption) (by assumption) (by assumption) hF3) | (go_split_ands; exact keep2 (by assumption) (by assumption) (by assumption) hF2) | (go_split_ands; exact keep2 (by assumption) (by assumption) (by assumption) hF1))
              (first
                | (go_at_call 10; go_split_ands; (with_reducible refine (HPA.out _ (by assumption)).mono ?_); rintro e w1 ⟨a1, c1, rfl, hF1, _, hI1⟩)
                | (go_at_call 10; go_split_ands; (with_reducible refine (HPB.out _ (by assumption)).mono ?_); rintro e w4 ⟨a4, c4, rfl, hF4, _, hI4⟩)
                | (go_at_call 11; go_split_ands; (with_reducible refine (HRA.out _ (by assumption)).mono ?_); rintro e w2 ⟨a2, c2, rfl, hF2, hI2⟩)
                | (go_at_call 11; go_split_ands; (with_reducible refine (HRB.out _ (by assumption)).mono ?_); rintro e w5 ⟨a5, c5, rfl, hF5, hI5⟩)
                | (go_at_call 9; refine (sameT _ _ xs _ ?_ ?_).mono ?_; (first | exact hI1 | exact hI1.fr hF2); (first | exact hI2 | exact hI2.fr hF1); rintro e w3 ⟨rfl, hF3⟩)
                | (go_at_call 9; refine (sameT _ _ ys _ ?_ ?_).mono ?_; (first | exact hI4 | exact hI4.fr hF5); (first | exact hI5 | exact hI5.fr hF4); rintro e w7 ⟨rfl, hF6⟩))
            all_goals
              go_wp2
              go_split_ands
              go_roundw
              case rel => exact ⟨k + 1, p', v', q', u', b', by omega, by simp, HS6.out.fresh (by assumption), HB6.out.trans ((Fr.below_new (by assumption)).mono HB6.out.size)⟩
              case measure => simp [intOf]; omega
    · have hd : ¬ k < l.length ∨ (k < l.length ∧ ¬ k < 150) := by omega
      have s0 : wr.cell? ⟨sb, 0, none⟩ = some (.pointer (some ⟨p 0, 0, none⟩)) := hSt.sc (by omega)
      have d0 : wr.cell? ⟨db, 0, none⟩ = some (.pointer (some ⟨q 0, 0, none⟩)) := hSt.dc (by omega)
      have HPA := Lib.hid fun W (h : Fr nothing wr W) => pAllS W _ _ _ _ ((hSt.P 0 (by omega)).fresh h) (hSt.tab.fr h fun e => e)
      have HRA := Lib.hid fun W (h : Fr nothing wr W) => rAllS W _ _ _ _ ((hSt.R 0 (by omega)).fresh h)
      have HAW := Lib.hid fun W (h : Fr nothing wr W) => awake_any W (hSt.tab.fr h fun e => e)
      have hxl : (truesI (b 0)).length ≤ 4096 := by have := (hSt.P 0 (by omega)).len; have := trues_len (b 0); rw [truesI_len]; omega
      have HB := Lib.hid hB
      clear hSt hB hlt HV
      generalize truesI (b 0) = xs at *
      generalize p 0 = pj at *
      generalize q 0 = qj at *
      have HPB := HPA
      rcases hd with hd | ⟨hd, hd2⟩ <;> go_wp2_with fail
      all_goals
        go_region_held3 (fun W => W.cell? ⟨sb, 0, none⟩ = some (.pointer (some ⟨pj, 0, none⟩)) ∧ W.cell? ⟨db, 0, none⟩ = some (.pointer (some ⟨qj, 0, none⟩)) ∧ Fr nothing wr W)
          (first | exact ⟨s0, d0, Fr.drew _⟩ | (go_split_ands; exact keep2 (by assumption) (by assumption) (by assumption) hF2) | (go_split_ands; exact keep2 (by assumption) (by assumption) (by assumption) hF1))
          (first
            | (go_at_call 10; go_split_ands; refine (HPA.out _ (by assumption)).mono ?_; clear HPA; rintro e w1 ⟨a1, c1, rfl, hF1, hO1, _⟩)
            | (go_at_call 10; go_split_ands; refine (HPB.out _ (by assumption)).mono ?_; rintro e w2 ⟨a2, c2, rfl, hF2, hO2, _⟩))
        all_goals
          have hFE : Fr nothing wr w2 := ((Fr.drew _).trans hF1).trans hF2
          have hz1 : wr.heap.size ≤ w1.heap.size := hF1.size
          have hx1 := (hO1.fr hF2 fun _ _ e => e).fr (Fr.drew (ch := nothing) _) fun _ _ e => e
          have hx2 : ORow w2.drew wr.heap.size (.slice a2 xs.length c2) xs.length xs := ⟨hO2.1, own_base (own_fr hO2.2 (Fr.drew (ch := nothing) _) fun _ _ e => e) hz1⟩
          have hap : ∀ g, (Value.slice a1 xs.length c1).ownBlock = some g → (Value.slice a2 xs.length c2).ownBlock ≠ some g := fun g e e' => by have := (hO1.2.lt g e).2; have := (hO2.2.lt g e').1; omega
          have HAP1 := Lib.hid (apartDrew (apartDuo wr.heap.size xs.length _ _ xs xs w2.drew hxl hx1 hx2 hFE.size hap))
          have HAP2 := Lib.hid (apartDrew (apartDuo wr.heap.size xs.length _ _ xs xs w2.drew hxl hx2 hx1 hFE.size fun g e e' => hap g e' e))
          have HFE := Lib.hid hFE
          have s2 := hFE.cell s0 fun e => e
          have d2 := hFE.cell d0 fun e => e
          clear hFE hx1 hx2 hap hO1 hO2 hF1 hF2 hz1
          go_upto_region 26 with fail
          go_region_with (first
            | (go_at_call 15; (with_reducible refine HAP1.out.mono ?_); rintro e x2 ⟨rfl, hb2⟩; have hG2 := Fr.new (((HFE.out.trans ((Fr.alloc _ _).trans (Fr.drew _))).below_new).trans hb2); have s3 := hG2.cell s0 fun e => e; have d3 := hG2.cell d0 fun e => e)
            | (go_at_call 15; (with_reducible refine HAP2.out.mono ?_); rintro e x2 ⟨rfl, hb2⟩; have hG2 := Fr.new (((HFE.out.trans ((Fr.alloc _ _).trans (Fr.drew _))).below_new).trans hb2); have s3 := hG2.cell s0 fun e => e; have d3 := hG2.cell d0 fun e => e)
            | (go_at_call 10; (with_reducible refine (HPB.out _ hG2).mono ?_); rintro e x3 ⟨a3, c3, rfl, hF3, _, hI3⟩; have hG3 := hG2.trans hF3; have s4 := hG3.cell s0 fun e => e; have d4 := hG3.cell d0 fun e => e)
            | (go_at_call 10; (with_reducible refine (HPB.out _ hG4).mono ?_); rintro e x3 ⟨a3, c3, rfl, hF3, _, hI3⟩; have hG3 := hG4.trans hF3; have s4 := hG3.cell s0 fun e => e; have d4 := hG3.cell d0 fun e => e)
            | (go_at_call 11; (with_reducible refine (HRA.out _ hG2).mono ?_); rintro e x4 ⟨a4, c4, rfl, hF4, hI4⟩; have hG4 := hG2.trans hF4; have s5 := hG4.cell s0 fun e => e; have d5 := hG4.cell d0 fun e => e)
            | (go_at_call 11; (with_reducible refine (HRA.out _ hG3).mono ?_); rintro e x4 ⟨a4, c4, rfl, hF4, hI4⟩; have hG4 := hG3.trans hF4; have s5 := hG4.cell s0 fun e => e; have d5 := hG4.cell d0 fun e => e)
            | (go_at_call 9; refine (sameT _ _ xs _ ?_ ?_).mono ?_; (first | exact hI3 | exact hI3.fr hF4); (first | exact hI4 | exact hI4.fr hF3); rintro e x5 ⟨rfl, hF5⟩; first | (have hG5 := hG4.trans hF5) | (have hG5 := hG3.trans hF5))
            | (go_at_call 7; refine (HAW.out _ hG5).mono ?_; rintro e x6 ⟨rfl, hb6⟩))
          all_goals
            try go_wp2
            go_ret
            exact ⟨rfl, HB.out.trans ((hG5.below_new.trans (hb6.mono hG5.size)).mono HB.out.size)⟩
end Go.Proofs.YtlilegbdjnhfjaaGreatDoor
