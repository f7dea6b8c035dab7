/-
  The document's answer on useless: spread.
-/
import Derived.Test.YtiiceickjaeehaaGreatRef16a
namespace Go.Proofs.YtiiceickjaeehaaGreat
open Go.RowKit
set_option maxHeartbeats 400000

theorem setAll_keep {L : List Bool} {R : List Int} {s : Nat} (hR : ∀ x ∈ R, x.toNat < L.length) (h : L.getD s false = true) : (setAll L R).getD s false = true := (setAll_get R L s hR).2 (.inl h)
theorem setAll_next (L : List Bool) (R : List Int) (j : Nat) (h : j < R.length) : setAll L (R.take (j + 1)) = (setAll L (R.take j)).set R[j].toNat true := by
  rw [List.take_add_one, List.getElem?_eq_getElem h]
  unfold setAll
  rw [List.foldl_append]
  rfl
set_option maxRecDepth 100000 in
set_option maxHeartbeats 4000000 in
theorem spread16_any (G : Gram) (hr : rightG G = true) (M : Prd → Bool) (bm : Nat) (v : Value) (w : World) (h : IsGram w v G) (hm : w.heap[bm]? = some (boolsObj (G.prods.map M))) :
    Calls Tryz.prog 29 #[v, .slice (some ⟨bm, 0, none⟩) G.prods.length G.prods.length] w fun e w' => ∃ r, e = .returned r ∧ NewB w w' r (fromL G M) := by
  have hG := h
  obtain ⟨hterms, vs, vp, rfl, hs, hp⟩ := h
  obtain ⟨_, sa, sc, rfl, _, _, _⟩ := id hs
  obtain ⟨_, pa, pc, rfl, _, _, _⟩ := id hp
  have hin := right_in hr
  obtain ⟨⟨ht0, ht1, hn0, hn1, _, _⟩, _, _⟩ := rightG_parts hr
  obtain ⟨i0, hi, hz0, hz1, hz2⟩ := info_parts Tryz.infoBool
  have HO := Lib.hid (alloc_obj w (Obj.cells #[.int .i64 G.terms, .slice sa G.syms.length sc, .slice pa G.prods.length pc] 25 (0, 0)))
  have HB1 := Lib.hid ((Below.refl _ w).alloc (Nat.le_refl _) (Obj.cells #[.int .i64 G.terms, .slice sa G.syms.length sc, .slice pa G.prods.length pc] 25 (0, 0)))
  have HG := Lib.hid hG
  have HM := Lib.hid hm
  have HFIN := Lib.hid (rounds_from hin ⟨by omega, by omega⟩ M)
  have HIN := Lib.hid hin
  have HLEN := Lib.hid fun k => (rounds_law (good_from M hin) (L0 := initF G.syms.length G.terms.toNat) (by simp [initF]) k).1
  have HGD := Lib.hid (good_from M hin)
  clear hr hin hG hs hp hm
  obtain ⟨tn, htn⟩ : ∃ tn : Nat, G.terms = (tn : Int) := ⟨G.terms.toNat, by omega⟩
  have htn' : G.terms.toNat = tn := by omega
  have htnl : tn < G.syms.length := by omega
  have hmi : (0 : Int) ≤ G.terms := by omega
  have hml : G.terms < (G.syms.length : Int) := by omega
  clear htn
  rw [htn'] at HFIN HLEN
  have hs1 : ∀ o, (w.alloc o).heap.size = w.heap.size + 1 := fun _ => by simp
  go_enter Tryz.func29, Tryz.ntmps29
  go_upto_region 2 with (at_make; refine wpList_make_full _ rfl _ _ 29 rfl w.heap.size 4 i0 (.bool false) 1 Tryz.underlying29 hi hz0 hz1 .i64 .i64 _ _ G.syms.length rfl rfl rfl rfl (by rw [hz2]; omega) (by unfold maxLen; omega) (by simp) ?_; intro w2 hown hgrow)
  have hb := made_bools hown
  rw [hs1] at hb
  have hF2 := Fr.grown hgrow
  have hO2 := hF2.obj HO.out (fun e => by cases e)
  have hB2 : Below w.heap.size w w2 := HB1.out.grown hgrow HB1.out.size (fun k e => by cases e)
  have d0 : w2.cell? ⟨w.heap.size, 0, none⟩ = some (.int .i64 G.terms) := obj_cell hO2 0 rfl
  have c0 := bools_cell hb tn (by simp; exact htnl)
  have f0 := obj_frozen hb tn
  have HB := Lib.hid hb
  clear hown hgrow hb hF2
  go_upto_region 3 with fail
  refine wp_atW (F := fun W => W.heap[w.heap.size + 1]? = some (boolsObj (initF G.syms.length tn)) ∧ W.heap[w.heap.size]? = some (Obj.cells #[.int .i64 G.terms, .slice sa G.syms.length sc, .slice pa G.prods.length pc] 25 (0, 0)) ∧ Below w.heap.size w W) ?_ ?_
  · have hF := Fr.setCell w2 ⟨w.heap.size + 1, tn, none⟩ (.bool true)
    refine ⟨?_, hF.obj hO2 (by unfold only; simp), hB2.trans (hF.below hB2.size fun k e => by have e' : k = w.heap.size + 1 := e; omega)⟩
    rw [← initF_set]
    exact bools_set HB.out _ _
  intro W ⟨hbW, hOW, hBW⟩
  have HO2 := Lib.hid hOW
  have HBW := Lib.hid hBW
  have HBB := Lib.hid hbW
  clear d0 c0 f0 HB hO2 hB2 HO HB1 hbW hOW hBW
  generalize hb0 : w.heap.size + 1 = b at *
  go_wp2
  go_loopw [6, 7, 8, 9] (fun i _ _ _ wq => ∃ r : Nat, r ≤ G.syms.length ∧ i = .int .i64 r ∧ wq.heap[b]? = some (boolsObj (roundsF (fromStep M) G.prods r (initF G.syms.length tn))) ∧ Fr (only b) W wq) (fun i _ _ _ _ => G.syms.length - (intOf i).toNat)
  case atStart => exact ⟨0, Nat.zero_le _, rfl, HBB.out, Fr.refl _ _⟩
  case round =>
    obtain ⟨r, hr, rfl, hbr, hFr⟩ := hrel
    clear HBB
    have hO := hFr.obj HO2.out (show ¬ only b w.heap.size from fun e => by have e' : w.heap.size = b := e; omega)
    have d1 : wr.cell? ⟨w.heap.size, 1, none⟩ = some (.slice sa G.syms.length sc) := obj_cell hO 1 rfl
    have HBR := Lib.hid (And.intro hbr hFr)
    by_cases hltr : r < G.syms.length
    · clear hbr hFr hO
      generalize wr = wA at *
      go_wp2
      go_loopw [7, 8, 9] (fun i _ _ wq => ∃ j : Nat, j ≤ G.prods.length ∧ i = .int .i64 j ∧ wq.heap[b]? = some (boolsObj (passTo (fromStep M) G.prods j (roundsF (fromStep M) G.prods r (initF G.syms.length tn)))) ∧ Fr (only b) W wq) (fun i _ _ _ => G.prods.length - (intOf i).toNat)
      case atStart => exact ⟨0, Nat.zero_le _, rfl, HBR.out.1, HBR.out.2⟩
      case round =>
        obtain ⟨j, hj, rfl, hbj, hFj⟩ := hrel
        clear HBR d1
        have hO := hFj.obj HO2.out (show ¬ only b w.heap.size from fun e => by have e' : w.heap.size = b := e; omega)
        have d2 : wr.cell? ⟨w.heap.size, 2, none⟩ = some (.slice pa G.prods.length pc) := obj_cell hO 2 rfl
        have HBJ := Lib.hid (And.intro hbj hFj)
        by_cases hltj : j < G.prods.length
        · have hBw : Below w.heap.size w wr := HBW.out.trans (hFj.below HBW.out.size fun g e => by have e' : g = b := e; omega)
          obtain ⟨pb, po, ra, rc, rfl, hints, _, hcx⟩ := HG.out.prd j hltj
          have hinp := HIN.out _ (List.getElem_mem hltj)
          have hnx := passTo_succ (fromStep M) G.prods j (roundsF (fromStep M) G.prods r (initF G.syms.length tn)) hltj
          have hlenj : (passTo (fromStep M) G.prods j (roundsF (fromStep M) G.prods r (initF G.syms.length tn))).length = G.syms.length := (round_sub HGD.out (G.prods.take j) _ (fun p hp => List.mem_of_mem_take hp) (HLEN.out r)).1
          generalize passTo (fromStep M) G.prods j (roundsF (fromStep M) G.prods r (initF G.syms.length tn)) = L at *
          have x0 := (Fr.new hBw).cell (hcx 0 (by simp [prdCells])) fun e => e
          have x1 := (Fr.new hBw).cell (hcx 1 (by simp [prdCells])) fun e => e
          have x2 := (Fr.new hBw).cell (hcx 2 (by simp [prdCells])) fun e => e
          have x3 := (Fr.new hBw).cell (hcx 3 (by simp [prdCells])) fun e => e
          have x4 := (Fr.new hBw).cell (hcx 4 (by simp [prdCells])) fun e => e
          have x5 := (Fr.new hBw).cell (hcx 5 (by simp [prdCells])) fun e => e
          simp only [prdCells, List.getElem_cons_zero, List.getElem_cons_succ, Nat.add_zero] at x0 x1 x2 x3 x4 x5
          have hmo := (Fr.new hBw).obj HM.out fun e => e
          have m0 := bools_cell hmo j (by simpa using hltj)
          rw [List.getElem_map] at m0
          have hbmw := (Array.getElem?_eq_some_iff.1 HM.out).1
          have hmb : ∃ mb, M G.prods[j] = mb := ⟨_, rfl⟩
          obtain ⟨mb, hmb⟩ := hmb
          rw [hmb] at m0
          rw [from_step, hmb] at hnx
          clear hmb
          generalize G.prods[j] = q at *
          obtain ⟨left, right, prec, has, action, whr⟩ := q
          obtain ⟨⟨hl0, hl1⟩, hri⟩ := hinp
          simp only at hl0 hl1 hri x0 x1 x2 x3 x4 x5 hnx hints
          obtain ⟨pl, rfl⟩ : ∃ pl : Nat, left = pl := ⟨left.toNat, by omega⟩
          rw [Int.toNat_natCast] at hnx
          have hpl : pl < G.syms.length := by omega
          obtain ⟨_, hrlen, ra', rc', hrv, _, _, hrx⟩ := id hints
          simp only [Value.slice.injEq] at hrv
          obtain ⟨rfl, -, rfl⟩ := hrv
          have HRI := Lib.hid (And.intro hri (And.intro hrx hlenj))
          have HBw := Lib.hid hBw
          have HNX := Lib.hid hnx
          have hbs : b < wr.heap.size := (Array.getElem?_eq_some_iff.1 hbj).1
          clear hnx hbj hFj hO hBw hcx hints hri hrx hlenj hmo
          go_upto_region 10 with fail
          refine wp_atW (F := fun Y => Y.heap[wr.heap.size]? = some (.cells #[.int .i64 (pl : Int), .slice ra right.length rc, .int .i64 prec, .bool has, .string action, .int .i64 whr] 44 (0, 0)) ∧ Fr nothing wr Y) ?_ ?_
          · exact ⟨alloc_obj wr _, Fr.alloc _ _⟩
          intro Y ⟨hpb, hFY⟩
          have hbY := hFY.obj HBJ.out.1 fun e => e
          have m1 := hFY.cell m0 fun e => e
          have HY := Lib.hid (And.intro hpb (And.intro hFY hbY))
          have q0 : Y.cell? ⟨wr.heap.size, 0, none⟩ = some (.int .i64 (pl : Int)) := obj_cell hpb 0 rfl
          have q1 : Y.cell? ⟨wr.heap.size, 1, none⟩ = some (.slice ra right.length rc) := obj_cell hpb 1 rfl
          have l0 := bools_cell hbY pl (by rw [HRI.out.2.2]; exact hpl)
          have hlb : L.getD pl false = L[pl]'(by rw [HRI.out.2.2]; exact hpl) := by rw [List.getD_eq_getElem?_getD, List.getElem?_eq_getElem (by rw [HRI.out.2.2]; exact hpl), Option.getD_some]
          clear hpb hFY hbY x0 x1 x2 x3 x4 x5 d2 m0
          generalize L[pl]'(by rw [HRI.out.2.2]; exact hpl) = lb at l0 hlb
          have HLB := Lib.hid hlb
          clear hlb
          generalize hBP : wr.heap.size = BP at *
          have HBP := Lib.hid hBP
          clear hBP
          generalize wr = wB at *
          by_cases hgo : (lb && mb) = true
          · rw [Bool.and_eq_true] at hgo
            obtain ⟨rfl, rfl⟩ := hgo
            go_wp2
            go_loopw [9] (fun i wq => ∃ x : Nat, x ≤ right.length ∧ i = .int .i64 x ∧ wq.heap[b]? = some (boolsObj (setAll L (right.take x))) ∧ Fr (only b) Y wq) (fun i _ => right.length - (intOf i).toNat)
            case atStart => exact ⟨0, Nat.zero_le _, rfl, HY.out.2.2, Fr.refl _ _⟩
            case round =>
              obtain ⟨x, hx, rfl, hbx, hFx⟩ := hrel
              have hpbx := hFx.obj HY.out.1 (show ¬ only b BP from fun e => by have e' : BP = b := e; omega)
              have q0' : wr.cell? ⟨BP, 0, none⟩ = some (.int .i64 (pl : Int)) := obj_cell hpbx 0 rfl
              have q1' : wr.cell? ⟨BP, 1, none⟩ = some (.slice ra right.length rc) := obj_cell hpbx 1 rfl
              have m2 := hFx.cell m1 (show ¬ only b bm from fun e => by have e' : bm = b := e; omega)
              have hinx : ∀ y ∈ right.take x, y.toNat < L.length := fun y hy => by have := HRI.out.1 y (List.mem_of_mem_take hy); rw [HRI.out.2.2]; omega
              have l1 := bools_cell hbx pl (by rw [setAll_length, HRI.out.2.2]; exact hpl)
              have hl1' := setAll_keep (s := pl) hinx HLB.out
              rw [List.getD_eq_getElem?_getD, List.getElem?_eq_getElem (by rw [setAll_length, HRI.out.2.2]; exact hpl), Option.getD_some] at hl1'
              rw [hl1'] at l1
              have HX := Lib.hid (And.intro hbx hFx)
              by_cases hltx : x < right.length
              · obtain ⟨b2, o2, rfl, hcl⟩ : ∃ b2 o2, ra = some ⟨b2, o2, none⟩ ∧ Cells w b2 o2 (right.map (Value.int .i64)) := by
                  rcases HRI.out.2.1 with h | h
                  · rw [h] at hltx; simp at hltx
                  · exact h
                have hBx : Below w.heap.size w wr := (HBw.out.trans ((Fr.below (B := w.heap.size) HY.out.2.1 HBw.out.size fun k e => e.elim))).trans (hFx.below (Nat.le_trans HBw.out.size HY.out.2.1.size) fun g e => by have e' : g = b := e; omega)
                have c0 := (Fr.new hBx).cell (hcl x (by simpa using hltx)) fun e => e
                rw [List.getElem_map] at c0
                have hry := HRI.out.1 _ (List.getElem_mem hltx)
                have hnext := setAll_next L right x hltx
                generalize right[x] = y at *
                obtain ⟨yn, rfl⟩ : ∃ yn : Nat, y = yn := ⟨y.toNat, by omega⟩
                have hyl : yn < G.syms.length := by omega
                rw [Int.toNat_natCast] at hnext
                have c1 := bools_cell hbx yn (by rw [setAll_length, HRI.out.2.2]; exact hyl)
                have f1 := obj_frozen hbx yn
                have HN := Lib.hid hnext
                clear hnext hcl hry hbx hFx hpbx hBx hinx hl1'
                go_wp2
                go_roundw
                case rel => exact ⟨x + 1, by omega, by simp, by rw [HN.out]; exact bools_set HX.out.1 _ _, HX.out.2.trans (Fr.setCell _ ⟨b, yn, none⟩ _)⟩
                case measure => simp [intOf]; omega
              · obtain rfl : x = right.length := by omega
                clear hbx hFx hpbx hinx hl1' hltx
                go_wp2
                go_roundw
                case rel =>
                  have h1 := HX.out.1
                  rw [List.take_length] at h1
                  exact ⟨j + 1, by omega, by simp, h1.trans (congrArg (fun l => some (boolsObj l)) (HNX.out.trans (by rw [HLB.out]; rfl)).symm), (HBJ.out.2.trans HY.out.2.1.wide).trans HX.out.2⟩
                case measure => simp [intOf]; omega
          · have HFN := Lib.hid (HNX.out.trans (show (if (L.getD pl false && mb) = true then setAll L right else L) = L by rw [HLB.out]; exact if_neg hgo))
            have hl0 : decide (0 < right.length) = true ∨ decide (0 < right.length) = false := by cases decide (0 < right.length) <;> simp
            have hrest : lb = false ∨ (lb = true ∧ mb = false) := by cases lb <;> cases mb <;> simp at hgo ⊢
            clear hgo
            rcases hl0 with hl0 | hl0 <;> rcases hrest with rfl | ⟨rfl, rfl⟩
            all_goals
              go_wp2
              refine wp_loop_rounds 1 ?_
              rw [rounds_succ]
              go_wp2
              go_roundw
              case rel => exact ⟨j + 1, by omega, by simp, HY.out.2.2.trans (congrArg (fun l => some (boolsObj l)) HFN.out.symm), HBJ.out.2.trans HY.out.2.1.wide⟩
              case measure => simp [intOf]; omega
        · obtain rfl : j = G.prods.length := by omega
          clear hbj hFj hO hltj
          go_wp2
          go_roundw
          case rel => exact ⟨r + 1, by omega, by simp, HBJ.out.1.trans (congrArg (fun l => some (boolsObj l)) (roundsF_succ (fromStep M) G.prods r _).symm), HBJ.out.2⟩
          case measure => simp [intOf]; omega
    · obtain rfl : r = G.syms.length := by omega
      clear hbr hFr hO hltr
      go_wp2
      go_ret
      exact ⟨_, rfl, b, by rw [fromL_len]; rfl, by omega, by rw [← HFIN.out]; exact HBR.out.1, HBW.out.trans (HBR.out.2.below HBW.out.size fun g e => by have e' : g = b := e; omega)⟩
end Go.Proofs.YtiiceickjaeehaaGreat
