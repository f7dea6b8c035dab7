/-
  The document's answer on useless: all, Makes.
-/
import Derived.Test.YtiiceickjaeehaaGreatRounds
import Derived.Test.YtiiceickjaeehaaGreatUse7
import Derived.Test.YtiiceickjaeehaaGreatRef14d
namespace Go.Proofs.YtiiceickjaeehaaGreat
open Go.RowKit
set_option maxHeartbeats 400000

set_option maxRecDepth 100000 in
set_option maxHeartbeats 1000000 in
theorem all16_any (L : List Bool) (R : List Int) (b : Nat) (v : Value) (w : World) (hb : w.heap[b]? = some (boolsObj L)) (hv : Ints w v R) (hin : ∀ x ∈ R, 0 ≤ x ∧ x < L.length) :
    Calls Tryz.prog 28 #[.slice (some ⟨b, 0, none⟩) L.length L.length, v] w fun e w' => e = .returned (.bool (allE L R)) ∧ w = w' := by
  obtain ⟨_, hlen, a, cap, rfl, _, _, hx⟩ := hv
  go_enter Tryz.func28, Tryz.ntmps28
  go_wp2
  go_loopw [5] (fun i wr => ∃ k : Nat, k ≤ R.length ∧ i = .int .i64 k ∧ allE L (R.take k) = true ∧ w = wr) (fun i _ => R.length - (intOf i).toNat)
  case atStart => exact ⟨0, Nat.zero_le _, rfl, rfl, rfl⟩
  case round =>
    obtain ⟨k, hk, rfl, he, rfl⟩ := hrel
    have HE := Lib.hid he
    clear he
    by_cases hlt : k < R.length
    · obtain ⟨b', o, rfl, hcx⟩ : ∃ b' o, a = some ⟨b', o, none⟩ ∧ Cells w b' o (R.map (Value.int .i64)) := by
        rcases hx with rfl | h
        · simp at hlt
        · exact h
      have h1 := hcx k (by simpa using hlt)
      rw [List.getElem_map] at h1
      have hm := hin _ (List.getElem_mem hlt)
      have ht : allE L (R.take (k + 1)) = L.getD R[k].toNat false := by
        have := HE.out
        unfold allE at this ⊢
        rw [List.take_add_one, List.getElem?_eq_getElem hlt, List.all_append, this]
        simp
      have hf : L.getD R[k].toNat false = false → allE L R = false := by
        intro h
        unfold allE
        rw [List.all_eq_false]
        exact ⟨_, List.getElem_mem hlt, by simp only [h]; simp⟩
      generalize R[k] = m at *
      obtain ⟨m, rfl⟩ : ∃ n : Nat, m = (n : Int) := ⟨m.toNat, by omega⟩
      have hml : m < L.length := by omega
      have h2 := bools_cell hb m hml
      rw [Int.toNat_natCast, List.getD_eq_getElem?_getD, List.getElem?_eq_getElem hml, Option.getD_some] at ht hf
      generalize L[m] = c at *
      have HT := Lib.hid ht
      have HF := Lib.hid hf
      clear ht hf hcx hx hb hin
      cases c
      · go_wp2
        go_ret
        exact ⟨by rw [HF.out trivial]; rfl, rfl⟩
      · go_wp2
        go_roundw
        case rel => exact ⟨k + 1, by omega, by simp, HT.out, trivial⟩
        case measure => simp [intOf]; omega
    · obtain rfl : k = R.length := by omega
      have hfin := HE.out
      rw [List.take_length] at hfin
      have HF := Lib.hid hfin
      clear hlt hfin
      go_wp2
      go_ret
      exact ⟨by rw [HF.out]; rfl, rfl⟩

/-- A production that stands in a row, in memory. -/
theorem IsGram.prd {w : World} {G : Gram} {s : Value} {pa : Option Addr} {n pc : Nat} (h : IsGram w (.agg #[.int .i64 G.terms, s, .slice pa n pc]) G) (k : Nat) (hk : k < G.prods.length) :
    ∃ b o ra rc, pa = some ⟨b, o, none⟩ ∧ Ints w (.slice ra G.prods[k].right.length rc) G.prods[k].right ∧ IsPrd w (prdVal G.prods[k] (.slice ra G.prods[k].right.length rc)) G.prods[k] ∧ Cells w b (o + k * 6) (prdCells G.prods[k] (.slice ra G.prods[k].right.length rc)) := by
  obtain ⟨_, vs', vp', hv', _, hps⟩ := h
  simp only [Value.agg.injEq, Array.mk.injEq, List.cons.injEq, and_true, true_and] at hv'
  obtain ⟨rfl, rfl⟩ := hv'
  obtain ⟨b, o, ra, rc, rfl, hq, hcx⟩ := hps.get k hk
  obtain ⟨ok, r, hr, hv⟩ := id hq
  unfold prdVal at hv
  simp only [Value.agg.injEq, Array.mk.injEq, List.cons.injEq, and_true, true_and] at hv
  exact ⟨b, o, ra, rc, rfl, hv ▸ hr, hq, hcx⟩

set_option maxRecDepth 100000 in
set_option maxHeartbeats 4000000 in
theorem makes16_any (G : Gram) (v : Value) (w : World) (h : IsGram w v G) :
    Calls Tryz.prog 12 #[v] w fun e w' => ∃ r, e = .returned r ∧ AnsB w w' r (rightG G) (makesL G) := by
  have hG := h
  obtain ⟨hterms, vs, vp, rfl, hs, hp⟩ := h
  obtain ⟨_, sa, sc, rfl, _, _, _⟩ := id hs
  obtain ⟨_, pa, pc, rfl, _, _, _⟩ := id hp
  have HO := Lib.hid (alloc_obj w (Obj.cells #[.int .i64 G.terms, .slice sa G.syms.length sc, .slice pa G.prods.length pc] 25 (0, 0)))
  have HB1 := Lib.hid ((Below.refl _ w).alloc (Nat.le_refl _) (Obj.cells #[.int .i64 G.terms, .slice sa G.syms.length sc, .slice pa G.prods.length pc] 25 (0, 0)))
  have HG := Lib.hid hG
  have HR := Lib.hid (right14_gram G _ _ (hG.fr (Fr.new HB1.out)))
  clear hG hs hp
  cases hr : rightG G
  · rw [hr] at HR
    go_enter Tryz.func12, Tryz.ntmps12
    go_wp2_with (go_at_call 27; refine HR.out.mono ?_; rintro e w2 ⟨rfl, hb2⟩)
    go_ret
    exact ⟨_, rfl, .inr ⟨rfl, rfl, HB1.out.trans (hb2.mono HB1.out.size)⟩⟩
  · have hin := right_in hr
    obtain ⟨⟨ht0, ht1, hn0, hn1, _, _⟩, _, _⟩ := rightG_parts hr
    obtain ⟨i0, hi, hz0, hz1, hz2⟩ := info_parts Tryz.infoBool
    have hfin := rounds_makes hin
    have HFIN := Lib.hid hfin
    have HIN := Lib.hid hin
    have HLEN := Lib.hid fun k => (rounds_law (good_mk hin) (L0 := initM G.syms.length G.terms.toNat) (by simp [initM]) k).1
    have HGD := Lib.hid (good_mk hin)
    rw [hr] at HR
    clear hr hfin hin
    obtain ⟨tn, htn⟩ : ∃ tn : Nat, G.terms = (tn : Int) := ⟨G.terms.toNat, by omega⟩
    have htn' : G.terms.toNat = tn := by omega
    have HTN := Lib.hid htn
    have htnl : tn < G.syms.length := by omega
    clear htn
    rw [htn'] at HFIN HLEN
    go_enter Tryz.func12, Tryz.ntmps12
    go_upto_region 4 with (first
      | (go_at_call 27; refine HR.out.mono ?_; rintro e w2 ⟨rfl, hb2⟩; have hB2 := HB1.out.trans (hb2.mono HB1.out.size); have hO2 := (Fr.new hb2).obj HO.out fun e => e; have d1 : w2.cell? ⟨w.heap.size, 1, none⟩ = some (.slice sa G.syms.length sc) := obj_cell hO2 1 rfl)
      | (at_make; refine wpList_make_full _ rfl _ _ 29 rfl w2.heap.size 4 i0 (.bool false) 1 Tryz.underlying29 hi hz0 hz1 .i64 .i64 _ _ G.syms.length rfl rfl rfl rfl (by rw [hz2]; omega) (by unfold maxLen; omega) (Nat.le_refl _) ?_; intro W hown hgrow))
    have hb := made_bools hown
    rw [initM_zero] at hb
    have hF2 := Fr.grown hgrow
    have hOW := hF2.obj hO2 (fun e => by cases e)
    have hBW : Below w.heap.size w W := hB2.grown hgrow hB2.size (fun k e => by cases e)
    have hlt0 : w.heap.size < w2.heap.size := (Array.getElem?_eq_some_iff.1 hO2).1
    have HO2 := Lib.hid hOW
    have HBW := Lib.hid hBW
    have HB := Lib.hid hb
    clear hown hgrow hb hF2 hOW hBW hO2 hb2 hB2 d1 HR HO HB1
    generalize w2.heap.size = b at *
    go_wp2
    go_loopw [4] (fun i wr => ∃ k : Nat, k ≤ tn ∧ i = .int .i64 k ∧ wr.heap[b]? = some (boolsObj (initM G.syms.length k)) ∧ Fr (only b) W wr) (fun i _ => tn - (intOf i).toNat)
    case atStart => exact ⟨0, Nat.zero_le _, rfl, HB.out, Fr.refl _ _⟩
    case round =>
      obtain ⟨k, hk, rfl, hbk, hF⟩ := hrel
      clear HB
      have hO := hF.obj HO2.out (show ¬ only b w.heap.size from fun e => by have e' : w.heap.size = b := e; omega)
      have d0 : wr.cell? ⟨w.heap.size, 0, none⟩ = some (.int .i64 G.terms) := obj_cell hO 0 rfl
      have HBK := Lib.hid (And.intro hbk hF)
      by_cases hlt : k < tn
      · have ht : decide ((k : Int) < G.terms) = true := decide_eq_true (by have := HTN.out; omega)
        have c0 := bools_cell hbk k (by simp [initM]; omega)
        have f0 := obj_frozen hbk k
        clear hbk hF hO
        go_wp2
        go_roundw
        case rel => exact ⟨k + 1, by omega, by simp, by rw [← initM_set (by omega)]; exact bools_set HBK.out.1 _ _, HBK.out.2.trans (Fr.setCell _ ⟨b, k, none⟩ _)⟩
        case measure => simp [intOf]; omega
      · obtain rfl : k = tn := by omega
        have ht : decide ((k : Int) < G.terms) = false := decide_eq_false (by have := HTN.out; omega)
        clear hbk hF hO hlt
        go_wp2
        go_loopw [5, 6] (fun i _ wq => ∃ r : Nat, r ≤ G.syms.length ∧ i = .int .i64 r ∧ wq.heap[b]? = some (boolsObj (roundsF mkStep G.prods r (initM G.syms.length k))) ∧ Fr (only b) W wq) (fun i _ _ => G.syms.length - (intOf i).toNat)
        case atStart => exact ⟨0, Nat.zero_le _, rfl, HBK.out.1, HBK.out.2⟩
        case round =>
          obtain ⟨r, hr, rfl, hbr, hFr⟩ := hrel
          clear HBK d0
          have hO := hFr.obj HO2.out (show ¬ only b w.heap.size from fun e => by have e' : w.heap.size = b := e; omega)
          have d1 : wr.cell? ⟨w.heap.size, 1, none⟩ = some (.slice sa G.syms.length sc) := obj_cell hO 1 rfl
          have HBR := Lib.hid (And.intro hbr hFr)
          by_cases hltr : r < G.syms.length
          · clear hbr hFr hO
            have HBR' := HBR.out
            generalize wr = wA at *
            go_wp2
            go_loopw [6] (fun i wq => ∃ j : Nat, j ≤ G.prods.length ∧ i = .int .i64 j ∧ wq.heap[b]? = some (boolsObj (passTo mkStep G.prods j (roundsF mkStep G.prods r (initM G.syms.length k)))) ∧ Fr (only b) W wq) (fun i _ => G.prods.length - (intOf i).toNat)
            case atStart => exact ⟨0, Nat.zero_le _, rfl, HBR'.1, HBR'.2⟩
            case round =>
              obtain ⟨j, hj, rfl, hbj, hFj⟩ := hrel
              clear HBR' d1
              have hO := hFj.obj HO2.out (show ¬ only b w.heap.size from fun e => by have e' : w.heap.size = b := e; omega)
              have d2 : wr.cell? ⟨w.heap.size, 2, none⟩ = some (.slice pa G.prods.length pc) := obj_cell hO 2 rfl
              have HBJ := Lib.hid (And.intro hbj hFj)
              by_cases hltj : j < G.prods.length
              · have hBw : Below w.heap.size w wr := HBW.out.trans (hFj.below HBW.out.size fun g e => by have e' : g = b := e; omega)
                obtain ⟨pb, po, ra, rc, rfl, hints, _, hcx⟩ := HG.out.prd j hltj
                have hinp := HIN.out _ (List.getElem_mem hltj)
                have hnx := passTo_succ mkStep G.prods j (roundsF mkStep G.prods r (initM G.syms.length k)) hltj
                rw [mk_step] at hnx
                have hlenj : (passTo mkStep G.prods j (roundsF mkStep G.prods r (initM G.syms.length k))).length = G.syms.length := (round_sub HGD.out (G.prods.take j) _ (fun p hp => List.mem_of_mem_take hp) (HLEN.out r)).1
                generalize passTo mkStep G.prods j (roundsF mkStep G.prods r (initM G.syms.length k)) = L at *
                have x0 := (Fr.new hBw).cell (hcx 0 (by simp [prdCells])) fun e => e
                have x1 := (Fr.new hBw).cell (hcx 1 (by simp [prdCells])) fun e => e
                simp only [prdCells, List.getElem_cons_zero, List.getElem_cons_succ, Nat.add_zero] at x0 x1
                generalize G.prods[j] = q at *
                obtain ⟨left, right, prec, has, action, whr⟩ := q
                obtain ⟨⟨hl0, hl1⟩, hri⟩ := hinp
                simp only at hl0 hl1 hri x0 x1 hnx hints
                obtain ⟨pl, rfl⟩ : ∃ pl : Nat, left = pl := ⟨left.toNat, by omega⟩
                rw [Int.toNat_natCast] at hnx
                have hpl : pl < G.syms.length := by omega
                have HA := Lib.hid (all16_any L right b _ wr hbj (hints.fr (Fr.new hBw)) (by rw [hlenj]; exact hri))
                rw [hlenj] at HA
                have hpl2 : pl < L.length := by rw [hlenj]; exact hpl
                have c0 := bools_cell hbj pl hpl2
                have f0 := obj_frozen hbj pl
                have HNX := Lib.hid hnx
                generalize L[pl] = lpl at c0
                clear hnx hbj hFj hO hBw hcx hints hri hlenj hpl2
                cases hal : allE L right
                · rw [hal] at HA
                  have HAL := Lib.hid hal
                  clear hal
                  go_wp2_with (go_at_call 28; refine HA.out.mono ?_; rintro e w' ⟨rfl, rfl⟩)
                  go_roundw
                  case rel => exact ⟨j + 1, by omega, by simp, by rw [HNX.out, HAL.out]; exact HBJ.out.1, HBJ.out.2⟩
                  case measure => simp [intOf]; omega
                · rw [hal] at HA
                  have HAL := Lib.hid hal
                  clear hal
                  go_wp2_with (go_at_call 28; refine HA.out.mono ?_; rintro e w' ⟨rfl, rfl⟩)
                  go_roundw
                  case rel => exact ⟨j + 1, by omega, by simp, by rw [HNX.out, HAL.out]; exact bools_set HBJ.out.1 _ _, HBJ.out.2.trans (Fr.setCell _ ⟨b, pl, none⟩ _)⟩
                  case measure => simp [intOf]; omega
              · obtain rfl : j = G.prods.length := by omega
                clear hbj hFj hO hltj
                go_wp2
                go_roundw
                case rel => exact ⟨r + 1, by omega, by simp, HBJ.out.1.trans (congrArg (fun l => some (boolsObj l)) (roundsF_succ mkStep G.prods r _).symm), HBJ.out.2⟩
                case measure => simp [intOf]; omega
          · obtain rfl : r = G.syms.length := by omega
            clear hbr hFr hO hltr
            go_wp2
            go_ret
            refine ⟨_, rfl, .inl ⟨rfl, b, by rw [makesL_len]; rfl, by omega, by rw [← HFIN.out]; exact HBR.out.1, HBW.out.trans (HBR.out.2.below HBW.out.size fun g e => by have e' : g = b := e; omega)⟩⟩
end Go.Proofs.YtiiceickjaeehaaGreat
