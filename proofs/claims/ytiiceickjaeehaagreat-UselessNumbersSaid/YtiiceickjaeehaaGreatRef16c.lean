/-
  The document's answer on useless: Reached, Find.
-/
import Derived.Test.YtiiceickjaeehaaGreatRef16b
import Derived.Test.YtiiceickjaeehaaGreatOwn
namespace Go.Proofs.YtiiceickjaeehaaGreat
open Go.RowKit
set_option maxHeartbeats 400000

def rowTo (l : List Prd) (M : Prd → Bool) (k : Nat) : List Bool := (l.take k).map M ++ List.replicate (l.length - k) false
theorem rowTo_len (l : List Prd) (M : Prd → Bool) (k : Nat) (h : k ≤ l.length) : (rowTo l M k).length = l.length := by simp [rowTo]; omega
theorem rowTo_zero (l : List Prd) (M : Prd → Bool) : List.replicate l.length false = rowTo l M 0 := by simp [rowTo]
theorem rowTo_all (l : List Prd) (M : Prd → Bool) : rowTo l M l.length = l.map M := by simp [rowTo]
theorem rowTo_set (l : List Prd) (M : Prd → Bool) (k : Nat) (h : k < l.length) : (rowTo l M k).set k (M l[k]) = rowTo l M (k + 1) := by
  unfold rowTo
  have h1 : ((l.take k).map M).length = k := by simp; omega
  rw [List.set_append_right _ _ (by omega), h1, Nat.sub_self, List.take_add_one, List.getElem?_eq_getElem h]
  obtain ⟨m, hm⟩ : ∃ m, l.length - k = m + 1 := ⟨l.length - k - 1, by omega⟩
  rw [hm, show l.length - (k + 1) = m by omega, List.replicate_succ, List.map_append, List.append_assoc]
  rfl

set_option maxRecDepth 100000 in
set_option maxHeartbeats 4000000 in
theorem reached16_any (G : Gram) (v : Value) (w : World) (h : IsGram w v G) :
    Calls Tryz.prog 13 #[v] w fun e w' => ∃ r, e = .returned r ∧ AnsB w w' r (rightG G) (fromL G fun _ => true) := by
  have hG := h
  obtain ⟨hterms, vs, vp, rfl, hs, hp⟩ := h
  obtain ⟨_, sa, sc, rfl, _, _, _⟩ := id hs
  obtain ⟨_, pa, pc, rfl, _, _, _⟩ := id hp
  have HO := Lib.hid (alloc_obj w (Obj.cells #[.int .i64 G.terms, .slice sa G.syms.length sc, .slice pa G.prods.length pc] 25 (0, 0)))
  have HB1 := Lib.hid ((Below.refl _ w).alloc (Nat.le_refl _) (Obj.cells #[.int .i64 G.terms, .slice sa G.syms.length sc, .slice pa G.prods.length pc] 25 (0, 0)))
  have HG := Lib.hid hG
  have HR := Lib.hid (right14_gram G _ _ (hG.fr (Fr.new HB1.out)))
  clear hG hs hp
  cases hr : rightG G
  · rw [hr] at HR
    go_enter Tryz.func13, Tryz.ntmps13
    go_wp2_with (go_at_call 27; refine HR.out.mono ?_; rintro e w2 ⟨rfl, hb2⟩)
    go_ret
    exact ⟨_, rfl, .inr ⟨rfl, rfl, HB1.out.trans (hb2.mono HB1.out.size)⟩⟩
  · obtain ⟨⟨ht0, ht1, hn0, hn1, hp0, hp1⟩, _, _⟩ := rightG_parts hr
    obtain ⟨i0, hi, hz0, hz1, hz2⟩ := info_parts Tryz.infoBool
    have HFR := Lib.hid hr
    rw [hr] at HR
    clear hr
    go_enter Tryz.func13, Tryz.ntmps13
    go_upto_region 4 with (first
      | (go_at_call 27; refine HR.out.mono ?_; rintro e w2 ⟨rfl, hb2⟩; have hB2 := HB1.out.trans (hb2.mono HB1.out.size); have hO2 := (Fr.new hb2).obj HO.out fun e => e; have d2 : w2.cell? ⟨w.heap.size, 2, none⟩ = some (.slice pa G.prods.length pc) := obj_cell hO2 2 rfl)
      | (at_make; refine wpList_make_full _ rfl _ _ 29 rfl w2.heap.size 4 i0 (.bool false) 1 Tryz.underlying29 hi hz0 hz1 .i64 .i64 _ _ G.prods.length rfl rfl rfl rfl (by rw [hz2]; omega) (by unfold maxLen; omega) (Nat.le_refl _) ?_; intro W hown hgrow))
    have hb := made_bools hown
    rw [rowTo_zero G.prods fun _ => true] at hb
    have hF2 := Fr.grown hgrow
    have hOW := hF2.obj hO2 (fun e => by cases e)
    have hBW : Below w.heap.size w W := hB2.grown hgrow hB2.size (fun k e => by cases e)
    have hlt0 : w.heap.size < w2.heap.size := (Array.getElem?_eq_some_iff.1 hO2).1
    have HO2 := Lib.hid hOW
    have HBW := Lib.hid hBW
    have HB := Lib.hid hb
    clear hown hgrow hb hF2 hOW hBW hO2 hb2 hB2 d2 HR HO HB1
    generalize w2.heap.size = b at *
    go_wp2
    go_loopw [4] (fun i wr => ∃ k : Nat, k ≤ G.prods.length ∧ i = .int .i64 k ∧ wr.heap[b]? = some (boolsObj (rowTo G.prods (fun _ => true) k)) ∧ Fr (only b) W wr) (fun i _ => G.prods.length - (intOf i).toNat)
    case atStart => exact ⟨0, Nat.zero_le _, rfl, HB.out, Fr.refl _ _⟩
    case round =>
      obtain ⟨k, hk, rfl, hbk, hF⟩ := hrel
      clear HB
      have HBK := Lib.hid (And.intro hbk hF)
      by_cases hlt : k < G.prods.length
      · have c0 := bools_cell hbk k (by rw [rowTo_len _ _ _ hk]; exact hlt)
        have f0 := obj_frozen hbk k
        clear hbk hF
        go_wp2
        go_roundw
        case rel => exact ⟨k + 1, by omega, by simp, by rw [← rowTo_set _ _ _ hlt]; exact bools_set HBK.out.1 _ _, HBK.out.2.trans (Fr.setCell _ ⟨b, k, none⟩ _)⟩
        case measure => simp [intOf]; omega
      · obtain rfl : k = G.prods.length := by omega
        have hO := hF.obj HO2.out (show ¬ only b w.heap.size from fun e => by have e' : w.heap.size = b := e; omega)
        have d0 : wr.cell? ⟨w.heap.size, 0, none⟩ = some (.int .i64 G.terms) := obj_cell hO 0 rfl
        have d1 : wr.cell? ⟨w.heap.size, 1, none⟩ = some (.slice sa G.syms.length sc) := obj_cell hO 1 rfl
        have d2 : wr.cell? ⟨w.heap.size, 2, none⟩ = some (.slice pa G.prods.length pc) := obj_cell hO 2 rfl
        have hBw : Below w.heap.size w wr := HBW.out.trans (hF.below HBW.out.size fun g e => by have e' : g = b := e; omega)
        rw [rowTo_all] at hbk
        have HS := Lib.hid (spread16_any G HFR.out (fun _ => true) b _ wr (HG.out.fr (Fr.new hBw)) hbk)
        have HBw := Lib.hid hBw
        clear hbk hF hO hBw hlt
        go_wp2_with (go_at_call 29; refine HS.out.mono ?_; rintro e w5 ⟨r, rfl, hN⟩)
        go_ret
        exact ⟨r, rfl, .inl ⟨rfl, hN.lift HBw.out⟩⟩

theorem nil_nil (w : World) : (binOp .eql 29 (.slice none 0 0) (.slice none 0 0)).run Tryz.prog w = .ok (.bool true) w := by kernel_rfl
theorem nil_some (b n : Nat) (w : World) : (binOp .eql 29 (.slice (some ⟨b, 0, none⟩) n n) (.slice none 0 0)).run Tryz.prog w = .ok (.bool false) w := by kernel_rfl
theorem makes16_bad {G : Gram} (hr : rightG G = false) (v : Value) (w : World) (h : IsGram w v G) : Calls Tryz.prog 12 #[v] w fun e w' => e = .returned (.slice none 0 0) ∧ Below w.heap.size w w' := by
  refine (makes16_any G v w h).mono ?_
  rintro e w' ⟨r, rfl, ⟨h1, _⟩ | ⟨_, rfl, h2⟩⟩
  · rw [hr] at h1; cases h1
  · exact ⟨rfl, h2⟩
theorem makes16_good {G : Gram} (hr : rightG G = true) (v : Value) (w : World) (h : IsGram w v G) : Calls Tryz.prog 12 #[v] w fun e w' => ∃ b, e = .returned (.slice (some ⟨b, 0, none⟩) G.syms.length G.syms.length) ∧ w'.heap[b]? = some (boolsObj (makesL G)) ∧ w.heap.size ≤ b ∧ Below w.heap.size w w' := by
  refine (makes16_any G v w h).mono ?_
  rintro e w' ⟨r, rfl, ⟨_, b, rfl, h0, h1, h2⟩ | ⟨h1, _⟩⟩
  · exact ⟨b, by rw [makesL_len], h1, h0, h2⟩
  · rw [hr] at h1; cases h1
set_option maxRecDepth 100000 in
set_option maxHeartbeats 4000000 in
theorem find16_any (G : Gram) (v : Value) (w : World) (h : IsGram w v G) :
    Calls Tryz.prog 15 #[v] w fun e w' => ∃ r, e = .returned r ∧ OwnInts w w' r (findU G) := by
  have hG := h
  obtain ⟨hterms, vs, vp, rfl, hs, hp⟩ := h
  obtain ⟨_, sa, sc, rfl, _, _, _⟩ := id hs
  obtain ⟨_, pa, pc, rfl, _, _, _⟩ := id hp
  have HO := Lib.hid (alloc_obj w (Obj.cells #[.int .i64 G.terms, .slice sa G.syms.length sc, .slice pa G.prods.length pc] 25 (0, 0)))
  have HB1 := Lib.hid ((Below.refl _ w).alloc (Nat.le_refl _) (Obj.cells #[.int .i64 G.terms, .slice sa G.syms.length sc, .slice pa G.prods.length pc] 25 (0, 0)))
  have HG := Lib.hid hG
  have hG1 := hG.fr (Fr.new HB1.out)
  clear hG hs hp
  cases hr : rightG G
  · have hU : findU G = [] := by simp [findU, hr]
    rw [hU]
    have HMK := Lib.hid (makes16_bad hr _ _ hG1)
    have hnn := nil_nil
    clear hr hG1
    go_enter Tryz.func15, Tryz.ntmps15
    go_wp2_with (go_at_call 12; refine HMK.out.mono ?_; rintro e w2 ⟨rfl, hb2⟩)
    go_ret
    exact ⟨_, rfl, World.ownsRow_nil _ _ _ _, HB1.out.trans (hb2.mono HB1.out.size)⟩
  · have hU : findU G = findL G := by simp [findU, hr]
    rw [hU]
    have hin := right_in hr
    obtain ⟨⟨ht0, ht1, hn0, hn1, hp0, hp1⟩, _, _⟩ := rightG_parts hr
    obtain ⟨i0, hi, hz0, hz1, hz2⟩ := info_parts Tryz.infoBool
    have HFR := Lib.hid hr
    have HIN := Lib.hid hin
    have HMK := Lib.hid (makes16_good hr _ _ hG1)
    have hnn := nil_some
    clear hr hin hU hG1
    go_enter Tryz.func15, Tryz.ntmps15
    go_upto_region 5 with (first
      | (go_at_call 12; refine HMK.out.mono ?_; rintro e w2 ⟨bm, rfl, hbm, hbm0, hb2⟩; have hB2 := HB1.out.trans (hb2.mono HB1.out.size); have hO2 := (Fr.new hb2).obj HO.out fun e => e; have d2 : w2.cell? ⟨w.heap.size, 2, none⟩ = some (.slice pa G.prods.length pc) := obj_cell hO2 2 rfl)
      | (at_make; refine wpList_make_full _ rfl _ _ 29 rfl w2.heap.size 4 i0 (.bool false) 1 Tryz.underlying29 hi hz0 hz1 .i64 .i64 _ _ G.prods.length rfl rfl rfl rfl (by rw [hz2]; omega) (by unfold maxLen; omega) (Nat.le_refl _) ?_; intro W hown hgrow))
    have hb := made_bools hown
    rw [rowTo_zero G.prods (mayOf (makesL G))] at hb
    have hF2 := Fr.grown hgrow
    have hOW := hF2.obj hO2 (fun e => by cases e)
    have hBW : Below w.heap.size w W := hB2.grown hgrow hB2.size (fun k e => by cases e)
    have hbmW := hF2.obj hbm (fun e => by cases e)
    have hlt0 : w.heap.size < w2.heap.size := (Array.getElem?_eq_some_iff.1 hO2).1
    have hlt1 : bm < w2.heap.size := (Array.getElem?_eq_some_iff.1 hbm).1
    have HO2 := Lib.hid hOW
    have HBW := Lib.hid hBW
    have HB := Lib.hid (And.intro hb hbmW)
    clear hown hgrow hb hF2 hOW hBW hO2 hb2 hB2 d2 HO HB1 hbm hbmW HMK
    generalize w2.heap.size = b at *
    go_wp2
    go_loopw [5] (fun i wr => ∃ k : Nat, k ≤ G.prods.length ∧ i = .int .i64 k ∧ wr.heap[b]? = some (boolsObj (rowTo G.prods (mayOf (makesL G)) k)) ∧ Fr (only b) W wr) (fun i _ => G.prods.length - (intOf i).toNat)
    case atStart => exact ⟨0, Nat.zero_le _, rfl, HB.out.1, Fr.refl _ _⟩
    case round =>
      obtain ⟨k, hk, rfl, hbk, hF⟩ := hrel
      have HBK := Lib.hid (And.intro hbk hF)
      have hO := hF.obj HO2.out (show ¬ only b w.heap.size from fun e => by have e' : w.heap.size = b := e; omega)
      have hbm := hF.obj HB.out.2 (show ¬ only b bm from fun e => by have e' : bm = b := e; omega)
      have d0 : wr.cell? ⟨w.heap.size, 0, none⟩ = some (.int .i64 G.terms) := obj_cell hO 0 rfl
      have d1 : wr.cell? ⟨w.heap.size, 1, none⟩ = some (.slice sa G.syms.length sc) := obj_cell hO 1 rfl
      have d2 : wr.cell? ⟨w.heap.size, 2, none⟩ = some (.slice pa G.prods.length pc) := obj_cell hO 2 rfl
      have hBw : Below w.heap.size w wr := HBW.out.trans (hF.below HBW.out.size fun g e => by have e' : g = b := e; omega)
      by_cases hlt : k < G.prods.length
      · obtain ⟨pb, po, ra, rc, rfl, hints, _, hcx⟩ := HG.out.prd k hlt
        have hinp := HIN.out _ (List.getElem_mem hlt)
        have hset := rowTo_set G.prods (mayOf (makesL G)) k hlt
        have x1 := (Fr.new hBw).cell (hcx 1 (by simp [prdCells])) fun e => e
        simp only [prdCells, List.getElem_cons_zero, List.getElem_cons_succ] at x1
        have HA := Lib.hid (all16_any (makesL G) G.prods[k].right bm _ wr hbm (hints.fr (Fr.new hBw)) (by rw [makesL_len]; exact hinp.2))
        rw [makesL_len] at HA
        have c0 := bools_cell hbk k (by rw [rowTo_len _ _ _ hk]; exact hlt)
        have f0 := obj_frozen hbk k
        have HST := Lib.hid (show (rowTo G.prods (mayOf (makesL G)) k).set k (allE (makesL G) G.prods[k].right) = rowTo G.prods (mayOf (makesL G)) (k + 1) from hset)
        generalize allE (makesL G) G.prods[k].right = ae at *
        generalize (rowTo G.prods (mayOf (makesL G)) k)[k]'(by rw [rowTo_len _ _ _ hk]; exact hlt) = ck at c0
        clear hbk hF hO hbm hBw hcx hints hinp hset d0 d1
        generalize G.prods[k].right.length = rl at *
        go_wp2_with (go_at_call 28; refine HA.out.mono ?_; rintro e w' ⟨rfl, rfl⟩)
        go_roundw
        case rel => exact ⟨k + 1, by omega, by simp, by rw [← HST.out]; exact bools_set HBK.out.1 _ _, HBK.out.2.trans (Fr.setCell _ ⟨b, k, none⟩ _)⟩
        case measure => simp [intOf]; omega
      · obtain rfl : k = G.prods.length := by omega
        rw [rowTo_all] at hbk
        have HS := Lib.hid (spread16_any G HFR.out (mayOf (makesL G)) b _ wr (HG.out.fr (Fr.new hBw)) hbk)
        have HBw := Lib.hid (And.intro hBw (And.intro hO hbm))
        clear hbk hF hO hbm hBw hlt HBK
        clear hnn
        generalize wr = w4 at *
        go_upto_region 10 with (go_at_call 29; refine HS.out.mono ?_; rintro e w5 ⟨r, rfl, b2, rfl, hbl, hbo, hB5⟩)
        rw [fromL_len]
        have h50 := (Fr.new hB5).obj HBw.out.2.1 fun e => e
        have h52 := (Fr.new hB5).obj HBw.out.2.2 fun e => e
        have h5B := HBw.out.1.trans (hB5.mono HBw.out.1.size)
        have hbo' : w5.heap[b2]? = some (boolsObj (useL G)) := hbo
        clear HBw HS hbl hB5 hbo HG HIN HFR d0 d1 d2
        have H50 := Lib.hid h50
        have H52 := Lib.hid h52
        have H5B := Lib.hid h5B
        have H5U := Lib.hid hbo'
        have d0 := obj_cell h50 0 rfl
        obtain ⟨t, ht⟩ : ∃ t : Nat, G.terms = (t : Int) := ⟨G.terms.toNat, by omega⟩
        have HT := Lib.hid ht
        clear h50 h52 h5B hbo' ht
        obtain ⟨i0, hi, hz0, hz1, hz2⟩ := info_parts Tryz.infoInt'
        go_wp2
        go_loopw [7, 8] (fun v i wr => ∃ k : Nat, t + 1 ≤ k ∧ k ≤ G.syms.length ∧ i = .int .i64 k ∧ wr.ownsRow w5.heap.size 3 1 v (findTo G k).length ((findTo G k).map (Value.int .i64)) ∧ Below w5.heap.size w5 wr) (fun _ i _ => G.syms.length - (intOf i).toNat)
        case atStart =>
          refine ⟨t + 1, Nat.le_refl _, by have := HT.out; omega, ?_, ?_, Below.refl _ _⟩
          · rw [HT.out]; simp
          · rw [findTo_low G (t + 1) (by have := HT.out; omega)]
            exact World.ownsRow_nil _ _ _ _
        case round =>
          obtain ⟨k, hk0, hk, rfl, hown, hB⟩ := hrel
          have c1 := obj_cell ((Fr.new hB).obj H50.out fun e => e) 1 rfl
          have HB := Lib.hid hB
          by_cases hlt : k < G.syms.length
          · have m0 := bools_cell ((Fr.new hB).obj H52.out fun e => e) k (by rw [makesL_len]; exact hlt)
            have m1 := bools_cell ((Fr.new hB).obj H5U.out fun e => e) k (by rw [useL, fromL_len]; exact hlt)
            have hx : outB G k = (!(makesL G)[k]'(by rw [makesL_len]; exact hlt) || !(useL G)[k]'(by rw [useL, fromL_len]; exact hlt)) := by
              unfold outB
              rw [List.getD_eq_getElem?_getD, List.getD_eq_getElem?_getD, List.getElem?_eq_getElem (by rw [makesL_len]; exact hlt), List.getElem?_eq_getElem (by rw [useL, fromL_len]; exact hlt)]
              rfl
            have hnx := findTo_next G k (by have := HT.out; omega)
            have hle := findTo_len G k
            rw [hx] at hnx
            generalize (makesL G)[k]'(by rw [makesL_len]; exact hlt) = c at m0 hnx
            generalize (useL G)[k]'(by rw [useL, fromL_len]; exact hlt) = d at m1 hnx
            have HNX := Lib.hid hnx
            have HSZ := Lib.hid hB.size
            clear hB hx hnx
            cases c
            · go_wp2_with (at_builtin; refine wpList_append_any rfl _ _ 31 rfl w5.heap.size 3 i0 (.int .i64 0) 1 8 Tryz.underlying31 hi hz0 hz1 hz2 rfl (by decide) _ _ _ rfl (hown.alloc _) _ 1 1 [.int .i64 k] rfl (by simp) (.inr ⟨_, rfl, cell_one_new _ _ _⟩) (by simp [Value.oneCell']) (by unfold maxLen; omega) (by omega) (by have := HSZ.out; simp; omega) ?_; intro v2 w6 hown6 hgrow6)
              go_roundw
              case rel =>
                refine ⟨k + 1, by omega, by omega, by simp, ?_, (HB.out.alloc HSZ.out _).grown hgrow6 (by have := HSZ.out; simp; omega) (fun j e => by have := (hown.lt j e).1; omega)⟩
                rw [HNX.out]
                simpa using hown6
              case measure => simp [intOf]; omega
            · cases d
              · go_wp2_with (at_builtin; refine wpList_append_any rfl _ _ 31 rfl w5.heap.size 3 i0 (.int .i64 0) 1 8 Tryz.underlying31 hi hz0 hz1 hz2 rfl (by decide) _ _ _ rfl (hown.alloc _) _ 1 1 [.int .i64 k] rfl (by simp) (.inr ⟨_, rfl, cell_one_new _ _ _⟩) (by simp [Value.oneCell']) (by unfold maxLen; omega) (by omega) (by have := HSZ.out; simp; omega) ?_; intro v2 w6 hown6 hgrow6)
                go_roundw
                case rel =>
                  refine ⟨k + 1, by omega, by omega, by simp, ?_, (HB.out.alloc HSZ.out _).grown hgrow6 (by have := HSZ.out; simp; omega) (fun j e => by have := (hown.lt j e).1; omega)⟩
                  rw [HNX.out]
                  simpa using hown6
                case measure => simp [intOf]; omega
              · go_wp2
                go_roundw
                case rel =>
                  refine ⟨k + 1, by omega, by omega, by simp, ?_, HB.out⟩
                  rw [HNX.out]
                  simpa using hown
                case measure => simp [intOf]; omega
          · obtain rfl : k = G.syms.length := by omega
            clear hlt hB
            go_wp2
            go_ret
            exact ⟨_, rfl, own_base hown H5B.out.size, H5B.out.trans (HB.out.mono H5B.out.size)⟩
end Go.Proofs.YtiiceickjaeehaaGreat
