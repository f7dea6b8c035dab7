/-
  Package useless: Makes, Reached, Find.
-/
import Derived.Test.YtiiceickjaeehaaGreatUse6
import Derived.Test.YtiiceickjaeehaaGreatKitInts
namespace Go.Proofs.YtiiceickjaeehaaGreat
open Go.RowKit
set_option maxHeartbeats 400000

theorem NewB.lift {w w1 w2 : World} {v : Value} {L : List Bool} (h : NewB w1 w2 v L) (k : Below w.heap.size w w1) : NewB w w2 v L := by
  obtain ⟨b, h1, h2, h3, h4⟩ := h
  exact ⟨b, h1, Nat.le_trans k.size h2, h3, k.trans (h4.mono k.size)⟩
/-- Truths in new memory, or none. -/
def AnsB (w w' : World) (v : Value) (c : Bool) (L : List Bool) : Prop := (c = true ∧ NewB w w' v L) ∨ (c = false ∧ v = .slice none 0 0 ∧ Below w.heap.size w w')

set_option maxRecDepth 100000 in
set_option maxHeartbeats 2000000 in
theorem makesU_any (G : Gram) (v : Value) (w : World) (h : IsGram w v G) :
    Calls Tryz.prog 8 #[v] w fun e w' => ∃ r, e = .returned r ∧ AnsB w w' r (rightG G) (makesL G) := by
  have hG := h
  obtain ⟨hterms, vs, vp, rfl, hs, hp⟩ := h
  obtain ⟨_, sa, sc, rfl, _, _, _⟩ := id hs
  obtain ⟨_, pa, pc, rfl, _, _, _⟩ := id hp
  have HO := Lib.hid (alloc_obj w (Obj.cells #[.int .i64 G.terms, .slice sa G.syms.length sc, .slice pa G.prods.length pc] 25 (0, 0)))
  have HB1 := Lib.hid ((Below.refl _ w).alloc (Nat.le_refl _) (Obj.cells #[.int .i64 G.terms, .slice sa G.syms.length sc, .slice pa G.prods.length pc] 25 (0, 0)))
  have HG := Lib.hid hG
  have HR := Lib.hid (right_gram G _ _ (hG.fr (Fr.new HB1.out)))
  clear hG hs hp
  cases hr : rightG G
  · rw [hr] at HR
    go_enter Tryz.func8, Tryz.ntmps8
    go_wp2_with (go_at_call 21; refine HR.out.mono ?_; rintro e w2 ⟨rfl, hb2⟩)
    go_ret
    exact ⟨_, rfl, .inr ⟨rfl, rfl, HB1.out.trans (hb2.mono HB1.out.size)⟩⟩
  · have HM := Lib.hid fun (w2 : World) (h2 : Below w.heap.size w w2) => makes_any G hr _ w2 (HG.out.fr (Fr.new h2))
    rw [hr] at HR
    clear hr
    go_enter Tryz.func8, Tryz.ntmps8
    go_wp2_with (first | (go_at_call 21; refine HR.out.mono ?_; rintro e w2 ⟨rfl, hb2⟩; have hB2 := HB1.out.trans (hb2.mono HB1.out.size); have d0 := obj_cell ((Fr.new hb2).obj HO.out fun e => e) 0 rfl; have d1 := obj_cell ((Fr.new hb2).obj HO.out fun e => e) 1 rfl; have d2 := obj_cell ((Fr.new hb2).obj HO.out fun e => e) 2 rfl; have HM2 := Lib.hid (HM.out w2 hB2)) | (go_at_call 22; refine HM2.out.mono ?_; rintro e w3 ⟨r, rfl, hN⟩))
    go_ret
    exact ⟨_, rfl, .inl ⟨rfl, hN.lift hB2⟩⟩
theorem enters49 : Enters Tryz.prog 24 := enters_of Tryz.func24 (by kernel_rfl) rfl
theorem enters47 : Enters Tryz.prog 25 := enters_of Tryz.func25 (by kernel_rfl) rfl
set_option maxRecDepth 100000 in
set_option maxHeartbeats 2000000 in
theorem reachedU_any (G : Gram) (v : Value) (w : World) (h : IsGram w v G) :
    Calls Tryz.prog 9 #[v] w fun e w' => ∃ r, e = .returned r ∧ AnsB w w' r (rightG G) (fromL G fun _ => true) := by
  have hG := h
  obtain ⟨hterms, vs, vp, rfl, hs, hp⟩ := h
  obtain ⟨_, sa, sc, rfl, _, _, _⟩ := id hs
  obtain ⟨_, pa, pc, rfl, _, _, _⟩ := id hp
  have HO := Lib.hid (alloc_obj w (Obj.cells #[.int .i64 G.terms, .slice sa G.syms.length sc, .slice pa G.prods.length pc] 25 (0, 0)))
  have HB1 := Lib.hid ((Below.refl _ w).alloc (Nat.le_refl _) (Obj.cells #[.int .i64 G.terms, .slice sa G.syms.length sc, .slice pa G.prods.length pc] 25 (0, 0)))
  have HG := Lib.hid hG
  have HR := Lib.hid (right_gram G _ _ (hG.fr (Fr.new HB1.out)))
  clear hG hs hp
  cases hr : rightG G
  · rw [hr] at HR
    go_enter Tryz.func9, Tryz.ntmps9
    go_wp2_with (go_at_call 21; refine HR.out.mono ?_; rintro e w2 ⟨rfl, hb2⟩)
    go_ret
    exact ⟨_, rfl, .inr ⟨rfl, rfl, HB1.out.trans (hb2.mono HB1.out.size)⟩⟩
  · have HM := Lib.hid fun (w2 : World) (h2 : Below w.heap.size w w2) => from_any G hr (fun _ => true) 24 #[] _ w2 (HG.out.fr (Fr.new h2)) ⟨enters49, fun w1 _ v p _ hv => may_true_any p v w1 hv⟩
    rw [hr] at HR
    clear hr
    go_enter Tryz.func9, Tryz.ntmps9
    go_wp2_with (first | (go_at_call 21; refine HR.out.mono ?_; rintro e w2 ⟨rfl, hb2⟩; have hB2 := HB1.out.trans (hb2.mono HB1.out.size); have d0 := obj_cell ((Fr.new hb2).obj HO.out fun e => e) 0 rfl; have d1 := obj_cell ((Fr.new hb2).obj HO.out fun e => e) 1 rfl; have d2 := obj_cell ((Fr.new hb2).obj HO.out fun e => e) 2 rfl; have HM2 := Lib.hid (HM.out w2 hB2)) | (go_at_call 23; refine HM2.out.mono ?_; rintro e w3 ⟨r, rfl, hN⟩))
    go_ret
    exact ⟨_, rfl, .inl ⟨rfl, hN.lift hB2⟩⟩

noncomputable def findTo (G : Gram) (k : Nat) : List Int := ((List.range k).filter fun (s : Nat) => decide (G.terms + 1 ≤ (s : Int)) && outB G s).map Int.ofNat
theorem findTo_low (G : Gram) (k : Nat) (h : (k : Int) ≤ G.terms + 1) : findTo G k = [] := by
  unfold findTo
  rw [List.map_eq_nil_iff, List.filter_eq_nil_iff]
  intro s hs
  rw [List.mem_range] at hs
  simp
  intro h1
  omega
theorem findTo_next (G : Gram) (k : Nat) (h : G.terms + 1 ≤ (k : Int)) : findTo G (k + 1) = findTo G k ++ if outB G k then [(k : Int)] else [] := by
  unfold findTo
  rw [List.range_succ, List.filter_append, List.map_append]
  congr 1
  by_cases e : outB G k = true
  · simp [e, h]
  · simp [e]
theorem findTo_len (G : Gram) (k : Nat) : (findTo G k).length ≤ k := by
  unfold findTo
  rw [List.length_map]
  exact Nat.le_trans (List.length_filter_le _ _) (by simp)
/-- Numbers in new memory. -/
def OwnInts (w w' : World) (v : Value) (xs : List Int) : Prop := w'.ownsRow w.heap.size 3 1 v xs.length (xs.map (Value.int .i64)) ∧ Below w.heap.size w w'
theorem own_base {w : World} {B B' e size n : Nat} {v : Value} {xs : List Value} (h : w.ownsRow B e size v n xs) (hb : B' ≤ B) : w.ownsRow B' e size v n xs := by
  obtain ⟨h1, h2⟩ := h
  refine ⟨h1, ?_⟩
  rcases h2 with h2 | ⟨g, cap, cur, hv, hg, rest⟩
  · exact .inl h2
  · exact .inr ⟨g, cap, cur, hv, Nat.le_trans hb hg, rest⟩
noncomputable def findU (G : Gram) : List Int := if rightG G then findL G else []
theorem find_law (G : Gram) : findTo G G.syms.length = findL G := rfl

set_option maxRecDepth 100000 in
set_option maxHeartbeats 4000000 in
theorem findU_any (G : Gram) (v : Value) (w : World) (h : IsGram w v G) :
    Calls Tryz.prog 10 #[v] w fun e w' => ∃ r, e = .returned r ∧ OwnInts w w' r (findU G) := by
  have hG := h
  obtain ⟨hterms, vs, vp, rfl, hs, hp⟩ := h
  obtain ⟨_, sa, sc, rfl, _, _, _⟩ := id hs
  obtain ⟨_, pa, pc, rfl, _, _, _⟩ := id hp
  have HO := Lib.hid (alloc_obj w (Obj.cells #[.int .i64 G.terms, .slice sa G.syms.length sc, .slice pa G.prods.length pc] 25 (0, 0)))
  have HB1 := Lib.hid ((Below.refl _ w).alloc (Nat.le_refl _) (Obj.cells #[.int .i64 G.terms, .slice sa G.syms.length sc, .slice pa G.prods.length pc] 25 (0, 0)))
  have HG := Lib.hid hG
  have HR := Lib.hid (right_gram G _ _ (hG.fr (Fr.new HB1.out)))
  clear hG hs hp
  cases hr : rightG G
  · rw [hr] at HR
    have hU : findU G = [] := by simp [findU, hr]
    rw [hU]
    go_enter Tryz.func10, Tryz.ntmps10
    go_wp2_with (go_at_call 21; refine HR.out.mono ?_; rintro e w2 ⟨rfl, hb2⟩)
    go_ret
    exact ⟨_, rfl, World.ownsRow_nil _ _ _ _, HB1.out.trans (hb2.mono HB1.out.size)⟩
  · have hU : findU G = findL G := by simp [findU, hr]
    rw [hU]
    have HM := Lib.hid fun (w2 : World) (h2 : Below w.heap.size w w2) => makes_any G hr _ w2 (HG.out.fr (Fr.new h2))
    have HIN := Lib.hid (right_in hr)
    obtain ⟨⟨ht0, ht1, hn0, hn1, _, _⟩, _, _⟩ := rightG_parts hr
    have HFR := Lib.hid hr
    rw [hr] at HR
    clear hr hU
    go_enter Tryz.func10, Tryz.ntmps10
    go_upto_region 4 with (first | (go_at_call 21; refine HR.out.mono ?_; rintro e w2 ⟨rfl, hb2⟩; have hB2 := HB1.out.trans (hb2.mono HB1.out.size); have d0 := obj_cell ((Fr.new hb2).obj HO.out fun e => e) 0 rfl; have d1 := obj_cell ((Fr.new hb2).obj HO.out fun e => e) 1 rfl; have d2 := obj_cell ((Fr.new hb2).obj HO.out fun e => e) 2 rfl))
    have hw2 : w.heap.size < w2.heap.size := (Array.getElem?_eq_some_iff.1 ((Fr.new hb2).obj HO.out fun e => e)).1
    refine wp_atW (F := fun W => W.heap[w.heap.size]? = some (Obj.cells #[.int .i64 G.terms, .slice sa G.syms.length sc, .slice pa G.prods.length pc] 25 (0, 0)) ∧ W.heap[w2.heap.size]? = some (Obj.cells #[.int .i64 G.terms, .slice sa G.syms.length sc, .slice pa G.prods.length pc] 48 (0, 0)) ∧ Below w.heap.size w W) ?_ ?_
    · exact ⟨alloc_older ((Fr.new hb2).obj HO.out fun e => e), alloc_obj _ _, hB2.alloc hB2.size _⟩
    intro W3 ⟨h30, h31, h3B⟩
    clear HO HB1 HR hb2 hB2 d0 d1 d2
    have d0 := obj_cell h31 0 rfl
    have d1 := obj_cell h31 1 rfl
    have d2 := obj_cell h31 2 rfl
    have HM3 := Lib.hid (HM.out W3 h3B)
    have H30 := Lib.hid h30
    have H31 := Lib.hid h31
    have H3B := Lib.hid h3B
    clear h30 h31 h3B HM
    go_upto_region 5 with (first | (go_at_call 22; refine HM3.out.mono ?_; rintro e w4 ⟨r, rfl, b, rfl, hbl, hbo, hB4⟩))
    rw [makesL_len]
    have hb4 : b < w4.heap.size := (Array.getElem?_eq_some_iff.1 hbo).1
    refine wp_atW (F := fun W => W.heap[w.heap.size]? = some (Obj.cells #[.int .i64 G.terms, .slice sa G.syms.length sc, .slice pa G.prods.length pc] 25 (0, 0)) ∧ W.heap[w2.heap.size]? = some (Obj.cells #[.int .i64 G.terms, .slice sa G.syms.length sc, .slice pa G.prods.length pc] 48 (0, 0)) ∧ W.heap[b]? = some (boolsObj (makesL G)) ∧ W.heap[w4.heap.size]? = some (boxB b G.syms.length) ∧ Below w.heap.size w W) ?_ ?_
    · exact ⟨alloc_older ((Fr.new hB4).obj H30.out fun e => e), alloc_older ((Fr.new hB4).obj H31.out fun e => e), alloc_older hbo, alloc_obj _ _, (H3B.out.trans (hB4.mono H3B.out.size)).alloc (H3B.out.trans (hB4.mono H3B.out.size)).size _⟩
    intro W4 ⟨h40, h41, h42, h43, h4B⟩
    have HFM := Lib.hid (from_any G HFR.out (mayOf (makesL G)) 25 #[.pointer (some ⟨w4.heap.size, 0, none⟩)] _ W4 (HG.out.fr (Fr.new h4B)) ⟨enters47, fun w1 h1 v p hp hv => by
      have := may_all_any (makesL G) p b w4.heap.size v w1 (by rw [makesL_len]; exact (Fr.new h1).obj h43 fun e => e) ((Fr.new h1).obj h42 fun e => e) hv (by rw [makesL_len]; exact HIN.out p hp)
      exact this⟩)
    clear HM3 H30 H31 H3B d0 d1 d2 hbl hbo hB4
    have d0 := obj_cell h41 0 rfl
    have d1 := obj_cell h41 1 rfl
    have d2 := obj_cell h41 2 rfl
    have H40 := Lib.hid h40
    have H42 := Lib.hid h42
    have H43 := Lib.hid h43
    have H4B := Lib.hid h4B
    clear h40 h41 h42 h43 h4B
    go_upto_region 7 with (first | (go_at_call 23; refine HFM.out.mono ?_; rintro e w5 ⟨r, rfl, b2, rfl, hbl, hbo, hB5⟩))
    rw [fromL_len]
    have h50 := (Fr.new hB5).obj H40.out fun e => e
    have h52 := (Fr.new hB5).obj H42.out fun e => e
    have h53 := (Fr.new hB5).obj H43.out fun e => e
    have h5B := H4B.out.trans (hB5.mono H4B.out.size)
    have hbo' : w5.heap[b2]? = some (boolsObj (useL G)) := hbo
    clear HFM H40 H42 H43 H4B d0 d1 d2 hbl hB5 hbo HG HIN HFR
    have H50 := Lib.hid h50
    have H52 := Lib.hid h52
    have H53 := Lib.hid h53
    have H5B := Lib.hid h5B
    have H5U := Lib.hid hbo'
    have d0 := obj_cell h50 0 rfl
    obtain ⟨t, ht⟩ : ∃ t : Nat, G.terms = (t : Int) := ⟨G.terms.toNat, by omega⟩
    have HT := Lib.hid ht
    clear h50 h52 h53 h5B hbo' ht
    obtain ⟨i0, hi, hz0, hz1, hz2⟩ := info_parts Tryz.infoInt'
    go_wp2
    go_loopw [6, 7] (fun v i wr => ∃ k : Nat, t + 1 ≤ k ∧ k ≤ G.syms.length ∧ i = .int .i64 k ∧ wr.ownsRow w5.heap.size 3 1 v (findTo G k).length ((findTo G k).map (Value.int .i64)) ∧ Below w5.heap.size w5 wr) (fun _ i _ => G.syms.length - (intOf i).toNat)
    case atStart =>
      refine ⟨t + 1, Nat.le_refl _, by have := HT.out; omega, ?_, ?_, Below.refl _ _⟩
      · rw [HT.out]; simp
      · rw [findTo_low G (t + 1) (by have := HT.out; omega)]
        exact World.ownsRow_nil _ _ _ _
    case round =>
      obtain ⟨k, hk0, hk, rfl, hown, hB⟩ := hrel
      have c1 := obj_cell ((Fr.new hB).obj H50.out fun e => e) 1 rfl
      have HB := Lib.hid hB
      by_cases hlt : k < G.syms.length
      · have d3 := obj_cell ((Fr.new hB).obj H53.out fun e => e) 0 rfl
        have m0 := bools_cell ((Fr.new hB).obj H52.out fun e => e) k (by rw [makesL_len]; exact hlt)
        have m1 := bools_cell ((Fr.new hB).obj H5U.out fun e => e) k (by rw [useL, fromL_len]; exact hlt)
        have hx : outB G k = (!(makesL G)[k]'(by rw [makesL_len]; exact hlt) || !(useL G)[k]'(by rw [useL, fromL_len]; exact hlt)) := by
          unfold outB
          rw [List.getD_eq_getElem?_getD, List.getD_eq_getElem?_getD, List.getElem?_eq_getElem (by rw [makesL_len]; exact hlt), List.getElem?_eq_getElem (by rw [useL, fromL_len]; exact hlt)]
          rfl
        have hnx := findTo_next G k (by have := HT.out; omega)
        have hle := findTo_len G k
        rw [hx] at hnx
        generalize (makesL G)[k]'(by rw [makesL_len]; exact hlt) = c at m0 hnx
        generalize (useL G)[k]'(by rw [useL, fromL_len]; exact hlt) = d at m1 hnx
        have HNX := Lib.hid hnx
        have HSZ := Lib.hid hB.size
        clear hB hx hnx
        cases c
        · go_wp2_with (at_builtin; refine wpList_append_any rfl _ _ 31 rfl w5.heap.size 3 i0 (.int .i64 0) 1 8 Tryz.underlying31 hi hz0 hz1 hz2 rfl (by decide) _ _ _ rfl (hown.alloc _) _ 1 1 [.int .i64 k] rfl (by simp) (.inr ⟨_, rfl, cell_one_new _ _ _⟩) (by simp [Value.oneCell']) (by unfold maxLen; omega) (by omega) (by have := HSZ.out; simp; omega) ?_; intro v2 w6 hown6 hgrow6)
          go_roundw
          case rel =>
            refine ⟨k + 1, by omega, by omega, by simp, ?_, (HB.out.alloc HSZ.out _).grown hgrow6 (by have := HSZ.out; simp; omega) (fun j e => by have := (hown.lt j e).1; omega)⟩
            rw [HNX.out]
            simpa using hown6
          case measure => simp [intOf]; omega
        · cases d
          · go_wp2_with (at_builtin; refine wpList_append_any rfl _ _ 31 rfl w5.heap.size 3 i0 (.int .i64 0) 1 8 Tryz.underlying31 hi hz0 hz1 hz2 rfl (by decide) _ _ _ rfl (hown.alloc _) _ 1 1 [.int .i64 k] rfl (by simp) (.inr ⟨_, rfl, cell_one_new _ _ _⟩) (by simp [Value.oneCell']) (by unfold maxLen; omega) (by omega) (by have := HSZ.out; simp; omega) ?_; intro v2 w6 hown6 hgrow6)
            go_roundw
            case rel =>
              refine ⟨k + 1, by omega, by omega, by simp, ?_, (HB.out.alloc HSZ.out _).grown hgrow6 (by have := HSZ.out; simp; omega) (fun j e => by have := (hown.lt j e).1; omega)⟩
              rw [HNX.out]
              simpa using hown6
            case measure => simp [intOf]; omega
          · go_wp2
            go_roundw
            case rel =>
              refine ⟨k + 1, by omega, by omega, by simp, ?_, HB.out⟩
              rw [HNX.out]
              simpa using hown
            case measure => simp [intOf]; omega
      · obtain rfl : k = G.syms.length := by omega
        clear hlt hB
        go_wp2
        go_ret
        exact ⟨_, rfl, own_base hown H5B.out.size, H5B.out.trans (HB.out.mono H5B.out.size)⟩
end Go.Proofs.YtiiceickjaeehaaGreat
