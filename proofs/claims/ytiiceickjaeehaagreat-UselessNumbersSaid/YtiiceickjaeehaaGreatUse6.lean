/-
  Package useless: makes, from, Makes, Reached.
-/
import Derived.Test.YtiiceickjaeehaaGreatUse5
import Derived.Test.YtiiceickjaeehaaGreatAfter
import Derived.Test.YtiiceickjaeehaaGreatRight
namespace Go.Proofs.YtiiceickjaeehaaGreat
open Go.RowKit
set_option maxHeartbeats 400000

theorem right_in {G : Gram} (h : rightG G = true) : InG G := by
  obtain ⟨h1, _, h3⟩ := rightG_parts h
  obtain ⟨terms, syms, prods⟩ := G
  simp only at h1 h3
  have hrow : ∀ l : List Int, rightSide terms syms.length l = true → ∀ x ∈ l, 0 ≤ x ∧ x < (syms.length : Int) := fun l hl x hx => by
    unfold rightSide rightRow at hl
    rw [Bool.and_eq_true, List.all_eq_true] at hl
    have := hl.1 x hx
    simp only [Bool.not_eq_true', Bool.or_eq_false_iff, decide_eq_false_iff_not] at this
    omega
  intro p hp
  simp only at hp ⊢
  cases prods with
  | nil => cases hp
  | cons q r =>
    simp only [prodsG, Bool.and_eq_true, List.all_eq_true] at h3
    rcases List.mem_cons.1 hp with rfl | hp
    · have := h3.1
      unfold firstG at this
      simp only [Bool.and_eq_true, decide_eq_true_eq] at this
      exact ⟨by omega, hrow _ this.2.2.1⟩
    · have := h3.2 p hp
      unfold prodG at this
      simp only [Bool.and_eq_true, Bool.not_eq_true', Bool.or_eq_false_iff, decide_eq_false_iff_not, Bool.not_eq_false'] at this
      exact ⟨by omega, hrow _ this.1.2.2⟩
theorem initM_set {n k : Nat} (h : k < n) : (initM n k).set k true = initM n (k + 1) := by
  refine List.ext_getElem (by simp [initM]) fun i h1 h2 => ?_
  rw [List.getElem_set]
  simp only [initM, List.getElem_map, List.getElem_range]
  split
  · subst_vars; simp
  · rename_i e
    by_cases h3 : i < k
    · simp [h3, Nat.lt_succ_of_lt h3]
    · simp [h3, show ¬ i < k + 1 by omega]
theorem initF_set {n k : Nat} : (List.replicate n false).set k true = initF n k := by
  refine List.ext_getElem (by simp [initF]) fun i h1 h2 => ?_
  rw [List.getElem_set]
  simp only [initF, List.getElem_map, List.getElem_range, List.getElem_replicate]
  split
  · subst_vars; simp
  · rename_i e
    simp [show ¬ i = k by omega]
theorem initM_zero (n : Nat) : List.replicate n false = initM n 0 := by
  refine List.ext_getElem (by simp [initM]) fun i h1 h2 => ?_
  simp [initM]
theorem Tryz.infoBool : (Tryz.prog.info? 4).map (fun i => (i.zero, i.size, i.bytes)) = some (some (.bool false), 1, 1) := by kernel_rfl
theorem made_bools {w : World} {B g n : Nat} (h : w.ownsRow B 4 1 (.slice (some ⟨g, 0, none⟩) n n) n (madeCells (Value.bool false).cells (n * 1)).toList) : w.heap[g]? = some (boolsObj (List.replicate n false)) := by
  have := own_obj h
  rw [this]
  have h2 : (madeCells (Value.bool false).cells (n * 1)).toList = List.replicate n (.bool false) := by rw [Nat.mul_one]; exact toList_madeCells_one _ _
  rw [h2]
  simp [boolsObj]
/-- What makes and from leave: a new block of truths. -/
def NewB (w w' : World) (v : Value) (L : List Bool) : Prop :=
  ∃ b, v = .slice (some ⟨b, 0, none⟩) L.length L.length ∧ w.heap.size ≤ b ∧ w'.heap[b]? = some (boolsObj L) ∧ Below w.heap.size w w'

theorem enters72 : Enters Tryz.prog 42 := enters_of Tryz.func42 (by kernel_rfl) rfl
theorem enters73 : Enters Tryz.prog 43 := enters_of Tryz.func43 (by kernel_rfl) rfl

set_option maxRecDepth 100000 in
set_option maxHeartbeats 4000000 in
theorem makes_any (G : Gram) (hr : rightG G = true) (v : Value) (w : World) (h : IsGram w v G) :
    Calls Tryz.prog 22 #[v] w fun e w' => ∃ r, e = .returned r ∧ NewB w w' r (makesL G) := by
  have hin := right_in hr
  obtain ⟨⟨ht0, ht1, hn0, hn1, _, _⟩, _, _⟩ := rightG_parts hr
  have hG := h
  obtain ⟨hterms, vs, vp, rfl, hs, hp⟩ := h
  obtain ⟨_, sa, sc, rfl, _, _, _⟩ := id hs
  obtain ⟨_, pa, pc, rfl, _, _, _⟩ := id hp
  obtain ⟨i0, hi, hz0, hz1, hz2⟩ := info_parts Tryz.infoBool
  have hml := fun L => makes_law (L := L) hin
  have hgood := good_mk hin
  have hlen : (makesL G).length = G.syms.length := makesL_len G
  have HG := Lib.hid hG
  have HLEN := Lib.hid hlen
  have HML := Lib.hid hml
  have HGD := Lib.hid hgood
  have HIN := Lib.hid hin
  clear hml hgood hlen hG hs hp hin hr
  have HO := Lib.hid (alloc_obj w (Obj.cells #[.int .i64 G.terms, .slice sa G.syms.length sc, .slice pa G.prods.length pc] 48 (0, 0)))
  have HB1 := Lib.hid ((Below.refl _ w).alloc (Nat.le_refl _) (Obj.cells #[.int .i64 G.terms, .slice sa G.syms.length sc, .slice pa G.prods.length pc] 48 (0, 0)))
  go_enter Tryz.func22, Tryz.ntmps22
  go_upto_region 2 with (first | (at_make; refine wpList_make_full _ rfl _ _ 29 rfl w.heap.size 4 i0 (.bool false) 1 Tryz.underlying29 hi hz0 hz1 .i64 .i64 _ _ G.syms.length rfl rfl rfl rfl (by rw [hz2]; omega) (by unfold maxLen; omega) (by simp) ?_; intro w2 hown hgrow))
  have hb2 := made_bools hown
  have hs1 : ∀ o, (w.alloc o).heap.size = w.heap.size + 1 := fun _ => by simp
  rw [hs1] at hb2
  have hF2 := Fr.grown hgrow
  have hO2 := hF2.obj HO.out (fun e => by cases e)
  have hB2 : Below w.heap.size w w2 := HB1.out.grown hgrow HB1.out.size (fun k e => by cases e)
  have hl1 : w.heap.size + 1 < w2.heap.size := (Array.getElem?_eq_some_iff.1 hb2).1
  refine wp_atW (F := fun W => W.heap[w.heap.size]? = some (Obj.cells #[.int .i64 G.terms, .slice sa G.syms.length sc, .slice pa G.prods.length pc] 48 (0, 0)) ∧ W.heap[w.heap.size + 1]? = some (boolsObj (initM G.syms.length 0)) ∧ W.heap[w2.heap.size]? = some (boxB (w.heap.size + 1) G.syms.length) ∧ Below w.heap.size w W) ?_ ?_
  · refine ⟨alloc_older hO2, ?_, alloc_obj _ _, hB2.alloc hB2.size _⟩
    rw [← initM_zero]
    exact alloc_older hb2
  intro W ⟨hO, hb, hbx, hB⟩
  clear hown hgrow hb2 hF2 hO2 hB2 HO HB1
  have q0 := obj_cell hO 0 rfl
  have q1 := obj_cell hO 1 rfl
  have q2 := obj_cell hO 2 rfl
  have q3 := obj_cell hbx 0 rfl
  have HO := Lib.hid hO
  have HB := Lib.hid hb
  have HX := Lib.hid hbx
  have HW := Lib.hid hB
  clear hO hb hbx hB
  have hgl : G.terms.toNat < G.syms.length := by omega
  go_wp2
  go_loopw [13] (fun i wr => ∃ k : Nat, k ≤ G.terms.toNat ∧ i = .int .i64 k ∧ wr.heap[w.heap.size + 1]? = some (boolsObj (initM G.syms.length k)) ∧ Fr (only (w.heap.size + 1)) W wr) (fun i _ => G.terms.toNat - (intOf i).toNat)
  case atStart => exact ⟨0, Nat.zero_le _, rfl, HB.out, Fr.refl _ _⟩
  case round =>
    obtain ⟨k, hk, rfl, hbk, hF⟩ := hrel
    have HBK := Lib.hid hbk
    have HF := Lib.hid hF
    have d3 := obj_cell (hF.obj HX.out (by unfold only; omega)) 0 rfl
    by_cases hlt : k < G.terms.toNat
    · have ht : decide ((k : Int) < G.terms) = true := decide_eq_true (by omega)
      have d0 := bools_cell hbk k (by simp [initM]; omega)
      have d1 := obj_frozen hbk k
      clear hbk hF
      go_wp2
      go_roundw
      case rel => exact ⟨k + 1, by omega, by simp, by rw [← initM_set (by omega)]; exact bools_set HBK.out _ _, HF.out.trans (Fr.setCell _ ⟨w.heap.size + 1, k, none⟩ _)⟩
      case measure => simp [intOf]; omega
    · obtain rfl : k = G.terms.toNat := by omega
      have ht : decide (((G.terms.toNat : Nat) : Int) < G.terms) = false := decide_eq_false (by omega)
      have e0 := obj_cell (hF.obj HO.out (by unfold only; omega)) 0 rfl
      have e1 := obj_cell (hF.obj HO.out (by unfold only; omega)) 1 rfl
      have e2 := obj_cell (hF.obj HO.out (by unfold only; omega)) 2 rfl
      have hBW : Below w.heap.size w wr := HW.out.trans (hF.below HW.out.size fun k e => by unfold only at e; omega)
      have HBW := Lib.hid hBW
      have hS := spread_any G G.syms.length (w.heap.size + 1) 42 #[.pointer (some ⟨w2.heap.size, 0, none⟩)] mkStep (initM G.syms.length G.terms.toNat) (.agg #[.int .i64 G.terms, .slice sa G.syms.length sc, .slice pa G.prods.length pc]) wr
        (HG.out.fr (Fr.new hBW)) hbk (by simp [initM]) HGD.out ⟨enters72, fun w1 h1 L hL hb v p hp hv => by
          have := mkStep_any L p (w.heap.size + 1) w2.heap.size v w1 (by rw [hL]; exact h1.obj (hF.obj HX.out (by unfold only; omega)) (by unfold only; omega)) hb hv (by rw [hL]; exact HIN.out p hp)
          exact this⟩
      have HS := Lib.hid hS
      clear hlt hS hbk hF hBW
      go_wp2_with (go_at_call 41; refine HS.out.mono ?_; rintro e w5 ⟨rfl, hx, hf5⟩; have d4 := obj_cell (hf5.obj (HF.out.obj HX.out (by unfold only; omega)) (by unfold only; omega)) 0 rfl)
      go_ret
      obtain ⟨L, hp, hc, hl, hb⟩ := hx
      obtain rfl := HML.out L hp hc
      refine ⟨_, rfl, w.heap.size + 1, by rw [HLEN.out]; rfl, Nat.le_succ _, hb, HBW.out.trans (hf5.below HBW.out.size fun k e => by unfold only at e; omega)⟩

/-- A function value that tells what M tells, wherever nothing that was there has turned. -/
def MayNew (w : World) (F : Nat) (caps : Array Value) (M : Prd → Bool) (l : List Prd) : Prop :=
  Enters Tryz.prog F ∧ ∀ w1, Below w.heap.size w w1 → ∀ v, ∀ p ∈ l, IsPrd w1 v p → Calls Tryz.prog F (#[v] ++ caps) w1 fun e w' => e = .returned (.bool (M p)) ∧ Below w1.heap.size w1 w'
set_option maxRecDepth 100000 in
set_option maxHeartbeats 4000000 in
theorem from_any (G : Gram) (hr : rightG G = true) (M : Prd → Bool) (F : Nat) (caps : Array Value) (v : Value) (w : World) (h : IsGram w v G) (hM : MayNew w F caps M G.prods) :
    Calls Tryz.prog 23 #[v, .func (.func F) #[] caps] w fun e w' => ∃ r, e = .returned r ∧ NewB w w' r (fromL G M) := by
  have hin := right_in hr
  obtain ⟨⟨ht0, ht1, hn0, hn1, _, _⟩, _, _⟩ := rightG_parts hr
  have hG := h
  obtain ⟨hterms, vs, vp, rfl, hs, hp⟩ := h
  obtain ⟨_, sa, sc, rfl, _, _, _⟩ := id hs
  obtain ⟨_, pa, pc, rfl, _, _, _⟩ := id hp
  obtain ⟨i0, hi, hz0, hz1, hz2⟩ := info_parts Tryz.infoBool
  have hml := fun L => from_law (L := L) (M := M) hin (by omega)
  have hgood := good_from M hin
  have hlen : (fromL G M).length = G.syms.length := fromL_len G M
  have HG := Lib.hid hG
  have HLEN := Lib.hid hlen
  have HML := Lib.hid hml
  have HGD := Lib.hid hgood
  have HIN := Lib.hid hin
  have HM := Lib.hid hM
  clear hml hgood hlen hG hs hp hin hr hM
  have hx := two_boxes w (Obj.cells #[.int .i64 G.terms, .slice sa G.syms.length sc, .slice pa G.prods.length pc] 48 (0, 0)) (boxF F caps)
  have HX0 := Lib.hid hx
  clear hx
  have hs2 : ∀ o o', ((w.alloc o).alloc o').heap.size = w.heap.size + 2 := fun _ _ => by simp
  have HS2 := Lib.hid hs2
  clear hs2
  go_enter Tryz.func23, Tryz.ntmps23
  go_upto_region 2 with (first | (at_make; refine wpList_make_full _ rfl _ _ 29 rfl w.heap.size 4 i0 (.bool false) 1 Tryz.underlying29 hi hz0 hz1 .i64 .i64 _ _ G.syms.length rfl rfl rfl rfl (by rw [hz2]; omega) (by unfold maxLen; omega) (by simp; omega) ?_; intro w2 hown hgrow))
  have hb2 := made_bools hown
  rw [HS2.out] at hb2
  have hF2 := Fr.grown hgrow
  have hO2 := hF2.obj HX0.out.1 (fun e => by cases e)
  have hO3 := hF2.obj HX0.out.2.1 (fun e => by cases e)
  have hB2 : Below w.heap.size w w2 := HX0.out.2.2.grown hgrow HX0.out.2.2.size (fun k e => by cases e)
  have hl1 : w.heap.size + 2 < w2.heap.size := (Array.getElem?_eq_some_iff.1 hb2).1
  refine wp_atW (F := fun W => W.heap[w.heap.size]? = some (Obj.cells #[.int .i64 G.terms, .slice sa G.syms.length sc, .slice pa G.prods.length pc] 48 (0, 0)) ∧ W.heap[w.heap.size + 1]? = some (boxF F caps) ∧ W.heap[w.heap.size + 2]? = some (boolsObj (List.replicate G.syms.length false)) ∧ W.heap[w2.heap.size]? = some (boxB (w.heap.size + 2) G.syms.length) ∧ Below w.heap.size w W) ?_ ?_
  · refine ⟨alloc_older hO2, alloc_older hO3, alloc_older hb2, ?_, hB2.alloc hB2.size _⟩
    have := alloc_obj w2 (boxB (w.heap.size + 2) G.syms.length)
    rw [← HS2.out (Obj.cells #[.int .i64 G.terms, .slice sa G.syms.length sc, .slice pa G.prods.length pc] 48 (0, 0)) (boxF F caps)] at this ⊢
    exact this
  intro W ⟨hO, hf, hb, hbx, hB⟩
  clear hown hgrow hb2 hF2 hO2 hO3 hB2 HX0
  have q0 := obj_cell hO 0 rfl
  have q1 := obj_cell hO 1 rfl
  have q2 := obj_cell hO 2 rfl
  have q3 := obj_cell hbx 0 rfl
  obtain ⟨t, ht⟩ : ∃ t : Nat, G.terms = (t : Int) := ⟨G.terms.toNat, by omega⟩
  have htl : t < G.syms.length := by omega
  have q4 := bools_cell hb t (by simp; omega)
  have q5 := obj_frozen hb t
  have HO := Lib.hid hO
  have HB := Lib.hid hb
  have HX := Lib.hid hbx
  have HF := Lib.hid hf
  have HW := Lib.hid hB
  have HT := Lib.hid ht
  clear hO hb hbx hB hf
  go_upto_region 3 with fail
  refine wp_atW (F := fun Y => Y.heap[w.heap.size + 2]? = some (boolsObj (initF G.syms.length t)) ∧ Fr (only (w.heap.size + 2)) W Y) ?_ ?_
  · refine ⟨?_, Fr.setCell W ⟨w.heap.size + 2, t, none⟩ _⟩
    rw [← initF_set]
    exact bools_set HB.out _ _
  intro Y ⟨hY, hFY⟩
  clear q0 q1 q2 q3 q4 q5
  have hBW : Below w.heap.size w Y := HW.out.trans (hFY.below HW.out.size fun k e => by unfold only at e; omega)
  have hOY := hFY.obj HO.out (by unfold only; omega)
  have hXY := hFY.obj HX.out (by unfold only; omega)
  have hfY := hFY.obj HF.out (by unfold only; omega)
  have e0 := obj_cell hOY 0 rfl
  have e1 := obj_cell hOY 1 rfl
  have e2 := obj_cell hOY 2 rfl
  have hMY : MayIs Y (w.heap.size + 2) F caps M G.prods := ⟨HM.out.1, fun w1 h1 v p hp hv => HM.out.2 w1 (hBW.trans (h1.below hBW.size fun k e => by unfold only at e; omega)) v p hp hv⟩
  have hS := spread_any G G.syms.length (w.heap.size + 2) 43 #[.pointer (some ⟨w2.heap.size, 0, none⟩), .pointer (some ⟨w.heap.size + 1, 0, none⟩)] (fromStep M) (initF G.syms.length t) (.agg #[.int .i64 G.terms, .slice sa G.syms.length sc, .slice pa G.prods.length pc]) Y
        (HG.out.fr (Fr.new hBW)) hY (by simp [initF]) HGD.out ⟨enters73, fun w1 h1 L hL hb v p hp hv => by
          have := fromStep_any L M G.prods p hp (w.heap.size + 2) w2.heap.size (w.heap.size + 1) F caps v w1 (by rw [hL]; exact h1.obj hXY (by unfold only; omega)) hb (h1.obj hfY (by unfold only; omega)) (hMY.fr h1) hv (by rw [hL]; exact HIN.out p hp) (by omega)
          exact this⟩
  have HS := Lib.hid hS
  have HBW := Lib.hid hBW
  have HXY := Lib.hid hXY
  clear hS hBW hOY hXY hfY hMY hY hFY ht
  go_wp2_with (go_at_call 41; refine HS.out.mono ?_; rintro e w5 ⟨rfl, hx, hf5⟩; have d4 := obj_cell (hf5.obj HXY.out (by unfold only; omega)) 0 rfl)
  go_ret
  obtain ⟨L, hp, hc, hl, hb⟩ := hx
  have hT : G.terms.toNat = t := by have := HT.out; omega
  have hml := HML.out L
  rw [hT] at hml
  obtain rfl := hml hp hc
  exact ⟨_, rfl, w.heap.size + 2, by rw [HLEN.out]; rfl, by omega, hb, HBW.out.trans (hf5.below HBW.out.size fun k e => by unfold only at e; omega)⟩
end Go.Proofs.YtiiceickjaeehaaGreat
