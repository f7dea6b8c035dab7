/-
  Package pack: Pack of the chapter's table.
-/
import Derived.Test.YtehaoiimhgkckaaPb1
import Derived.Test.YtehaoiimhgkckaaPb2
namespace Go.Proofs.Ytehaoiimhgkckaa
open Go.RowKit
set_option maxHeartbeats 400000

def low (B : Nat) : Nat → Prop := fun g => g < B
theorem own_low {w w' : World} {B e size n : Nat} {v : Value} {xs : List Value} (h : w.ownsRow B e size v n xs) (k : Fr (low B) w w') : w'.ownsRow B e size v n xs :=
  own_fr h k fun g hg e => by have := (h.lt g hg).1; unfold low at e; omega
theorem says_one (w : World) : Calls Try.prog 29 #[.int .i64 1] w fun e w' => e = .returned vR ∧ Below w.heap.size w w' := says_any 1 w
/-- A result's block. -/
def outO (d b c n gb gc gn : Value) : Obj := .cells #[d, b, c, n, gb, gc, gn] 25 (0, 0)
/-- The chapter's table in memory. -/
structure TabC (w : World) (ga ca gg cg rb rc ib ic : Nat) : Prop where
  acts : w.cell? ⟨ga, 0, none⟩ = some (.slice (some ⟨rb, 0, none⟩) 3 rc)
  gotos : w.cell? ⟨gg, 0, none⟩ = some (.slice (some ⟨ib, 0, none⟩) 2 ic)
  row : Cells w rb 0 [.int .u8 2, .int .i64 1, .int .u8 2, .int .i64 1, .int .u8 0, .int .i64 0]
  line : Cells w ib 0 [.int .i64 (-1), .int .i64 0]
  rc : 3 ≤ rc ∧ rc ≤ maxLen
  ic : 2 ≤ ic ∧ ic ≤ maxLen
theorem TabC.fr {ch : Nat → Prop} {w w' : World} {ga ca gg cg rb rc ib ic : Nat} (h : TabC w ga ca gg cg rb rc ib ic) (k : Fr ch w w') (h1 : ¬ ch ga) (h2 : ¬ ch gg) (h3 : ¬ ch rb) (h4 : ¬ ch ib) : TabC w' ga ca gg cg rb rc ib ic :=
  ⟨k.cell h.acts h1, k.cell h.gotos h2, h.row.fr k h3, h.line.fr k h4, h.rc, h.ic⟩
theorem TabC.row3 {w : World} {ga ca gg cg rb rc ib ic : Nat} (h : TabC w ga ca gg cg rb rc ib ic) : Row3 w (.slice (some ⟨rb, 0, none⟩) 3 rc) := ⟨⟨rb, rc, rfl, h.rc.1, h.rc.2, h.row⟩⟩
theorem TabC.ints {w : World} {ga ca gg cg rb rc ib ic : Nat} (h : TabC w ga ca gg cg rb rc ib ic) : Ints w (.slice (some ⟨ib, 0, none⟩) 2 ic) [-1, 0] :=
  ⟨by simp, by simp, _, _, rfl, h.ic.1, h.ic.2, .inr ⟨ib, 0, rfl, h.line⟩⟩
theorem TabC.tab {w : World} {ga ca gg cg rb rc ib ic : Nat} (h : TabC w ga ca gg cg rb rc ib ic) : Tab1 w (.agg #[.slice (some ⟨ga, 0, none⟩) 1 ca, .slice (some ⟨gg, 0, none⟩) 1 cg]) [⟨2, 1⟩, ⟨2, 1⟩, ⟨0, 0⟩] [-1, 0] :=
  ⟨⟨ga, ca, gg, cg, _, _, rfl, h.acts, ⟨by simp, _, _, rfl, h.rc.1, h.rc.2, .inr ⟨rb, 0, rfl, fun i hi => by
    have hr := h.row
    rcases i with _ | _ | _ | i
    · exact ⟨⟨by simp, by simp⟩, by unfold i64; simp, fun j hj => by
        rcases j with _ | _ | j
        · simpa [acCells] using hr 0 (by simp)
        · simpa [acCells] using hr 1 (by simp)
        · simp [acCells] at hj; omega⟩
    · exact ⟨⟨by simp, by simp⟩, by unfold i64; simp, fun j hj => by
        rcases j with _ | _ | j
        · simpa [acCells] using hr 2 (by simp)
        · simpa [acCells] using hr 3 (by simp)
        · simp [acCells] at hj; omega⟩
    · exact ⟨⟨by simp, by simp⟩, by unfold i64; simp, fun j hj => by
        rcases j with _ | _ | j
        · simpa [acCells] using hr 4 (by simp)
        · simpa [acCells] using hr 5 (by simp)
        · simp [acCells] at hj; omega⟩
    · simp at hi; omega⟩⟩, h.gotos, h.ints⟩⟩
theorem own_acts {w : World} {B : Nat} {v : Value} {l : List Ac} (h : OwnA w B v l) (hok : ∀ s ∈ l, AcOk s) (hl : l.length ≤ 17592186044416) : IsActs w v l := by
  obtain ⟨a, cap, rfl, h1, h2, h3⟩ := own_cells h
  refine ⟨hl, a, cap, rfl, h1, h2, ?_⟩
  rcases h3 with h3 | ⟨g, rfl, _, hc⟩
  · left
    cases l with
    | nil => rfl
    | cons x r => simp [acCells] at h3
  · refine .inr ⟨g, 0, rfl, fun i hi => ⟨(hok _ (List.getElem_mem hi)).1, (hok _ (List.getElem_mem hi)).2, ?_⟩⟩
    exact flat_cells (m := 2) (fun _ => rfl) hc i hi
/-- What is packed of the chapter's table. -/
def packP : Pk := ⟨[1], [0], [-1, -1, 0], [⟨0, 0⟩, ⟨0, 0⟩, ⟨0, 0⟩], [0], [-1, 0], [0, 0]⟩
structure PF (w : World) (B pa pi po : Nat) (dv bv cv nv gb gc gn : Value) : Prop where
  fA : w.heap[pa]? = some (packA bv cv nv)
  fI : w.heap[pi]? = some (packI gb gc gn)
  fO : w.heap[po]? = some (outO dv nilS nilS nilS nilS nilS nilS)
  dv : OwnI w B dv [1]
  bv : OwnI w B bv [0]
  cv : OwnI w B cv [-1, -1, 0]
  nv : OwnA w B nv [⟨0, 0⟩, ⟨0, 0⟩, ⟨0, 0⟩]
  gb : OwnI w B gb [0]
  gc : OwnI w B gc [-1, 0]
  gn : OwnI w B gn [0, 0]
/-- Packed rows of the chapter's table, each in memory of its own. -/
structure PkO (w : World) (dv bv cv nv gb gc gn : Value) : Prop where
  dv : OwnI w 0 dv [1]
  bv : OwnI w 0 bv [0]
  cv : OwnI w 0 cv [-1, -1, 0]
  nv : OwnA w 0 nv [⟨0, 0⟩, ⟨0, 0⟩, ⟨0, 0⟩]
  gb : OwnI w 0 gb [0]
  gc : OwnI w 0 gc [-1, 0]
  gn : OwnI w 0 gn [0, 0]
theorem PkO.pkv {w : World} {dv bv cv nv gb gc gn : Value} (h : PkO w dv bv cv nv gb gc gn) : PkV w dv bv cv nv gb gc gn packP :=
  ⟨own_ints h.dv (by simp [packP]) (by simp [packP]), own_ints h.bv (by simp [packP]) (by simp [packP]), own_ints h.cv (by simp [packP]) (by simp [packP]), own_acts h.nv (by simp [packP, AcOk, i64]) (by simp [packP]), own_ints h.gb (by simp [packP]) (by simp [packP]), own_ints h.gc (by simp [packP]) (by simp [packP]), own_ints h.gn (by simp [packP]) (by simp [packP])⟩
set_option maxRecDepth 100000 in
set_option maxHeartbeats 8000000 in
theorem pack_one (gv : Value) (ga ca gg cg rb rc ib ic : Nat) (w : World) (hg : IsGram w gv oneG) (ht : TabC w ga ca gg cg rb rc ib ic) :
    Calls Try.prog 24 #[gv, .agg #[.slice (some ⟨ga, 0, none⟩) 1 ca, .slice (some ⟨gg, 0, none⟩) 1 cg]] w fun e w' => ∃ dv bv cv nv gb gc gn, e = .returned (.tuple #[.agg #[dv, bv, cv, nv, gb, gc, gn], .int .i64 0]) ∧ PkO w' dv bv cv nv gb gc gn ∧ Below w.heap.size w w' := by
  obtain ⟨i0, hi, hz0, hz1, hz2⟩ := info_parts Try.infoInt'
  obtain ⟨_, vs, vp, rfl, hs, hp⟩ := id hg
  obtain ⟨sa, sc, rfl, _⟩ := Rows'.parts hs
  obtain ⟨qa, qc, rfl, _⟩ := Rows'.parts hp
  have hl1 : oneG.syms.length = 5 := rfl
  have hl2 : oneG.prods.length = 3 := rfl
  have hl0 : oneG.terms = 3 := rfl
  rw [hl1, hl2, hl0] at hg ⊢
  have hx := three_boxes w (.cells #[.int .i64 3, .slice sa 5 sc, .slice qa 3 qc] 39 (0, 0)) (.cells #[.slice (some ⟨ga, 0, none⟩) 1 ca, .slice (some ⟨gg, 0, none⟩) 1 cg] 74 (0, 0)) (outO nilS nilS nilS nilS nilS nilS nilS)
  obtain ⟨w1, hw1⟩ : ∃ w1, w1 = ((w.alloc (.cells #[.int .i64 3, .slice sa 5 sc, .slice qa 3 qc] 39 (0, 0))).alloc (.cells #[.slice (some ⟨ga, 0, none⟩) 1 ca, .slice (some ⟨gg, 0, none⟩) 1 cg] 74 (0, 0))).alloc (outO nilS nilS nilS nilS nilS nilS nilS) := ⟨_, rfl⟩
  rw [← hw1] at hx
  obtain ⟨o0, o1, o2, hB1⟩ := hx
  have hF1 := Fr.new hB1
  have HRT := Lib.hid (tableRight_one oneG _ _ [⟨2, 1⟩, ⟨2, 1⟩, ⟨0, 0⟩] [-1, 0] w1 (hg.fr hF1) one_right (ht.fr (ca := ca) (cg := cg) hF1 (fun e => e) (fun e => e) (fun e => e) (fun e => e)).tab rfl rfl (by
    intro a ha
    simp only [List.mem_cons, List.not_mem_nil, or_false] at ha
    rcases ha with rfl | rfl | rfl
    · exact .inr ⟨rfl, by decide, by decide⟩
    · exact .inr ⟨rfl, by decide, by decide⟩
    · exact .inl ⟨rfl, rfl⟩) (by decide) (by decide))
  have HO := Lib.hid (And.intro o0 (And.intro o1 o2))
  have HT := Lib.hid ht
  have HF1 := Lib.hid hF1
  have HW := Lib.hid hw1
  have z0 : w1.cell? ⟨w.heap.size, 0, none⟩ = some (.int .i64 3) := obj_cell o0 0 rfl
  have z1 : w1.cell? ⟨w.heap.size, 1, none⟩ = some (.slice sa 5 sc) := obj_cell o0 1 rfl
  have z2 : w1.cell? ⟨w.heap.size, 2, none⟩ = some (.slice qa 3 qc) := obj_cell o0 2 rfl
  have y0 : w1.cell? ⟨w.heap.size + 1, 0, none⟩ = some (.slice (some ⟨ga, 0, none⟩) 1 ca) := obj_cell o1 0 rfl
  have y1 : w1.cell? ⟨w.heap.size + 1, 1, none⟩ = some (.slice (some ⟨gg, 0, none⟩) 1 cg) := obj_cell o1 1 rfl
  clear hs hp hg ht o0 o1 o2 hB1 hF1 hw1 hl0 hl1 hl2
  go_enter Try.func24, Try.ntmps24
  go_upto_region 1 with fail
  have hout : (Obj.cells #[Value.slice none 0 0, Value.slice none 0 0, Value.slice none 0 0, Value.slice none 0 0, Value.slice none 0 0, Value.slice none 0 0, Value.slice none 0 0] 25 (0, 0)) = outO nilS nilS nilS nilS nilS nilS nilS := rfl
  rw [hout, ← HW.out]
  clear hout
  go_upto_region 6 with (go_at_call 51; refine HRT.out.mono ?_; rintro e w2 ⟨rfl, hb2⟩)
  have hx := three_boxes w2 (packA nilS nilS nilS) (packI nilS nilS nilS) (outO nilS nilS nilS nilS nilS nilS nilS)
  refine wp_atW (F := fun W => Fr nothing w2 W ∧ W.heap[w2.heap.size]? = some (packA nilS nilS nilS) ∧ W.heap[w2.heap.size + 1]? = some (packI nilS nilS nilS) ∧ W.heap[w2.heap.size + 1 + 1]? = some (outO nilS nilS nilS nilS nilS nilS nilS)) ⟨Fr.new hx.2.2.2, hx.1, hx.2.1, hx.2.2.1⟩ ?_
  rintro w3 ⟨hf3, hpa, hpi, hpo⟩
  clear hx
  have hsz2 : w.heap.size + 3 ≤ w2.heap.size := Nat.le_trans (Array.getElem?_eq_some_iff.1 HO.out.2.2).1 hb2.size
  have hsz3 : w2.heap.size + 1 + 1 < w3.heap.size := (Array.getElem?_eq_some_iff.1 hpo).1
  obtain ⟨po, hpo'⟩ : ∃ po, po = w2.heap.size + 1 + 1 := ⟨_, rfl⟩
  rw [← hpo'] at hpo hsz3 ⊢
  obtain ⟨pi, hpi'⟩ : ∃ pi, pi = w2.heap.size + 1 := ⟨_, rfl⟩
  rw [← hpi'] at hpi ⊢
  obtain ⟨pa, hpa'⟩ : ∃ pa, pa = w2.heap.size := ⟨_, rfl⟩
  rw [← hpa'] at hpa ⊢
  have hl0 : w.heap.size + 3 ≤ pa := by omega
  have hl1 : pa < pi := by omega
  have hl2 : pi < po := by omega
  have hf13 : Fr nothing w1 w3 := (Fr.new hb2).trans hf3
  have x0 : w3.cell? ⟨w.heap.size + 1, 0, none⟩ = some (.slice (some ⟨ga, 0, none⟩) 1 ca) := hf13.cell y0 fun e => e
  have HF3 := Lib.hid (HF1.out.trans hf13)
  have HT3 := Lib.hid (HT.out.fr (ca := ca) (cg := cg) HF3.out (fun e => e) (fun e => e) (fun e => e) (fun e => e))
  have HY := Lib.hid (hf13.cell y1 fun e => e)
  have HRB := Lib.hid (hf13.obj HO.out.2.2 fun e => e)
  have HP := Lib.hid (And.intro hpa (And.intro hpi hpo))
  have hold : ga < w.heap.size ∧ gg < w.heap.size ∧ rb < w.heap.size ∧ ib < w.heap.size := ⟨World.block_lt_of_cell? w _ HT.out.acts, World.block_lt_of_cell? w _ HT.out.gotos, World.block_lt_of_cell? w _ (HT.out.row 0 (by simp)), World.block_lt_of_cell? w _ (HT.out.line 0 (by simp))⟩
  clear y0 y1 z0 z1 z2 hpa hpi hpo hpo' hpi' hpa' hf3 hf13 hb2 HRT hsz2
  go_wp2
  clear x0
  have HUS := Lib.hid (usual_row _ w3 HT3.out.row3)
  go_loopw [9, 10, 11, 20] (fun _ _ _ i wr => ∃ k : Nat, k ≤ 1 ∧ i = .int .i64 k ∧ (k = 0 → w3 = wr) ∧ (k = 1 → ∃ dv bv cv nv gb gc gn, PF wr w3.heap.size pa pi po dv bv cv nv gb gc gn ∧ Fr (fun g => g = pa ∨ g = pi ∨ g = po) w3 wr)) (fun _ _ _ i _ => 1 - (intOf i).toNat)
  case atStart => exact ⟨0, by omega, rfl, fun _ => rfl, fun e => by omega⟩
  case round =>
    obtain ⟨k, hk, rfl, h0, h1⟩ := hrel
    rcases (by omega : k = 0 ∨ k = 1) with rfl | rfl
    · obtain rfl := h0 rfl
      clear h0 h1 hk
      have a0 := HT3.out.acts
      go_upto_region 10 with (go_at_call 52; refine HUS.out.mono ?_; rintro e w4 ⟨rfl, hb4⟩)
      have k4 := Fr.new hb4
      have p4 := k4.obj HP.out.2.2 fun e => e
      have c4 : w4.cell? ⟨po, 0, none⟩ = some nilS := obj_cell p4 0 rfl
      have hz4 := hb4.size
      clear hb4 a0
      go_upto_region 11 with (at_builtin; refine wpList_append_lies _ rfl _ _ 22 rfl w3.heap.size 3 i0 _ 1 8 Try.underlying22 hi hz0 hz1 hz2 rfl (by decide) nilS 0 [] rfl (World.ownsRow_nil _ _ _ _) ⟨w4.heap.size, 0, none⟩ 1 1 [.int .i64 1] rfl rfl (cells_add (cells_new_at (by simp) _ _ rfl _ _)) (by simp [Value.oneCell']) (by omega) (by unfold maxLen; omega) (by omega) (by simp; omega) _ rfl ?_; intro g5 cap5 w5 o5 hgrow5 hat5 hlt5; have k5 : Fr nothing w4 w5 := (Fr.alloc _ _).trans (fr_grown_nil hgrow5); have p5 := k5.obj p4 (fun e => e); have f5 := obj_frozen p5 0; have c5 : w5.cell? ⟨po, 0, none⟩ = some nilS := obj_cell p5 0 rfl)
      refine wp_atW (F := fun W => W.heap[po]? = some (outO (.slice (some ⟨g5, 0, none⟩) 1 cap5) nilS nilS nilS nilS nilS nilS) ∧ Fr (only po) w5 W) ⟨setCell_obj p5 _, Fr.setCell w5 ⟨po, 0, none⟩ _⟩ ?_
      rintro w6 ⟨p6, k6⟩
      have F6 : Fr (only po) w3 w6 := (k4.trans k5).wide.trans k6
      have O6 := own_fr o5 k6 fun g hg e => by have h1 := (o5.lt g hg).1; have e' : g = po := e; omega
      have HO6 := Lib.hid O6
      have HF6 := Lib.hid F6
      have HP6 := Lib.hid p6
      clear k4 p4 c4 hz4 hgrow5 hat5 hlt5 k5 p5 f5 c5 o5 k6 p6 F6 O6
      go_upto_region 12 with (first | (go_at_call 29; refine (says_one _).mono ?_; rintro e w7 ⟨rfl, hb7⟩; have F7 : Fr (only po) w3 w7 := HF6.out.trans (Fr.new hb7).wide; have T7 := HT3.out.fr (ca := ca) (cg := cg) F7 (fun e => by unfold only at e; omega) (fun e => by unfold only at e; omega) (fun e => by unfold only at e; omega) (fun e => by unfold only at e; omega)) | (go_at_call 54; refine (unlikeA_row _ w7 T7.row3).mono ?_; rintro e w8 ⟨u8, rfl, o8, hb8⟩; have F8 : Fr (only po) w3 w8 := F7.trans (Fr.new hb8).wide; have T8 := HT3.out.fr (ca := ca) (cg := cg) F8 (fun e => by unfold only at e; omega) (fun e => by unfold only at e; omega) (fun e => by unfold only at e; omega) (fun e => by unfold only at e; omega)) | (go_at_call 53; refine (putA_row pa rb rc u8 w8 (F8.obj HP.out.1 (fun e => by unfold only at e; omega)) T8.row (by omega) (own_base o8 (by have := F7.size; omega))).mono ?_; rintro e w9 ⟨rfl, bv, cv, nv, p9, b9, c9, n9, k9⟩))
      have F9 : Fr (fun g => g = pa ∨ g = po) w3 w9 := (F8.mono fun _ _ e => .inr e).trans (k9.mono fun _ _ e => .inl e)
      have T9 := HT3.out.fr (ca := ca) (cg := cg) F9 (fun e => by omega) (fun e => by omega) (fun e => by omega) (fun e => by omega)
      have F69p : Fr (only pa) w6 w9 := ((Fr.new hb7).wide.trans (Fr.new hb8).wide).trans k9
      have F69 : Fr (low w3.heap.size) w6 w9 := F69p.mono fun g _ e => by unfold only at e; unfold low; omega
      have D9 := own_low HO6.out F69
      have q9 := F69p.obj HP6.out (fun e => by unfold only at e; omega)
      have i9 := F9.obj HP.out.2.1 (fun e => by omega)
      have y9 := F9.cell HY.out (fun e => by simp only at e; omega)
      have hz8 := F8.size
      have HB := Lib.hid (And.intro (own_base b9 hz8) (And.intro (own_base c9 hz8) (And.intro (own_base n9 hz8) D9)))
      have HQ := Lib.hid (And.intro p9 (And.intro q9 i9))
      have HF9 := Lib.hid F9
      have HT9 := Lib.hid T9
      obtain ⟨wq, hq⟩ : ∃ wq, wq = w9.drew := ⟨_, rfl⟩
      have kq : Fr nothing w9 wq := by rw [hq]; exact Fr.drew _
      have hS0 : wq.cell? ⟨w.heap.size + 1, 1, none⟩ = some (.slice (some ⟨gg, 0, none⟩) 1 cg) ∧ wq.cell? ⟨gg, 0, none⟩ = some (.slice (some ⟨ib, 0, none⟩) 2 ic) := ⟨kq.cell y9 fun e => e, kq.cell T9.gotos fun e => e⟩
      clear hb7 F7 T7 o8 hb8 F8 T8 p9 b9 c9 n9 k9 F9 T9 F69p F69 D9 q9 i9 y9 hz8
      refine wp_region_anyT (fun j W => j < 11 → W.cell? ⟨w.heap.size + 1, 1, none⟩ = some (.slice (some ⟨gg, 0, none⟩) 1 cg) ∧ W.cell? ⟨gg, 0, none⟩ = some (.slice (some ⟨ib, 0, none⟩) 2 ic)) (by kernel_rfl) ?_
      rw [← hq]
      clear hq
      refine anyT_take (i := 0) (v := ?_) (fun j => decide (j < 11)) (fun j w h k => k (of_decide_eq_true h)) (fun w h _ => h) rfl (by kernel_rfl) (fun _ _ _ h => h) _ _ _ _ (by kernel_rfl) (by kernel_rfl) (by kernel_rfl) (by kernel_rfl) (Or.inl ⟨by rfl, ?_⟩) (by assumption) ?_
      rotate_left
      · (intro w hSw; (try dsimp only at hSw); go_simp)
        try with_reducible rfl
      refine anyT_take (i := 1) (v := ?_) (fun j => decide (j < 11)) (fun j w h k => k (of_decide_eq_true h)) (fun w h _ => h) rfl (by kernel_rfl) (fun _ _ _ h => h) _ _ _ _ (by kernel_rfl) (by kernel_rfl) (by kernel_rfl) (by kernel_rfl) (Or.inl ⟨by rfl, ?_⟩) (by assumption) ?_
      rotate_left
      · (intro w hSw; (try dsimp only at hSw); go_simp)
        try with_reducible rfl
      refine anyT_take (i := 2) (v := ?_) (fun j => decide (j < 11)) (fun j w h k => k (of_decide_eq_true h)) (fun w h _ => h) rfl (by kernel_rfl) (fun _ _ _ h => h) _ _ _ _ (by kernel_rfl) (by kernel_rfl) (by kernel_rfl) (by kernel_rfl) (Or.inl ⟨by rfl, ?_⟩) (by assumption) ?_
      rotate_left
      · (intro w hSw; (try dsimp only at hSw); go_simp)
        try with_reducible rfl
      refine anyT_take (i := 3) (v := ?_) (fun j => decide (j < 11)) (fun j w h k => k (of_decide_eq_true h)) (fun w h _ => h) rfl (by kernel_rfl) (fun _ _ _ h => h) _ _ _ _ (by kernel_rfl) (by kernel_rfl) (by kernel_rfl) (by kernel_rfl) (Or.inl ⟨by rfl, ?_⟩) (by assumption) ?_
      rotate_left
      · (intro w hSw; (try dsimp only at hSw); go_simp)
        try with_reducible rfl
      refine anyT_take (i := 4) (v := ?_) (fun j => decide (j < 11)) (fun j w h k => k (of_decide_eq_true h)) (fun w h _ => h) rfl (by kernel_rfl) (fun _ _ _ h => h) _ _ _ _ (by kernel_rfl) (by kernel_rfl) (by kernel_rfl) (by kernel_rfl) (Or.inl ⟨by rfl, ?_⟩) (by assumption) ?_
      rotate_left
      · (intro w hSw; (try dsimp only at hSw); go_simp)
        try with_reducible rfl
      refine anyT_take (i := 5) (v := ?_) (fun j => decide (j < 11)) (fun j w h k => k (of_decide_eq_true h)) (fun w h _ => h) rfl (by kernel_rfl) (fun _ _ _ h => h) _ _ _ _ (by kernel_rfl) (by kernel_rfl) (by kernel_rfl) (by kernel_rfl) (Or.inl ⟨by rfl, ?_⟩) (by assumption) ?_
      rotate_left
      · (intro w hSw; (try dsimp only at hSw); go_simp)
        try with_reducible rfl
      refine anyT_take (i := 6) (v := ?_) (fun j => decide (j < 11)) (fun j w h k => k (of_decide_eq_true h)) (fun w h _ => h) rfl (by kernel_rfl) (fun _ _ _ h => h) _ _ _ _ (by kernel_rfl) (by kernel_rfl) (by kernel_rfl) (by kernel_rfl) (Or.inl ⟨by rfl, ?_⟩) (by assumption) ?_
      rotate_left
      · (intro w hSw; (try dsimp only at hSw); go_simp)
        try with_reducible rfl
      refine anyT_take (i := 7) (v := ?_) (fun j => decide (j < 11)) (fun j w h k => k (of_decide_eq_true h)) (fun w h _ => h) rfl (by kernel_rfl) (fun _ _ _ h => h) _ _ _ _ (by kernel_rfl) (by kernel_rfl) (by kernel_rfl) (by kernel_rfl) (Or.inl ⟨by rfl, ?_⟩) (by assumption) ?_
      rotate_left
      · (intro w hSw; (try dsimp only at hSw); go_simp)
        try with_reducible rfl
      refine anyT_take (i := 8) (v := ?_) (fun j => decide (j < 11)) (fun j w h k => k (of_decide_eq_true h)) (fun w h _ => h) rfl (by kernel_rfl) (fun _ _ _ h => h) _ _ _ _ (by kernel_rfl) (by kernel_rfl) (by kernel_rfl) (by kernel_rfl) (Or.inl ⟨by rfl, ?_⟩) (by assumption) ?_
      rotate_left
      · (intro w hSw; (try dsimp only at hSw); go_simp)
        try with_reducible rfl
      refine anyT_take (i := 9) (v := ?_) (fun j => decide (j < 11)) (fun j w h k => k (of_decide_eq_true h)) (fun w h _ => h) rfl (by kernel_rfl) (fun _ _ _ h => h) _ _ _ _ (by kernel_rfl) (by kernel_rfl) (by kernel_rfl) (by kernel_rfl) (Or.inl ⟨by rfl, ?_⟩) (by assumption) ?_
      rotate_left
      · (intro w hSw; (try dsimp only at hSw); go_simp)
        try with_reducible rfl
      refine anyT_ready (rs := [10]) (by kernel_rfl) (by simp) ?_
      intro j hj
      obtain rfl := List.mem_singleton.1 hj
      clear hj
      refine wpOp_plain rfl rfl ?_
      go_simp
      refine (unlikeI_row _ wq ((HT9.out.fr (ca := ca) (cg := cg) kq (fun e => e) (fun e => e) (fun e => e) (fun e => e)).ints)).mono ?_
      rintro e w10 ⟨u10, rfl, o10, hb10⟩
      dsimp only
      have k10 := Fr.new hb10
      refine ⟨⟨k10.cell hS0.1 fun e => e, k10.cell hS0.2 fun e => e⟩, ?_⟩
      refine anyT_ready (rs := [11]) (by kernel_rfl) (by simp) ?_
      intro j hj
      obtain rfl := List.mem_singleton.1 hj
      clear hj
      refine wpOp_plain rfl rfl ?_
      go_simp
      have T10 := (HT9.out.fr (ca := ca) (cg := cg) kq (fun e => e) (fun e => e) (fun e => e) (fun e => e)).fr (ca := ca) (cg := cg) k10 (fun e => e) (fun e => e) (fun e => e) (fun e => e)
      have hz9 := HF9.out.size
      have hzq := kq.size
      have hz10 := hb10.size
      refine (putI_row pi ib ic u10 w10 (k10.obj (kq.obj HQ.out.2.2 fun e => e) fun e => e) T10.line (by omega) (own_base o10 (by omega))).mono ?_
      rintro e w11 ⟨rfl, gb, gc, gn, p11, b11, c11, n11, k11⟩
      dsimp only
      have FP : Fr (only pi) w9 w11 := (kq.wide.trans k10.wide).trans k11
      have FL : Fr (low w3.heap.size) w9 w11 := FP.mono fun g _ e => by unfold only at e; unfold low; omega
      have hz : w3.heap.size ≤ w10.heap.size := by omega
      have hPF : PF w11 w3.heap.size pa pi po (.slice (some ⟨g5, 0, none⟩) 1 cap5) bv cv nv gb gc gn :=
        ⟨FP.obj HQ.out.1 (fun e => by unfold only at e; omega), p11, FP.obj HQ.out.2.1 (fun e => by unfold only at e; omega), own_low HB.out.2.2.2 FL, own_low HB.out.1 FL, own_low HB.out.2.1 FL, own_low HB.out.2.2.1 FL, own_base b11 hz, own_base c11 hz, own_base n11 hz⟩
      have FF : Fr (fun g => g = pa ∨ g = pi ∨ g = po) w3 w11 := (HF9.out.mono fun g _ e => by omega).trans (FP.mono fun g _ e => .inr (.inl e))
      have HR := Lib.hid (And.intro hPF FF)
      clear hS0 k10 o10 hb10 T10 p11 b11 c11 n11 k11 FP FL hPF FF kq hz9 hzq hz10 hz
      refine ⟨by kernel_rfl, ?_⟩
      go_wp2
      go_roundw
      case rel => exact ⟨1, by omega, by simp, fun e => by omega, fun _ => ⟨_, _, _, _, _, _, _, HR.out⟩⟩
      case measure => simp [intOf]
    · obtain ⟨dv, bv, cv, nv, gb, gc, gn, hPF, kF⟩ := h1 rfl
      clear h0 h1 hk HUS
      have HPF := Lib.hid hPF
      have HKF := Lib.hid kF
      have hzr := kF.size
      obtain ⟨da, dc, rfl, _⟩ := own_cells hPF.dv
      obtain ⟨ba, bc, rfl, _⟩ := own_cells hPF.bv
      obtain ⟨xa, xc, rfl, _⟩ := own_cells hPF.cv
      obtain ⟨na, nc, rfl, _⟩ := own_cells hPF.nv
      obtain ⟨ea, ec, rfl, _⟩ := own_cells hPF.gb
      obtain ⟨fa, fc, rfl, _⟩ := own_cells hPF.gc
      obtain ⟨la, lc, rfl, _⟩ := own_cells hPF.gn
      simp only [List.length_cons, List.length_nil, Nat.zero_add, Nat.reduceAdd] at HPF hPF
      go_upto_region 14 with fail
      obtain ⟨wq, hq⟩ : ∃ wq, wq = wr.drew := ⟨_, rfl⟩
      have kq : Fr nothing wr wq := by rw [hq]; exact Fr.drew _
      have hS : ∀ W, Fr (only po) wq W → W.cell? ⟨pa, 0, none⟩ = some (.slice ba 1 bc) ∧ W.cell? ⟨pa, 1, none⟩ = some (.slice xa 3 xc) ∧ W.cell? ⟨pa, 2, none⟩ = some (.slice na 3 nc) := fun W k => ⟨k.cell (kq.cell (obj_cell hPF.fA 0 rfl) fun e => e) (fun e => by unfold only at e; simp only at e; omega), k.cell (kq.cell (obj_cell hPF.fA 1 rfl) fun e => e) (fun e => by unfold only at e; simp only at e; omega), k.cell (kq.cell (obj_cell hPF.fA 2 rfl) fun e => e) (fun e => by unfold only at e; simp only at e; omega)⟩
      have hS0 := hS wq (Fr.refl _ _)
      have HS := Lib.hid hS
      have u0 := kq.obj hPF.fO fun e => e
      have f0 := obj_frozen u0 1
      have c0 : wq.cell? ⟨po, 1, none⟩ = some nilS := obj_cell u0 1 rfl
      have HU0 := Lib.hid u0
      clear hS u0
      refine wp_region_anyT (fun _ W => W.cell? ⟨pa, 0, none⟩ = some (.slice ba 1 bc) ∧ W.cell? ⟨pa, 1, none⟩ = some (.slice xa 3 xc) ∧ W.cell? ⟨pa, 2, none⟩ = some (.slice na 3 nc)) (by kernel_rfl) ?_
      rw [← hq]
      clear hq
      refine anyT_take (F := fun _ W => W.cell? ⟨pa, 0, none⟩ = some (.slice ba 1 bc) ∧ W.cell? ⟨pa, 1, none⟩ = some (.slice xa 3 xc) ∧ W.cell? ⟨pa, 2, none⟩ = some (.slice na 3 nc)) (R := fun W => W.cell? ⟨pa, 0, none⟩ = some (.slice ba 1 bc) ∧ W.cell? ⟨pa, 1, none⟩ = some (.slice xa 3 xc) ∧ W.cell? ⟨pa, 2, none⟩ = some (.slice na 3 nc)) (i := 0) (v := ?_) (fun _ => true) (fun _ _ _ h => h) (fun _ h => h) rfl (by kernel_rfl) (fun _ _ _ h => h) _ _ _ _ (by kernel_rfl) (by kernel_rfl) (by kernel_rfl) (by kernel_rfl) (Or.inl ⟨by rfl, ?_⟩) hS0 ?_
      rotate_left
      · (intro w hSw; (try dsimp only at hSw); go_simp)
        try with_reducible rfl
      refine anyT_take (F := fun _ W => W.cell? ⟨pa, 0, none⟩ = some (.slice ba 1 bc) ∧ W.cell? ⟨pa, 1, none⟩ = some (.slice xa 3 xc) ∧ W.cell? ⟨pa, 2, none⟩ = some (.slice na 3 nc)) (R := fun W => W.cell? ⟨pa, 0, none⟩ = some (.slice ba 1 bc) ∧ W.cell? ⟨pa, 1, none⟩ = some (.slice xa 3 xc) ∧ W.cell? ⟨pa, 2, none⟩ = some (.slice na 3 nc)) (i := 1) (v := ?_) (fun _ => true) (fun _ _ _ h => h) (fun _ h => h) rfl (by kernel_rfl) (fun _ _ _ h => h) _ _ _ _ (by kernel_rfl) (by kernel_rfl) (by kernel_rfl) (by kernel_rfl) (Or.inl ⟨by rfl, ?_⟩) hS0 ?_
      rotate_left
      · (intro w hSw; (try dsimp only at hSw); go_simp)
        try with_reducible rfl
      refine anyT_take (F := fun _ W => W.cell? ⟨pa, 0, none⟩ = some (.slice ba 1 bc) ∧ W.cell? ⟨pa, 1, none⟩ = some (.slice xa 3 xc) ∧ W.cell? ⟨pa, 2, none⟩ = some (.slice na 3 nc)) (R := fun W => W.cell? ⟨pa, 0, none⟩ = some (.slice ba 1 bc) ∧ W.cell? ⟨pa, 1, none⟩ = some (.slice xa 3 xc) ∧ W.cell? ⟨pa, 2, none⟩ = some (.slice na 3 nc)) (i := 2) (v := ?_) (fun _ => true) (fun _ _ _ h => h) (fun _ h => h) rfl (by kernel_rfl) (fun _ _ _ h => h) _ _ _ _ (by kernel_rfl) (by kernel_rfl) (by kernel_rfl) (by kernel_rfl) (Or.inl ⟨by rfl, ?_⟩) hS0 ?_
      rotate_left
      · (intro w hSw; (try dsimp only at hSw); go_simp)
        try with_reducible rfl
      refine anyT_take (F := fun _ W => W.cell? ⟨pa, 0, none⟩ = some (.slice ba 1 bc) ∧ W.cell? ⟨pa, 1, none⟩ = some (.slice xa 3 xc) ∧ W.cell? ⟨pa, 2, none⟩ = some (.slice na 3 nc)) (R := fun W => W.cell? ⟨pa, 0, none⟩ = some (.slice ba 1 bc) ∧ W.cell? ⟨pa, 1, none⟩ = some (.slice xa 3 xc) ∧ W.cell? ⟨pa, 2, none⟩ = some (.slice na 3 nc)) (i := 3) (v := ?_) (fun _ => true) (fun _ _ _ h => h) (fun _ h => h) rfl (by kernel_rfl) (fun _ _ _ h => h) _ _ _ _ (by kernel_rfl) (by kernel_rfl) (by kernel_rfl) (by kernel_rfl) (Or.inl ⟨by rfl, ?_⟩) hS0 ?_
      rotate_left
      · (intro w hSw; (try dsimp only at hSw); go_simp)
        try with_reducible rfl
      refine anyT_take (F := fun _ W => W.cell? ⟨pa, 0, none⟩ = some (.slice ba 1 bc) ∧ W.cell? ⟨pa, 1, none⟩ = some (.slice xa 3 xc) ∧ W.cell? ⟨pa, 2, none⟩ = some (.slice na 3 nc)) (R := fun W => W.cell? ⟨pa, 0, none⟩ = some (.slice ba 1 bc) ∧ W.cell? ⟨pa, 1, none⟩ = some (.slice xa 3 xc) ∧ W.cell? ⟨pa, 2, none⟩ = some (.slice na 3 nc)) (i := 4) (v := ?_) (fun _ => true) (fun _ _ _ h => h) (fun _ h => h) rfl (by kernel_rfl) (fun _ _ _ h => h) _ _ _ _ (by kernel_rfl) (by kernel_rfl) (by kernel_rfl) (by kernel_rfl) (Or.inl ⟨by rfl, ?_⟩) hS0 ?_
      rotate_left
      · (intro w hSw; (try dsimp only at hSw); go_simp)
        try with_reducible rfl
      refine anyT_take (F := fun _ W => W.cell? ⟨pa, 0, none⟩ = some (.slice ba 1 bc) ∧ W.cell? ⟨pa, 1, none⟩ = some (.slice xa 3 xc) ∧ W.cell? ⟨pa, 2, none⟩ = some (.slice na 3 nc)) (R := fun W => W.cell? ⟨pa, 0, none⟩ = some (.slice ba 1 bc) ∧ W.cell? ⟨pa, 1, none⟩ = some (.slice xa 3 xc) ∧ W.cell? ⟨pa, 2, none⟩ = some (.slice na 3 nc)) (i := 5) (v := ?_) (fun _ => true) (fun _ _ _ h => h) (fun _ h => h) rfl (by kernel_rfl) (fun _ _ _ h => h) _ _ _ _ (by kernel_rfl) (by kernel_rfl) (by kernel_rfl) (by kernel_rfl) (Or.inl ⟨by rfl, ?_⟩) hS0 ?_
      rotate_left
      · (intro w hSw; (try dsimp only at hSw); go_simp)
        try with_reducible rfl
      refine anyT_take (F := fun _ W => W.cell? ⟨pa, 0, none⟩ = some (.slice ba 1 bc) ∧ W.cell? ⟨pa, 1, none⟩ = some (.slice xa 3 xc) ∧ W.cell? ⟨pa, 2, none⟩ = some (.slice na 3 nc)) (R := fun W => W.cell? ⟨pa, 0, none⟩ = some (.slice ba 1 bc) ∧ W.cell? ⟨pa, 1, none⟩ = some (.slice xa 3 xc) ∧ W.cell? ⟨pa, 2, none⟩ = some (.slice na 3 nc)) (i := 6) (v := ?_) (fun _ => true) (fun _ _ _ h => h) (fun _ h => h) rfl (by kernel_rfl) (fun _ _ _ h => h) _ _ _ _ (by kernel_rfl) (by kernel_rfl) (by kernel_rfl) (by kernel_rfl) (Or.inl ⟨by rfl, ?_⟩) hS0 ?_
      rotate_left
      · (intro w hSw; (try dsimp only at hSw); go_simp)
        try with_reducible rfl
      refine anyT_take (F := fun _ W => W.cell? ⟨pa, 0, none⟩ = some (.slice ba 1 bc) ∧ W.cell? ⟨pa, 1, none⟩ = some (.slice xa 3 xc) ∧ W.cell? ⟨pa, 2, none⟩ = some (.slice na 3 nc)) (R := fun W => W.cell? ⟨pa, 0, none⟩ = some (.slice ba 1 bc) ∧ W.cell? ⟨pa, 1, none⟩ = some (.slice xa 3 xc) ∧ W.cell? ⟨pa, 2, none⟩ = some (.slice na 3 nc)) (i := 7) (v := ?_) (fun _ => true) (fun _ _ _ h => h) (fun _ h => h) rfl (by kernel_rfl) (fun _ _ _ h => h) _ _ _ _ (by kernel_rfl) (by kernel_rfl) (by kernel_rfl) (by kernel_rfl) (Or.inl ⟨by rfl, ?_⟩) hS0 ?_
      rotate_left
      · (intro w hSw; (try dsimp only at hSw); go_simp)
        try with_reducible rfl
      refine anyT_take (F := fun _ W => W.cell? ⟨pa, 0, none⟩ = some (.slice ba 1 bc) ∧ W.cell? ⟨pa, 1, none⟩ = some (.slice xa 3 xc) ∧ W.cell? ⟨pa, 2, none⟩ = some (.slice na 3 nc)) (R := fun W => W.cell? ⟨pa, 0, none⟩ = some (.slice ba 1 bc) ∧ W.cell? ⟨pa, 1, none⟩ = some (.slice xa 3 xc) ∧ W.cell? ⟨pa, 2, none⟩ = some (.slice na 3 nc)) (i := 8) (v := ?_) (fun _ => true) (fun _ _ _ h => h) (fun _ h => h) rfl (by kernel_rfl) (fun _ _ _ h => h) _ _ _ _ (by kernel_rfl) (by kernel_rfl) (by kernel_rfl) (by kernel_rfl) (Or.inl ⟨by rfl, ?_⟩) hS0 ?_
      rotate_left
      · (intro w hSw; (try dsimp only at hSw); go_simp)
        try with_reducible rfl
      refine anyT_take (F := fun _ W => W.cell? ⟨pa, 0, none⟩ = some (.slice ba 1 bc) ∧ W.cell? ⟨pa, 1, none⟩ = some (.slice xa 3 xc) ∧ W.cell? ⟨pa, 2, none⟩ = some (.slice na 3 nc)) (R := fun W => W.cell? ⟨pa, 0, none⟩ = some (.slice ba 1 bc) ∧ W.cell? ⟨pa, 1, none⟩ = some (.slice xa 3 xc) ∧ W.cell? ⟨pa, 2, none⟩ = some (.slice na 3 nc)) (i := 9) (v := ?_) (fun _ => true) (fun _ _ _ h => h) (fun _ h => h) rfl (by kernel_rfl) (fun _ _ _ h => h) _ _ _ _ (by kernel_rfl) (by kernel_rfl) (by kernel_rfl) (by kernel_rfl) (Or.inl ⟨by rfl, ?_⟩) hS0 ?_
      rotate_left
      · (intro w hSw; (try dsimp only at hSw); go_simp)
        try with_reducible rfl
      refine anyT_ready (rs := [10]) (by kernel_rfl) (by simp) ?_
      intro j hj
      obtain rfl := List.mem_singleton.1 hj
      clear hj
      refine wpOp_plain rfl rfl ?_
      go_simp
      generalize hV : wq.setCell ⟨po, 1, none⟩ (.slice ba 1 bc) = v140
      have kv140 : Fr (only po) wq v140 := hV ▸ Fr.setCell wq ⟨po, 1, none⟩ _
      have u1 : v140.heap[po]? = some (outO (.slice da 1 dc) (.slice ba 1 bc) (nilS) (nilS) (nilS) (nilS) (nilS)) := hV ▸ setCell_obj HU0.out _
      have kk0 : Fr (only po) wq v140 := kv140
      have hT0 := HS.out v140 kk0
      clear hV f0 c0
      have HU1 := Lib.hid u1
      have f1 := obj_frozen u1 2
      have c1 : v140.cell? ⟨po, 2, none⟩ = some nilS := obj_cell u1 2 rfl
      clear u1
      try refine ⟨hT0, ?_⟩
      refine anyT_take (F := fun _ W => W.cell? ⟨pa, 0, none⟩ = some (.slice ba 1 bc) ∧ W.cell? ⟨pa, 1, none⟩ = some (.slice xa 3 xc) ∧ W.cell? ⟨pa, 2, none⟩ = some (.slice na 3 nc)) (R := fun W => W.cell? ⟨pa, 0, none⟩ = some (.slice ba 1 bc) ∧ W.cell? ⟨pa, 1, none⟩ = some (.slice xa 3 xc) ∧ W.cell? ⟨pa, 2, none⟩ = some (.slice na 3 nc)) (i := 11) (v := ?_) (fun _ => true) (fun _ _ _ h => h) (fun _ h => h) rfl (by kernel_rfl) (fun _ _ _ h => h) _ _ _ _ (by kernel_rfl) (by kernel_rfl) (by kernel_rfl) (by kernel_rfl) (Or.inl ⟨by rfl, ?_⟩) hT0 ?_
      rotate_left
      · (intro w hSw; (try dsimp only at hSw); go_simp)
        try with_reducible rfl
      refine anyT_ready (rs := [12]) (by kernel_rfl) (by simp) ?_
      intro j hj
      obtain rfl := List.mem_singleton.1 hj
      clear hj
      refine wpOp_plain rfl rfl ?_
      go_simp
      generalize hV : v140.setCell ⟨po, 2, none⟩ (.slice xa 3 xc) = v141
      have kv141 : Fr (only po) v140 v141 := hV ▸ Fr.setCell v140 ⟨po, 2, none⟩ _
      have u2 : v141.heap[po]? = some (outO (.slice da 1 dc) (.slice ba 1 bc) (.slice xa 3 xc) (nilS) (nilS) (nilS) (nilS)) := hV ▸ setCell_obj HU1.out _
      have kk1 : Fr (only po) wq v141 := (kk0.trans kv141)
      have hT1 := HS.out v141 kk1
      clear hV f1 c1
      have HU2 := Lib.hid u2
      have f2 := obj_frozen u2 3
      have c2 : v141.cell? ⟨po, 3, none⟩ = some nilS := obj_cell u2 3 rfl
      clear u2
      try refine ⟨hT1, ?_⟩
      refine anyT_take (F := fun _ W => W.cell? ⟨pa, 0, none⟩ = some (.slice ba 1 bc) ∧ W.cell? ⟨pa, 1, none⟩ = some (.slice xa 3 xc) ∧ W.cell? ⟨pa, 2, none⟩ = some (.slice na 3 nc)) (R := fun W => W.cell? ⟨pa, 0, none⟩ = some (.slice ba 1 bc) ∧ W.cell? ⟨pa, 1, none⟩ = some (.slice xa 3 xc) ∧ W.cell? ⟨pa, 2, none⟩ = some (.slice na 3 nc)) (i := 13) (v := ?_) (fun _ => true) (fun _ _ _ h => h) (fun _ h => h) rfl (by kernel_rfl) (fun _ _ _ h => h) _ _ _ _ (by kernel_rfl) (by kernel_rfl) (by kernel_rfl) (by kernel_rfl) (Or.inl ⟨by rfl, ?_⟩) hT1 ?_
      rotate_left
      · (intro w hSw; (try dsimp only at hSw); go_simp)
        try with_reducible rfl
      refine anyT_ready (rs := [14]) (by kernel_rfl) (by simp) ?_
      intro j hj
      obtain rfl := List.mem_singleton.1 hj
      clear hj
      refine wpOp_plain rfl rfl ?_
      go_simp
      generalize hV : v141.setCell ⟨po, 3, none⟩ (.slice na 3 nc) = v142
      have kv142 : Fr (only po) v141 v142 := hV ▸ Fr.setCell v141 ⟨po, 3, none⟩ _
      have u3 : v142.heap[po]? = some (outO (.slice da 1 dc) (.slice ba 1 bc) (.slice xa 3 xc) (.slice na 3 nc) (nilS) (nilS) (nilS)) := hV ▸ setCell_obj HU2.out _
      have kk2 : Fr (only po) wq v142 := (kk1.trans kv142)
      have hT2 := HS.out v142 kk2
      clear hV f2 c2
      have HU3 := Lib.hid u3
      clear u3
      first | refine ⟨hT2, by kernel_rfl, ?_⟩ | refine ⟨by kernel_rfl, ?_⟩
      have K14 := kq.wide.trans kk2
      have HK14 := Lib.hid (And.intro K14 HU3.out)
      clear K14 kk0 kk1 kk2 hT0 hT1 hT2 hS0 kq kv140 kv141 kv142 HU0 HU1 HU2 HU3 HS
      try go_wp2
      go_upto_region 15 with fail
      obtain ⟨wq, hq⟩ : ∃ wq, wq = v142.drew := ⟨_, rfl⟩
      have kq : Fr nothing v142 wq := by rw [hq]; exact Fr.drew _
      have hS : ∀ W, Fr (only po) wq W → W.cell? ⟨pi, 0, none⟩ = some (.slice ea 1 ec) ∧ W.cell? ⟨pi, 1, none⟩ = some (.slice fa 2 fc) ∧ W.cell? ⟨pi, 2, none⟩ = some (.slice la 2 lc) := fun W k => ⟨k.cell (kq.cell (obj_cell (HK14.out.1.obj hPF.fI (fun e => by unfold only at e; omega)) 0 rfl) fun e => e) (fun e => by unfold only at e; simp only at e; omega), k.cell (kq.cell (obj_cell (HK14.out.1.obj hPF.fI (fun e => by unfold only at e; omega)) 1 rfl) fun e => e) (fun e => by unfold only at e; simp only at e; omega), k.cell (kq.cell (obj_cell (HK14.out.1.obj hPF.fI (fun e => by unfold only at e; omega)) 2 rfl) fun e => e) (fun e => by unfold only at e; simp only at e; omega)⟩
      have hS0 := hS wq (Fr.refl _ _)
      have HS := Lib.hid hS
      have u0 := kq.obj HK14.out.2 fun e => e
      have f0 := obj_frozen u0 4
      have c0 : wq.cell? ⟨po, 4, none⟩ = some nilS := obj_cell u0 4 rfl
      have HU0 := Lib.hid u0
      clear hS u0
      refine wp_region_anyT (fun _ W => W.cell? ⟨pi, 0, none⟩ = some (.slice ea 1 ec) ∧ W.cell? ⟨pi, 1, none⟩ = some (.slice fa 2 fc) ∧ W.cell? ⟨pi, 2, none⟩ = some (.slice la 2 lc)) (by kernel_rfl) ?_
      rw [← hq]
      clear hq
      refine anyT_take (F := fun _ W => W.cell? ⟨pi, 0, none⟩ = some (.slice ea 1 ec) ∧ W.cell? ⟨pi, 1, none⟩ = some (.slice fa 2 fc) ∧ W.cell? ⟨pi, 2, none⟩ = some (.slice la 2 lc)) (R := fun W => W.cell? ⟨pi, 0, none⟩ = some (.slice ea 1 ec) ∧ W.cell? ⟨pi, 1, none⟩ = some (.slice fa 2 fc) ∧ W.cell? ⟨pi, 2, none⟩ = some (.slice la 2 lc)) (i := 0) (v := ?_) (fun _ => true) (fun _ _ _ h => h) (fun _ h => h) rfl (by kernel_rfl) (fun _ _ _ h => h) _ _ _ _ (by kernel_rfl) (by kernel_rfl) (by kernel_rfl) (by kernel_rfl) (Or.inl ⟨by rfl, ?_⟩) hS0 ?_
      rotate_left
      · (intro w hSw; (try dsimp only at hSw); go_simp)
        try with_reducible rfl
      refine anyT_take (F := fun _ W => W.cell? ⟨pi, 0, none⟩ = some (.slice ea 1 ec) ∧ W.cell? ⟨pi, 1, none⟩ = some (.slice fa 2 fc) ∧ W.cell? ⟨pi, 2, none⟩ = some (.slice la 2 lc)) (R := fun W => W.cell? ⟨pi, 0, none⟩ = some (.slice ea 1 ec) ∧ W.cell? ⟨pi, 1, none⟩ = some (.slice fa 2 fc) ∧ W.cell? ⟨pi, 2, none⟩ = some (.slice la 2 lc)) (i := 1) (v := ?_) (fun _ => true) (fun _ _ _ h => h) (fun _ h => h) rfl (by kernel_rfl) (fun _ _ _ h => h) _ _ _ _ (by kernel_rfl) (by kernel_rfl) (by kernel_rfl) (by kernel_rfl) (Or.inl ⟨by rfl, ?_⟩) hS0 ?_
      rotate_left
      · (intro w hSw; (try dsimp only at hSw); go_simp)
        try with_reducible rfl
      refine anyT_take (F := fun _ W => W.cell? ⟨pi, 0, none⟩ = some (.slice ea 1 ec) ∧ W.cell? ⟨pi, 1, none⟩ = some (.slice fa 2 fc) ∧ W.cell? ⟨pi, 2, none⟩ = some (.slice la 2 lc)) (R := fun W => W.cell? ⟨pi, 0, none⟩ = some (.slice ea 1 ec) ∧ W.cell? ⟨pi, 1, none⟩ = some (.slice fa 2 fc) ∧ W.cell? ⟨pi, 2, none⟩ = some (.slice la 2 lc)) (i := 2) (v := ?_) (fun _ => true) (fun _ _ _ h => h) (fun _ h => h) rfl (by kernel_rfl) (fun _ _ _ h => h) _ _ _ _ (by kernel_rfl) (by kernel_rfl) (by kernel_rfl) (by kernel_rfl) (Or.inl ⟨by rfl, ?_⟩) hS0 ?_
      rotate_left
      · (intro w hSw; (try dsimp only at hSw); go_simp)
        try with_reducible rfl
      refine anyT_take (F := fun _ W => W.cell? ⟨pi, 0, none⟩ = some (.slice ea 1 ec) ∧ W.cell? ⟨pi, 1, none⟩ = some (.slice fa 2 fc) ∧ W.cell? ⟨pi, 2, none⟩ = some (.slice la 2 lc)) (R := fun W => W.cell? ⟨pi, 0, none⟩ = some (.slice ea 1 ec) ∧ W.cell? ⟨pi, 1, none⟩ = some (.slice fa 2 fc) ∧ W.cell? ⟨pi, 2, none⟩ = some (.slice la 2 lc)) (i := 3) (v := ?_) (fun _ => true) (fun _ _ _ h => h) (fun _ h => h) rfl (by kernel_rfl) (fun _ _ _ h => h) _ _ _ _ (by kernel_rfl) (by kernel_rfl) (by kernel_rfl) (by kernel_rfl) (Or.inl ⟨by rfl, ?_⟩) hS0 ?_
      rotate_left
      · (intro w hSw; (try dsimp only at hSw); go_simp)
        try with_reducible rfl
      refine anyT_take (F := fun _ W => W.cell? ⟨pi, 0, none⟩ = some (.slice ea 1 ec) ∧ W.cell? ⟨pi, 1, none⟩ = some (.slice fa 2 fc) ∧ W.cell? ⟨pi, 2, none⟩ = some (.slice la 2 lc)) (R := fun W => W.cell? ⟨pi, 0, none⟩ = some (.slice ea 1 ec) ∧ W.cell? ⟨pi, 1, none⟩ = some (.slice fa 2 fc) ∧ W.cell? ⟨pi, 2, none⟩ = some (.slice la 2 lc)) (i := 4) (v := ?_) (fun _ => true) (fun _ _ _ h => h) (fun _ h => h) rfl (by kernel_rfl) (fun _ _ _ h => h) _ _ _ _ (by kernel_rfl) (by kernel_rfl) (by kernel_rfl) (by kernel_rfl) (Or.inl ⟨by rfl, ?_⟩) hS0 ?_
      rotate_left
      · (intro w hSw; (try dsimp only at hSw); go_simp)
        try with_reducible rfl
      refine anyT_take (F := fun _ W => W.cell? ⟨pi, 0, none⟩ = some (.slice ea 1 ec) ∧ W.cell? ⟨pi, 1, none⟩ = some (.slice fa 2 fc) ∧ W.cell? ⟨pi, 2, none⟩ = some (.slice la 2 lc)) (R := fun W => W.cell? ⟨pi, 0, none⟩ = some (.slice ea 1 ec) ∧ W.cell? ⟨pi, 1, none⟩ = some (.slice fa 2 fc) ∧ W.cell? ⟨pi, 2, none⟩ = some (.slice la 2 lc)) (i := 5) (v := ?_) (fun _ => true) (fun _ _ _ h => h) (fun _ h => h) rfl (by kernel_rfl) (fun _ _ _ h => h) _ _ _ _ (by kernel_rfl) (by kernel_rfl) (by kernel_rfl) (by kernel_rfl) (Or.inl ⟨by rfl, ?_⟩) hS0 ?_
      rotate_left
      · (intro w hSw; (try dsimp only at hSw); go_simp)
        try with_reducible rfl
      refine anyT_take (F := fun _ W => W.cell? ⟨pi, 0, none⟩ = some (.slice ea 1 ec) ∧ W.cell? ⟨pi, 1, none⟩ = some (.slice fa 2 fc) ∧ W.cell? ⟨pi, 2, none⟩ = some (.slice la 2 lc)) (R := fun W => W.cell? ⟨pi, 0, none⟩ = some (.slice ea 1 ec) ∧ W.cell? ⟨pi, 1, none⟩ = some (.slice fa 2 fc) ∧ W.cell? ⟨pi, 2, none⟩ = some (.slice la 2 lc)) (i := 6) (v := ?_) (fun _ => true) (fun _ _ _ h => h) (fun _ h => h) rfl (by kernel_rfl) (fun _ _ _ h => h) _ _ _ _ (by kernel_rfl) (by kernel_rfl) (by kernel_rfl) (by kernel_rfl) (Or.inl ⟨by rfl, ?_⟩) hS0 ?_
      rotate_left
      · (intro w hSw; (try dsimp only at hSw); go_simp)
        try with_reducible rfl
      refine anyT_take (F := fun _ W => W.cell? ⟨pi, 0, none⟩ = some (.slice ea 1 ec) ∧ W.cell? ⟨pi, 1, none⟩ = some (.slice fa 2 fc) ∧ W.cell? ⟨pi, 2, none⟩ = some (.slice la 2 lc)) (R := fun W => W.cell? ⟨pi, 0, none⟩ = some (.slice ea 1 ec) ∧ W.cell? ⟨pi, 1, none⟩ = some (.slice fa 2 fc) ∧ W.cell? ⟨pi, 2, none⟩ = some (.slice la 2 lc)) (i := 7) (v := ?_) (fun _ => true) (fun _ _ _ h => h) (fun _ h => h) rfl (by kernel_rfl) (fun _ _ _ h => h) _ _ _ _ (by kernel_rfl) (by kernel_rfl) (by kernel_rfl) (by kernel_rfl) (Or.inl ⟨by rfl, ?_⟩) hS0 ?_
      rotate_left
      · (intro w hSw; (try dsimp only at hSw); go_simp)
        try with_reducible rfl
      refine anyT_take (F := fun _ W => W.cell? ⟨pi, 0, none⟩ = some (.slice ea 1 ec) ∧ W.cell? ⟨pi, 1, none⟩ = some (.slice fa 2 fc) ∧ W.cell? ⟨pi, 2, none⟩ = some (.slice la 2 lc)) (R := fun W => W.cell? ⟨pi, 0, none⟩ = some (.slice ea 1 ec) ∧ W.cell? ⟨pi, 1, none⟩ = some (.slice fa 2 fc) ∧ W.cell? ⟨pi, 2, none⟩ = some (.slice la 2 lc)) (i := 8) (v := ?_) (fun _ => true) (fun _ _ _ h => h) (fun _ h => h) rfl (by kernel_rfl) (fun _ _ _ h => h) _ _ _ _ (by kernel_rfl) (by kernel_rfl) (by kernel_rfl) (by kernel_rfl) (Or.inl ⟨by rfl, ?_⟩) hS0 ?_
      rotate_left
      · (intro w hSw; (try dsimp only at hSw); go_simp)
        try with_reducible rfl
      refine anyT_take (F := fun _ W => W.cell? ⟨pi, 0, none⟩ = some (.slice ea 1 ec) ∧ W.cell? ⟨pi, 1, none⟩ = some (.slice fa 2 fc) ∧ W.cell? ⟨pi, 2, none⟩ = some (.slice la 2 lc)) (R := fun W => W.cell? ⟨pi, 0, none⟩ = some (.slice ea 1 ec) ∧ W.cell? ⟨pi, 1, none⟩ = some (.slice fa 2 fc) ∧ W.cell? ⟨pi, 2, none⟩ = some (.slice la 2 lc)) (i := 9) (v := ?_) (fun _ => true) (fun _ _ _ h => h) (fun _ h => h) rfl (by kernel_rfl) (fun _ _ _ h => h) _ _ _ _ (by kernel_rfl) (by kernel_rfl) (by kernel_rfl) (by kernel_rfl) (Or.inl ⟨by rfl, ?_⟩) hS0 ?_
      rotate_left
      · (intro w hSw; (try dsimp only at hSw); go_simp)
        try with_reducible rfl
      refine anyT_ready (rs := [10]) (by kernel_rfl) (by simp) ?_
      intro j hj
      obtain rfl := List.mem_singleton.1 hj
      clear hj
      refine wpOp_plain rfl rfl ?_
      go_simp
      generalize hV : wq.setCell ⟨po, 4, none⟩ (.slice ea 1 ec) = v150
      have kv150 : Fr (only po) wq v150 := hV ▸ Fr.setCell wq ⟨po, 4, none⟩ _
      have u1 : v150.heap[po]? = some (outO (.slice da 1 dc) (.slice ba 1 bc) (.slice xa 3 xc) (.slice na 3 nc) (.slice ea 1 ec) (nilS) (nilS)) := hV ▸ setCell_obj HU0.out _
      have kk0 : Fr (only po) wq v150 := kv150
      have hT0 := HS.out v150 kk0
      clear hV f0 c0
      have HU1 := Lib.hid u1
      have f1 := obj_frozen u1 5
      have c1 : v150.cell? ⟨po, 5, none⟩ = some nilS := obj_cell u1 5 rfl
      clear u1
      try refine ⟨hT0, ?_⟩
      refine anyT_take (F := fun _ W => W.cell? ⟨pi, 0, none⟩ = some (.slice ea 1 ec) ∧ W.cell? ⟨pi, 1, none⟩ = some (.slice fa 2 fc) ∧ W.cell? ⟨pi, 2, none⟩ = some (.slice la 2 lc)) (R := fun W => W.cell? ⟨pi, 0, none⟩ = some (.slice ea 1 ec) ∧ W.cell? ⟨pi, 1, none⟩ = some (.slice fa 2 fc) ∧ W.cell? ⟨pi, 2, none⟩ = some (.slice la 2 lc)) (i := 11) (v := ?_) (fun _ => true) (fun _ _ _ h => h) (fun _ h => h) rfl (by kernel_rfl) (fun _ _ _ h => h) _ _ _ _ (by kernel_rfl) (by kernel_rfl) (by kernel_rfl) (by kernel_rfl) (Or.inl ⟨by rfl, ?_⟩) hT0 ?_
      rotate_left
      · (intro w hSw; (try dsimp only at hSw); go_simp)
        try with_reducible rfl
      refine anyT_ready (rs := [12]) (by kernel_rfl) (by simp) ?_
      intro j hj
      obtain rfl := List.mem_singleton.1 hj
      clear hj
      refine wpOp_plain rfl rfl ?_
      go_simp
      generalize hV : v150.setCell ⟨po, 5, none⟩ (.slice fa 2 fc) = v151
      have kv151 : Fr (only po) v150 v151 := hV ▸ Fr.setCell v150 ⟨po, 5, none⟩ _
      have u2 : v151.heap[po]? = some (outO (.slice da 1 dc) (.slice ba 1 bc) (.slice xa 3 xc) (.slice na 3 nc) (.slice ea 1 ec) (.slice fa 2 fc) (nilS)) := hV ▸ setCell_obj HU1.out _
      have kk1 : Fr (only po) wq v151 := (kk0.trans kv151)
      have hT1 := HS.out v151 kk1
      clear hV f1 c1
      have HU2 := Lib.hid u2
      have f2 := obj_frozen u2 6
      have c2 : v151.cell? ⟨po, 6, none⟩ = some nilS := obj_cell u2 6 rfl
      clear u2
      try refine ⟨hT1, ?_⟩
      refine anyT_take (F := fun _ W => W.cell? ⟨pi, 0, none⟩ = some (.slice ea 1 ec) ∧ W.cell? ⟨pi, 1, none⟩ = some (.slice fa 2 fc) ∧ W.cell? ⟨pi, 2, none⟩ = some (.slice la 2 lc)) (R := fun W => W.cell? ⟨pi, 0, none⟩ = some (.slice ea 1 ec) ∧ W.cell? ⟨pi, 1, none⟩ = some (.slice fa 2 fc) ∧ W.cell? ⟨pi, 2, none⟩ = some (.slice la 2 lc)) (i := 13) (v := ?_) (fun _ => true) (fun _ _ _ h => h) (fun _ h => h) rfl (by kernel_rfl) (fun _ _ _ h => h) _ _ _ _ (by kernel_rfl) (by kernel_rfl) (by kernel_rfl) (by kernel_rfl) (Or.inl ⟨by rfl, ?_⟩) hT1 ?_
      rotate_left
      · (intro w hSw; (try dsimp only at hSw); go_simp)
        try with_reducible rfl
      refine anyT_ready (rs := [14]) (by kernel_rfl) (by simp) ?_
      intro j hj
      obtain rfl := List.mem_singleton.1 hj
      clear hj
      refine wpOp_plain rfl rfl ?_
      go_simp
      generalize hV : v151.setCell ⟨po, 6, none⟩ (.slice la 2 lc) = v152
      have kv152 : Fr (only po) v151 v152 := hV ▸ Fr.setCell v151 ⟨po, 6, none⟩ _
      have u3 : v152.heap[po]? = some (outO (.slice da 1 dc) (.slice ba 1 bc) (.slice xa 3 xc) (.slice na 3 nc) (.slice ea 1 ec) (.slice fa 2 fc) (.slice la 2 lc)) := hV ▸ setCell_obj HU2.out _
      have kk2 : Fr (only po) wq v152 := (kk1.trans kv152)
      have hT2 := HS.out v152 kk2
      clear hV f2 c2
      have HU3 := Lib.hid u3
      clear u3
      first | refine ⟨hT2, by kernel_rfl, ?_⟩ | refine ⟨by kernel_rfl, ?_⟩
      have K15 := kq.wide.trans kk2
      have HK15 := Lib.hid (And.intro K15 HU3.out)
      clear K15 kk0 kk1 kk2 hT0 hT1 hT2 hS0 kq kv150 kv151 kv152 HU0 HU1 HU2 HU3 HS
      have hb0 := HK15.out.1.obj (HK14.out.1.obj (HKF.out.obj HRB.out (fun e => by omega)) (fun e => by unfold only at e; omega)) (fun e => by unfold only at e; omega)
      have FK := (HK14.out.1.trans HK15.out.1)
      have HFK := Lib.hid FK
      have hb1 : v152.heap[w.heap.size + 1 + 1]? = some (outO nilS nilS nilS nilS nilS nilS nilS) := hb0
      have x0 : v152.cell? ⟨po, 0, none⟩ = some (.slice da 1 dc) := obj_cell HK15.out.2 0 rfl
      have y0 : v152.cell? ⟨w.heap.size + 1 + 1, 0, none⟩ = some nilS := obj_cell hb1 0 rfl
      have f0 := obj_frozen hb1 0
      have x1 : v152.cell? ⟨po, 1, none⟩ = some (.slice ba 1 bc) := obj_cell HK15.out.2 1 rfl
      have y1 : v152.cell? ⟨w.heap.size + 1 + 1, 1, none⟩ = some nilS := obj_cell hb1 1 rfl
      have f1 := obj_frozen hb1 1
      have x2 : v152.cell? ⟨po, 2, none⟩ = some (.slice xa 3 xc) := obj_cell HK15.out.2 2 rfl
      have y2 : v152.cell? ⟨w.heap.size + 1 + 1, 2, none⟩ = some nilS := obj_cell hb1 2 rfl
      have f2 := obj_frozen hb1 2
      have x3 : v152.cell? ⟨po, 3, none⟩ = some (.slice na 3 nc) := obj_cell HK15.out.2 3 rfl
      have y3 : v152.cell? ⟨w.heap.size + 1 + 1, 3, none⟩ = some nilS := obj_cell hb1 3 rfl
      have f3 := obj_frozen hb1 3
      have x4 : v152.cell? ⟨po, 4, none⟩ = some (.slice ea 1 ec) := obj_cell HK15.out.2 4 rfl
      have y4 : v152.cell? ⟨w.heap.size + 1 + 1, 4, none⟩ = some nilS := obj_cell hb1 4 rfl
      have f4 := obj_frozen hb1 4
      have x5 : v152.cell? ⟨po, 5, none⟩ = some (.slice fa 2 fc) := obj_cell HK15.out.2 5 rfl
      have y5 : v152.cell? ⟨w.heap.size + 1 + 1, 5, none⟩ = some nilS := obj_cell hb1 5 rfl
      have f5 := obj_frozen hb1 5
      have x6 : v152.cell? ⟨po, 6, none⟩ = some (.slice la 2 lc) := obj_cell HK15.out.2 6 rfl
      have y6 : v152.cell? ⟨w.heap.size + 1 + 1, 6, none⟩ = some nilS := obj_cell hb1 6 rfl
      have f6 := obj_frozen hb1 6
      clear FK hb0 hb1 kF hPF
      go_wp2
      refine at_world (Q := bodyPost _ _ _ _ _) (F := fun Y => (Y.cell? ⟨w.heap.size + 1 + 1, 0, none⟩ = some (.slice da 1 dc) ∧ Y.cell? ⟨w.heap.size + 1 + 1, 1, none⟩ = some (.slice ba 1 bc) ∧ Y.cell? ⟨w.heap.size + 1 + 1, 2, none⟩ = some (.slice xa 3 xc) ∧ Y.cell? ⟨w.heap.size + 1 + 1, 3, none⟩ = some (.slice na 3 nc) ∧ Y.cell? ⟨w.heap.size + 1 + 1, 4, none⟩ = some (.slice ea 1 ec) ∧ Y.cell? ⟨w.heap.size + 1 + 1, 5, none⟩ = some (.slice fa 2 fc) ∧ Y.cell? ⟨w.heap.size + 1 + 1, 6, none⟩ = some (.slice la 2 lc)) ∧ Fr (only (w.heap.size + 1 + 1)) v152 Y) ?_ ?_
      · refine ⟨⟨?_, ?_, ?_, ?_, ?_, ?_, ?_⟩, ?_⟩
        · simp [go_sem, y0]
        · simp [go_sem, y1]
        · simp [go_sem, y2]
        · simp [go_sem, y3]
        · simp [go_sem, y4]
        · simp [go_sem, y5]
        · simp [go_sem, y6]
        · repeat (first | with_reducible exact Fr.refl _ _ | refine Fr.trans ?_ (Fr.setCell' _ _ rfl))
      · rintro Y ⟨⟨r0, r1, r2, r3, r4, r5, r6⟩, hY⟩
        refine bodyPost_ret (by simp [results, Try.results24, go_sem, r0, r1, r2, r3, r4, r5, r6]; try rfl) rfl ?_
        have LL : Fr (low w3.heap.size) wr Y := (HFK.out.mono fun g _ e => by unfold only at e; unfold low; omega).trans (hY.mono fun g _ e => by unfold only at e; unfold low; omega)
        have hall : Below w.heap.size w Y := (((HF3.out.wide.trans HKF.out).trans (HFK.out.mono fun g _ e => .inr (.inr e))).mono (ch' := fun g => w.heap.size ≤ g) fun g _ e => by omega).trans (hY.mono (ch' := fun g => w.heap.size ≤ g) fun g _ e => by unfold only at e; omega) |>.below (Nat.le_refl _) fun _ e => e
        exact ⟨_, _, _, _, _, _, _, rfl, ⟨own_base (own_low HPF.out.dv LL) (Nat.zero_le _), own_base (own_low HPF.out.bv LL) (Nat.zero_le _), own_base (own_low HPF.out.cv LL) (Nat.zero_le _), own_base (own_low HPF.out.nv LL) (Nat.zero_le _), own_base (own_low HPF.out.gb LL) (Nat.zero_le _), own_base (own_low HPF.out.gc LL) (Nat.zero_le _), own_base (own_low HPF.out.gn LL) (Nat.zero_le _)⟩, hall⟩
end Go.Proofs.Ytehaoiimhgkckaa
