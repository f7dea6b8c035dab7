/-
  SymbolsRight: the walk.
-/
import Derived.Test.YtehaoiimhgkckaaMakeK
import Derived.Test.YtehaoiimhgkckaaRef14d
import Derived.Test.YtehaoiimhgkckaaParts
namespace Go.Proofs.Ytehaoiimhgkckaa
open Go.RowKit
set_option maxHeartbeats 400000

set_option maxRecDepth 100000 in
set_option maxHeartbeats 2000000 in
theorem symRight_any (G : Gram) (v : Value) (w : World) (h : IsGram w v G) (hf : Fits G) : Calls Try.prog 5 #[v] w fun e w' => e = .returned (.bool true) ∧ Below w.heap.size w w' := by
  obtain ⟨_, vs, vp, rfl, hs, hp⟩ := id h
  obtain ⟨sa, sc, rfl, _⟩ := Rows'.parts hs
  obtain ⟨pa, pc, rfl, _⟩ := Rows'.parts hp
  clear hs hp
  obtain ⟨w1, hw1⟩ : ∃ w1, w1 = w.alloc (.cells #[.int .i64 G.terms, .slice sa G.syms.length sc, .slice pa G.prods.length pc] 39 (0, 0)) := ⟨_, rfl⟩
  have hfr : Fr nothing w w1 := by rw [hw1]; exact Fr.alloc _ _
  have hbx : w1.heap[w.heap.size]? = some (.cells #[.int .i64 G.terms, .slice sa G.syms.length sc, .slice pa G.prods.length pc] 39 (0, 0)) := by rw [hw1]; exact alloc_obj w _
  have b0 : w1.cell? ⟨w.heap.size, 0, none⟩ = some (.int .i64 G.terms) := obj_cell hbx 0 rfl
  have b1 : w1.cell? ⟨w.heap.size, 1, none⟩ = some (.slice sa G.syms.length sc) := obj_cell hbx 1 rfl
  have b2 : w1.cell? ⟨w.heap.size, 2, none⟩ = some (.slice pa G.prods.length pc) := obj_cell hbx 2 rfl
  have h1 := h.fr hfr
  have HP := Lib.hid (grammarOf_any G 3000 _ w1 h1 hf (by omega))
  have HW := Lib.hid hw1
  have HF := Lib.hid (And.intro hfr (And.intro hbx h1))
  by_cases hgt : (3000 : Int) < partsG G 3000
  · have hd : decide ((3000 : Int) < partsG G 3000) = true := decide_eq_true hgt
    clear h hw1 hfr hbx h1 hgt
    generalize partsG G 3000 = n at *
    go_enter Try.func5, Try.ntmps5
    go_upto_region 1 with fail
    rw [← HW.out]
    go_wp2_with (first | (go_at_call 15; refine HP.out.mono ?_; rintro e w2 ⟨rfl, hb2⟩) | (go_at_call 16; refine (awake_any _).mono ?_; rintro e w3 ⟨rfl, hb3⟩))
    go_ret
    exact ⟨rfl, (HF.out.1.trans ((Fr.new hb2).trans (Fr.new hb3))).below_new⟩
  · have hd : decide ((3000 : Int) < partsG G 3000) = false := decide_eq_false hgt
    have hle : partsG G 3000 ≤ 3000 := by omega
    obtain ⟨hl, _⟩ := partsG_len hle
    have HLG := Lib.hid fun (W : World) (hW : Fr nothing w1 W) => lentGrammar_any _ G W (h1.fr hW) (by omega) (by omega)
    clear h hw1 hfr hbx h1 hgt hle hl
    generalize partsG G 3000 = n at *
    go_enter Try.func5, Try.ntmps5
    go_upto_region 1 with fail
    rw [← HW.out]
    go_upto_region 4 with (first | (go_at_call 15; refine HP.out.mono ?_; rintro e w2 ⟨rfl, hb2⟩; have c0 := (Fr.new hb2).cell b0 (fun e => e); have c1 := (Fr.new hb2).cell b1 (fun e => e); have c2 := (Fr.new hb2).cell b2 (fun e => e)) | (go_at_call 17; refine (HLG.out _ (Fr.new hb2)).mono ?_; rintro e w3 ⟨g1, d1, g2, d2, rfl, hlent, hb3⟩))
    have hF3 : Fr nothing w1 w3 := (Fr.new hb2).trans (Fr.new hb3)
    refine wp_atW (F := fun W => Fr nothing w3 W ∧ W.heap[w3.heap.size]? = some (.cells #[.int .i64 G.terms, .slice (some ⟨g1, 0, none⟩) G.syms.length d1, .slice (some ⟨g2, 0, none⟩) G.prods.length d2] 39 (0, 0))) ⟨Fr.alloc _ _, alloc_obj _ _⟩ ?_
    rintro W ⟨hW, oI⟩
    have hne := after_ne W
    have oG := (hF3.trans hW).obj HF.out.2.1 fun e => e
    have hl := hlent.fr hW
    have hg := HF.out.2.2.fr (hF3.trans hW)
    have i0 := after_obj oI 0 (v := .int .i64 G.terms) rfl
    have i1 := after_obj oI 1 (v := .slice (some ⟨g1, 0, none⟩) G.syms.length d1) rfl
    have i2 := after_obj oI 2 (v := .slice (some ⟨g2, 0, none⟩) G.prods.length d2) rfl
    have j0 := after_obj oG 0 (v := .int .i64 G.terms) rfl
    have j1 := after_obj oG 1 (v := .slice sa G.syms.length sc) rfl
    have j2 := after_obj oG 2 (v := .slice pa G.prods.length pc) rfl
    have H1 := Lib.hid fun p : After W => after_call p (right_gram G _ p.w (hl.gram.fr (Fr.new p.ok)))
    have H2 := Lib.hid fun p : After W => after_call p (right14_gram G _ p.w (hg.fr (Fr.new p.ok)))
    have H3 := Lib.hid fun p : After W => after_call p (keptGrammar_any _ _ _ G p.w (hl.fr (Fr.new p.ok)) (hg.fr (Fr.new p.ok)))
    have H4 := Lib.hid fun p : After W => after_call p (awake_any p.w)
    have HB := Lib.hid ((HF.out.1.trans hF3).trans hW)
    clear hW oI oG hl hg hF3 hlent b0 b1 b2 HLG HP c0 c1 c2 hb2 hb3
    generalize rightG G = bb at *
    have hbb : (bb == bb) = true := by cases bb <;> rfl
    refine wp_region_after W (by kernel_rfl) (by kernel_rfl) (Below.refl _ _) ?_
    repeat (go_big_quiet_step (first | with_reducible exact H1.out _ | with_reducible exact H2.out _ | with_reducible exact H3.out _ | with_reducible exact H4.out _))
    refine wpQuiet_nil ?_
    intro _ hw'
    obtain ⟨q, hw''⟩ := hw'
    subst hw''
    go_wp2
    go_ret
    exact ⟨rfl, (HB.out.trans (Fr.new q.ok)).below_new⟩
end Go.Proofs.Ytehaoiimhgkckaa
