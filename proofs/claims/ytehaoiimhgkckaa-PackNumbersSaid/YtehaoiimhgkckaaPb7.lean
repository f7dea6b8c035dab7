/-
  PackSays: whether packed rows are too many.
  PackSays: the walk.
  What a call is handed, read as plain Lean: packed rows.
-/
import Derived.Test.YtehaoiimhgkckaaPk10
import Derived.Test.YtehaoiimhgkckaaPk1
import Derived.Test.YtehaoiimhgkckaaPb6
import Derived.Test.YtehaoiimhgkckaaRead
namespace Go.Proofs.Ytehaoiimhgkckaa
open Go.RowKit
set_option maxHeartbeats 400000

def sizeP (P : Pk) : Int := (P.dflt.length : Int) + P.base.length + P.check.length + P.next.length + P.gobase.length + P.gocheck.length + P.gonext.length
set_option maxRecDepth 100000 in
set_option maxHeartbeats 2000000 in
theorem great24_any (P : Pk) (dv bv cv nv gb gc gn : Value) (w : World) (h : PkV w dv bv cv nv gb gc gn P) :
    Calls Try.prog 7 #[.agg #[dv, bv, cv, nv, gb, gc, gn]] w fun e w' => e = .returned (.bool (decide (3000 < sizeP P))) ∧ Below w.heap.size w w' := by
  obtain ⟨_, m0, a0, c0, rfl, _⟩ := id h.dflt
  obtain ⟨_, m1, a1, c1, rfl, _⟩ := id h.base
  obtain ⟨_, m2, a2, c2, rfl, _⟩ := id h.check
  obtain ⟨a3, c3, rfl, _, _, m3⟩ := Rows'.parts h.next
  obtain ⟨_, m4, a4, c4, rfl, _⟩ := id h.gobase
  obtain ⟨_, m5, a5, c5, rfl, _⟩ := id h.gocheck
  obtain ⟨_, m6, a6, c6, rfl, _⟩ := id h.gonext
  clear h
  unfold sizeP
  generalize P.dflt.length = n0 at *
  generalize P.base.length = n1 at *
  generalize P.check.length = n2 at *
  generalize P.next.length = n3 at *
  generalize P.gobase.length = n4 at *
  generalize P.gocheck.length = n5 at *
  generalize P.gonext.length = n6 at *
  have e1 : IntKind.i64.wrap ((n0 : Int) + n1) = (n0 : Int) + n1 := IntWalk.i64_in _ (by omega)
  have e2 : IntKind.i64.wrap ((n0 : Int) + n1 + n2) = (n0 : Int) + n1 + n2 := IntWalk.i64_in _ (by omega)
  have e3 : IntKind.i64.wrap ((n0 : Int) + n1 + n2 + n3) = (n0 : Int) + n1 + n2 + n3 := IntWalk.i64_in _ (by omega)
  have e4 : IntKind.i64.wrap ((n0 : Int) + n1 + n2 + n3 + n4) = (n0 : Int) + n1 + n2 + n3 + n4 := IntWalk.i64_in _ (by omega)
  have e5 : IntKind.i64.wrap ((n0 : Int) + n1 + n2 + n3 + n4 + n5) = (n0 : Int) + n1 + n2 + n3 + n4 + n5 := IntWalk.i64_in _ (by omega)
  have e6 : IntKind.i64.wrap ((n0 : Int) + n1 + n2 + n3 + n4 + n5 + n6) = (n0 : Int) + n1 + n2 + n3 + n4 + n5 + n6 := IntWalk.i64_in _ (by omega)
  generalize e7 : decide ((3000 : Int) < (n0 : Int) + n1 + n2 + n3 + n4 + n5 + n6) = bb
  clear m0 m1 m2 m3 m4 m5 m6
  go_enter Try.func7, Try.ntmps7
  go_wp2
  go_ret
  exact ⟨rfl, (Below.refl _ _).alloc (Nat.le_refl _) _⟩
end Go.Proofs.Ytehaoiimhgkckaa
namespace Go.Proofs.Ytehaoiimhgkckaa
open Go.RowKit
set_option maxHeartbeats 400000

set_option maxRecDepth 100000 in
set_option maxHeartbeats 4000000 in
theorem packSays_any (P : Pk) (dv bv cv nv gb gc gn : Value) (state term nonterm : Int) (w : World) (h : PkV w dv bv cv nv gb gc gn P) (hs : i64 state) (ht : i64 term) (hn : i64 nonterm) :
    Calls Try.prog 3 #[.agg #[dv, bv, cv, nv, gb, gc, gn], .int .i64 state, .int .i64 term, .int .i64 nonterm] w fun e w' => e = .returned (.bool true) ∧ Below w.heap.size w w' := by
  have hG := fun (W : World) (hW : Fr nothing w W) => great24_any P dv bv cv nv gb gc gn W (h.fr hW)
  obtain ⟨_, m0, a0, c0, rfl, _⟩ := id h.dflt
  obtain ⟨_, m1, a1, c1, rfl, _⟩ := id h.base
  obtain ⟨_, m2, a2, c2, rfl, _⟩ := id h.check
  obtain ⟨a3, c3, rfl, _, _, m3⟩ := Rows'.parts h.next
  obtain ⟨_, m4, a4, c4, rfl, _⟩ := id h.gobase
  obtain ⟨_, m5, a5, c5, rfl, _⟩ := id h.gocheck
  obtain ⟨_, m6, a6, c6, rfl, _⟩ := id h.gonext
  obtain ⟨w1, hw1⟩ : ∃ w1, w1 = w.alloc (outO (.slice a0 P.dflt.length c0) (.slice a1 P.base.length c1) (.slice a2 P.check.length c2) (.slice a3 P.next.length c3) (.slice a4 P.gobase.length c4) (.slice a5 P.gocheck.length c5) (.slice a6 P.gonext.length c6)) := ⟨_, rfl⟩
  have hfr : Fr nothing w w1 := by rw [hw1]; exact Fr.alloc _ _
  have hbx : w1.heap[w.heap.size]? = some (outO (.slice a0 P.dflt.length c0) (.slice a1 P.base.length c1) (.slice a2 P.check.length c2) (.slice a3 P.next.length c3) (.slice a4 P.gobase.length c4) (.slice a5 P.gocheck.length c5) (.slice a6 P.gonext.length c6)) := by rw [hw1]; exact alloc_obj w _
  have b0 := obj_cell hbx 0 (v := .slice a0 P.dflt.length c0) rfl
  have b1 := obj_cell hbx 1 (v := .slice a1 P.base.length c1) rfl
  have b2 := obj_cell hbx 2 (v := .slice a2 P.check.length c2) rfl
  have b3 := obj_cell hbx 3 (v := .slice a3 P.next.length c3) rfl
  have b4 := obj_cell hbx 4 (v := .slice a4 P.gobase.length c4) rfl
  have b5 := obj_cell hbx 5 (v := .slice a5 P.gocheck.length c5) rfl
  have b6 := obj_cell hbx 6 (v := .slice a6 P.gonext.length c6) rfl
  have HGR := Lib.hid (hG w1 hfr)
  have HW := Lib.hid hw1
  have HF := Lib.hid (And.intro hfr (And.intro hbx h))
  have hout : ∀ x0 x1 x2 x3 x4 x5 x6 : Value, (Obj.cells #[x0, x1, x2, x3, x4, x5, x6] 25 (0, 0)) = outO x0 x1 x2 x3 x4 x5 x6 := fun _ _ _ _ _ _ _ => rfl
  have HOUT := Lib.hid hout
  by_cases hgt : (3000 : Int) < sizeP P
  · have hd : decide ((3000 : Int) < sizeP P) = true := decide_eq_true hgt
    rw [hd] at HGR
    clear h hw1 hfr hbx hgt hG hd hout
    go_enter Try.func3, Try.ntmps3
    go_upto_region 1 with fail
    rw [HOUT.out, ← HW.out]
    go_wp2_with (first | (go_at_call 7; refine HGR.out.mono ?_; rintro e w2 ⟨rfl, hb2⟩) | (go_at_call 8; refine (awake24_any _).mono ?_; rintro e w3 ⟨rfl, hb3⟩))
    go_ret
    exact ⟨rfl, (HF.out.1.trans ((Fr.new hb2).trans (Fr.new hb3))).below_new⟩
  · have hd : decide ((3000 : Int) < sizeP P) = false := decide_eq_false hgt
    rw [hd] at HGR
    have hlen : P.next.length ≤ 1000000000000 := by unfold sizeP at hgt; omega
    have HLP := Lib.hid fun (W : World) (hW : Fr nothing w W) => lentPacked_any _ _ _ _ _ _ _ P W (h.fr hW) hlen
    have HH := Lib.hid (And.intro h (And.intro hs (And.intro ht hn)))
    clear h hw1 hbx hgt hlen hG hd hfr hout
    go_enter Try.func3, Try.ntmps3
    go_upto_region 1 with fail
    rw [HOUT.out, ← HW.out]
    go_upto_region 4 with (first | (go_at_call 7; refine HGR.out.mono ?_; rintro e w2 ⟨rfl, hb2⟩; have k2 := Fr.new hb2; have d0 := k2.cell b0 (fun e => e); have d1 := k2.cell b1 (fun e => e); have d2 := k2.cell b2 (fun e => e); have d3 := k2.cell b3 (fun e => e); have d4 := k2.cell b4 (fun e => e); have d5 := k2.cell b5 (fun e => e); have d6 := k2.cell b6 (fun e => e)) | (go_at_call 9; refine (HLP.out w2 (HF.out.1.trans k2)).mono ?_; rintro e w3 ⟨l0, l1, l2, l3, l4, l5, l6, rfl, hlent, hb3⟩; obtain ⟨q0, r0, rfl, _⟩ := id hlent.dflt; obtain ⟨q1, r1, rfl, _⟩ := id hlent.base; obtain ⟨q2, r2, rfl, _⟩ := id hlent.check; obtain ⟨q3, r3, rfl, _⟩ := id hlent.next; obtain ⟨q4, r4, rfl, _⟩ := id hlent.gobase; obtain ⟨q5, r5, rfl, _⟩ := id hlent.gocheck; obtain ⟨q6, r6, rfl, _⟩ := id hlent.gonext))
    have hF3 : Fr nothing w1 w3 := k2.trans (Fr.new hb3)
    rw [HOUT.out]
    refine wp_atW (F := fun W => Fr nothing w3 W ∧ W.heap[w3.heap.size]? = some (outO (.slice (some ⟨q0, 0, none⟩) P.dflt.length r0) (.slice (some ⟨q1, 0, none⟩) P.base.length r1) (.slice (some ⟨q2, 0, none⟩) P.check.length r2) (.slice (some ⟨q3, 0, none⟩) P.next.length r3) (.slice (some ⟨q4, 0, none⟩) P.gobase.length r4) (.slice (some ⟨q5, 0, none⟩) P.gocheck.length r5) (.slice (some ⟨q6, 0, none⟩) P.gonext.length r6))) ⟨Fr.alloc _ _, alloc_obj _ _⟩ ?_
    rintro W ⟨hW, oI⟩
    have hne := after_ne W
    have oG := (hF3.trans hW).obj HF.out.2.1 fun e => e
    have hl := hlent.wide (ch := nothing) hW fun _ _ e => e
    have hg := HF.out.2.2.fr ((HF.out.1.trans hF3).trans hW)
    have i0 := after_obj oI 0 (v := .slice (some ⟨q0, 0, none⟩) P.dflt.length r0) rfl
    have i1 := after_obj oI 1 (v := .slice (some ⟨q1, 0, none⟩) P.base.length r1) rfl
    have i2 := after_obj oI 2 (v := .slice (some ⟨q2, 0, none⟩) P.check.length r2) rfl
    have i3 := after_obj oI 3 (v := .slice (some ⟨q3, 0, none⟩) P.next.length r3) rfl
    have i4 := after_obj oI 4 (v := .slice (some ⟨q4, 0, none⟩) P.gobase.length r4) rfl
    have i5 := after_obj oI 5 (v := .slice (some ⟨q5, 0, none⟩) P.gocheck.length r5) rfl
    have i6 := after_obj oI 6 (v := .slice (some ⟨q6, 0, none⟩) P.gonext.length r6) rfl
    have j0 := after_obj oG 0 (v := .slice a0 P.dflt.length c0) rfl
    have j1 := after_obj oG 1 (v := .slice a1 P.base.length c1) rfl
    have j2 := after_obj oG 2 (v := .slice a2 P.check.length c2) rfl
    have j3 := after_obj oG 3 (v := .slice a3 P.next.length c3) rfl
    have j4 := after_obj oG 4 (v := .slice a4 P.gobase.length c4) rfl
    have j5 := after_obj oG 5 (v := .slice a5 P.gocheck.length c5) rfl
    have j6 := after_obj oG 6 (v := .slice a6 P.gonext.length c6) rfl
    have hlp := fun p : After W => hl.wide (ch := nothing) (Fr.new p.ok) fun _ _ e => e
    have hgp := fun p : After W => hg.fr (Fr.new p.ok)
    have H1 := Lib.hid fun p : After W => after_call p (packAct_any P _ _ _ _ _ _ _ state term p.w ((hlp p).pkv HH.out.1) HH.out.2.1 HH.out.2.2.1)
    have H2 := Lib.hid fun p : After W => after_call p (refAct_any P _ _ _ _ _ _ _ state term p.w (hgp p) HH.out.2.1 HH.out.2.2.1)
    have H3 := Lib.hid fun p : After W => after_call p (packGoto_any P _ _ _ _ _ _ _ state nonterm p.w ((hlp p).pkv HH.out.1) HH.out.2.1 HH.out.2.2.2)
    have H4 := Lib.hid fun p : After W => after_call p (refGoto_any P _ _ _ _ _ _ _ state nonterm p.w (hgp p) HH.out.2.1 HH.out.2.2.2)
    have H5 := Lib.hid fun p : After W => after_call p (keptPacked_any _ _ _ _ _ _ _ _ _ _ _ _ _ _ _ P p.w (hlp p) (hgp p))
    have H6 := Lib.hid fun p : After W => after_call p (awake24_any p.w)
    have HB := Lib.hid ((HF.out.1.trans hF3).trans hW)
    clear hW oI oG hl hg hF3 hlent hlp hgp b0 b1 b2 b3 b4 b5 b6 d0 d1 d2 d3 d4 d5 d6 HLP hb2 hb3 k2
    unfold acV at H1 H2
    generalize (actE P state term).kind = kk at *
    generalize (actE P state term).dst = dd at *
    generalize gotoE P state nonterm = gg at *
    generalize P.dflt.length = n0 at *
    generalize P.base.length = n1 at *
    generalize P.check.length = n2 at *
    generalize P.next.length = n3 at *
    generalize P.gobase.length = n4 at *
    generalize P.gocheck.length = n5 at *
    generalize P.gonext.length = n6 at *
    refine wp_region_after W (by kernel_rfl) (by kernel_rfl) (Below.refl _ _) ?_
    repeat (go_big_quiet_step (first | with_reducible exact H1.out _ | with_reducible exact H2.out _ | with_reducible exact H3.out _ | with_reducible exact H4.out _ | with_reducible exact H5.out _ | with_reducible exact H6.out _))
    refine wpQuiet_nil ?_
    intro _ hw'
    obtain ⟨q, hw''⟩ := hw'
    subst hw''
    go_wp2
    go_ret
    exact ⟨rfl, (HB.out.trans (Fr.new q.ok)).below_new⟩
end Go.Proofs.Ytehaoiimhgkckaa
namespace Go.Proofs.Ytehaoiimhgkckaa
open Go.ChangeShapes Go.WideShapes Go.ChangeAt Go.RowKit Go.Deep Go.Joins
set_option maxHeartbeats 400000

theorem cAct : Try.prog.cellsOf 31 = 2 := by kernel_rfl
theorem bAct : 8 ≤ Try.prog.bytesOf 31 := Nat.le_of_ble_eq_true (by kernel_rfl)
theorem cPacked : Try.prog.cellsOf 25 = 7 := by kernel_rfl
section
variable {H : Type} {enc : TypeId × Value → H} {w : World} {base : Nat} {spare : Nat → Bool} {held : Bool}
set_option maxRecDepth 100000 in
theorem read_act {n b o : Nat} {cs : List Value} {y : DataW H × List MemPlace} (hl : cs.length = 2) (hc : Cells w b o cs) (h : DataW.trod enc Try.prog w base spare held n 31 cs = some y) : ∃ s : Ac, AcAt w b o s := by
  match cs, hl with
  | [c0, c1], _ =>
    obtain ⟨ys, n', _, rfl, _, hyl, hg⟩ := DataW.trod_struct Try.underlying31 h
    have hone := one_of Try.underlying31 (by kernel_rfl)
    match ys, hyl with
    | [y0, y1], _ =>
      have g0 := field_at hone hg 0 _ rfl (c := c0) rfl (y := y0) rfl
      have g1 := field_at hone hg 1 _ rfl (c := c1) rfl (y := y1) rfl
      obtain ⟨i0, e0, f0, w0⟩ := DataW.trod_int Try.underlying29 g0
      obtain ⟨i1, e1, f1, w1⟩ := DataW.trod_int Try.underlying3 g1
      simp only [List.cons.injEq, and_true] at e0 e1
      subst e0 e1
      refine ⟨⟨i0, i1⟩, ?_, ?_, hc⟩
      · have := w0
        simp [Lit.wf, IntKind.min, IntKind.max, IntKind.bits, IntKind.signed] at this
        simp only
        omega
      · simpa [Lit.wf, IntKind.min, IntKind.max, IntKind.bits, IntKind.signed, i64] using w1
set_option maxRecDepth 100000 in
/-- Packed rows that come in. -/
theorem read_pack {v : Value} {d : DataW H} {p : List MemPlace} {r : Reach} {b0 : Nat} (hv : Value.okWide Try.prog w r b0 25 v) (h : DataW.Trod enc Try.prog w base spare held 25 v d p) (hf : Fine Try.prog 25 d) :
    ∃ (P : Pk) (dv bv cv nv gb gc gn : Value), v = .agg #[dv, bv, cv, nv, gb, gc, gn] ∧ PkV w dv bv cv nv gb gc gn P := by
  obtain ⟨cs, rfl, hsz⟩ := okWide_struct Try.underlying25 hv
  rw [cPacked] at hsz
  obtain ⟨fuel, hfu⟩ := h
  obtain ⟨l⟩ := cs
  simp only [List.size_toArray] at hsz
  match l, hsz with
  | [c0, c1, c2, c3, c4, c5, c6], _ =>
    obtain ⟨ys, n', _, hy, _, hyl, hg⟩ := DataW.trod_struct Try.underlying25 hfu
    have hone := one_of Try.underlying25 (by kernel_rfl)
    match ys, hyl with
    | [y0, y1, y2, y3, y4, y5, y6], _ =>
      simp only [Prod.mk.injEq] at hy
      obtain ⟨rfl, rfl⟩ := hy
      have g0 := field_at hone hg 0 _ rfl (c := c0) rfl (y := y0) rfl
      have g1 := field_at hone hg 1 _ rfl (c := c1) rfl (y := y1) rfl
      have g2 := field_at hone hg 2 _ rfl (c := c2) rfl (y := y2) rfl
      have g3 := field_at hone hg 3 _ rfl (c := c3) rfl (y := y3) rfl
      have g4 := field_at hone hg 4 _ rfl (c := c4) rfl (y := y4) rfl
      have g5 := field_at hone hg 5 _ rfl (c := c5) rfl (y := y5) rfl
      have g6 := field_at hone hg 6 _ rfl (c := c6) rfl (y := y6) rfl
      obtain ⟨x0, h0⟩ := read_ints Try.underlying22 Try.underlying3 cInt bInt g0 (hf.field Try.underlying25 (j := 0) rfl rfl)
      obtain ⟨x1, h1⟩ := read_ints Try.underlying22 Try.underlying3 cInt bInt g1 (hf.field Try.underlying25 (j := 1) rfl rfl)
      obtain ⟨x2, h2⟩ := read_ints Try.underlying22 Try.underlying3 cInt bInt g2 (hf.field Try.underlying25 (j := 2) rfl rfl)
      obtain ⟨x3, h3⟩ := read_rows (At := AcAt w) Try.underlying23 cAct (by omega) bAct g3 (hf.field Try.underlying25 (j := 3) rfl rfl) (fun b o n cs y hl hc ht _ => read_act hl hc ht)
      obtain ⟨x4, h4⟩ := read_ints Try.underlying22 Try.underlying3 cInt bInt g4 (hf.field Try.underlying25 (j := 4) rfl rfl)
      obtain ⟨x5, h5⟩ := read_ints Try.underlying22 Try.underlying3 cInt bInt g5 (hf.field Try.underlying25 (j := 5) rfl rfl)
      obtain ⟨x6, h6⟩ := read_ints Try.underlying22 Try.underlying3 cInt bInt g6 (hf.field Try.underlying25 (j := 6) rfl rfl)
      exact ⟨⟨x0, x1, x2, x3, x4, x5, x6⟩, c0, c1, c2, c3, c4, c5, c6, rfl, ⟨h0, h1, h2, h3, h4, h5, h6⟩⟩
end
end Go.Proofs.Ytehaoiimhgkckaa
