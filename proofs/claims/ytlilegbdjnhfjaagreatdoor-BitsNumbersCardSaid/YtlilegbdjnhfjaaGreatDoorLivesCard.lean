/-
  BitsLives, proved: for all ends and all steps the statement's function answers true and leaves what it was handed as it was. The card: the row, and the library's table that it lists tied to the program's text. Conditions: those of the given row (the listed variable math/bits.deBruijn64tab).
-/
import Derived.Test.YtlilegbdjnhfjaaGreatDoorReadI
import Derived.Test.YtlilegbdjnhfjaaGreatDoorLives6
namespace Go.Proofs.YtlilegbdjnhfjaaGreatDoor
open Go.ChangeShapes Go.WideShapes Go.ChangeAt Go.RowKit

theorem cDo : Tryz.prog.cellsOf 33 = 3 := by kernel_rfl
theorem bDo : 8 ≤ Tryz.prog.bytesOf 33 := Nat.le_of_ble_eq_true (by kernel_rfl)
def I64 (x : Int) : Prop := -9223372036854775808 ≤ x ∧ x ≤ 9223372036854775807
set_option maxRecDepth 100000 in
/-- Steps that come in. -/
theorem dos_in {H : Type} {enc : TypeId × Value → H} {W : World} {v : Value} {d : DataW H} {p : List MemPlace} {ts : List TypeId} {ds : List (DataW H)} {base : Nat} (j : Nat)
    (hk : Value.okWide Tryz.prog W .any base 22 v) (h : DataW.Trod enc Tryz.prog W 0 (fun _ => true) true 22 v d p)
    (hs : (DataW.weightsEach Tryz.prog ts ds).all (· ≤ reachBytes) = true) (ht : ts[j]? = some 22) (hd : ds[j]? = some d) : ∃ l, IsDos W v l := by
  have hf := fine_each hs ht hd
  obtain ⟨a0, len, cap, rfl⟩ := okWide_slice Tryz.underlying22 hk
  obtain ⟨fuel, hfu⟩ := h
  obtain ⟨l, h1, a, cap', he, h2, h3, h4⟩ := read_rows (C := 3) (At := fun b o (x : Int × Int × Int) => Cells W b o [.int .i64 x.1, .int .i64 x.2.1, .int .i64 x.2.2] ∧ I64 x.1 ∧ I64 x.2.1) Tryz.underlying22 cDo (by omega) bDo hfu hf
    (fun b o n cs y hl hc ht' hf' => by
      match cs, hl with
      | [c0, c1, c2], _ =>
        obtain ⟨ys, n', _, rfl, _, hyl, hg⟩ := DataW.trod_struct Tryz.underlying33 ht'
        have hone := one_of Tryz.underlying33 (by kernel_rfl)
        match ys, hyl with
        | [y0, y1, y2], _ =>
          have g0 := field_at hone hg 0 _ rfl (c := c0) rfl (y := y0) rfl
          have g1 := field_at hone hg 1 _ rfl (c := c1) rfl (y := y1) rfl
          have g2 := field_at hone hg 2 _ rfl (c := c2) rfl (y := y2) rfl
          obtain ⟨i0, e0, _, w0⟩ := DataW.trod_int Tryz.underlying3 g0
          obtain ⟨i1, e1, _, w1⟩ := DataW.trod_int Tryz.underlying3 g1
          obtain ⟨i2, e2, _, w2⟩ := DataW.trod_int Tryz.underlying3 g2
          simp only [List.cons.injEq, and_true] at e0 e1 e2
          subst e0 e1 e2
          refine ⟨⟨i0, i1, i2⟩, hc, ?_, ?_⟩
          · simpa [I64, Lit.wf, IntKind.min, IntKind.max, IntKind.bits, IntKind.signed] using w0
          · simpa [I64, Lit.wf, IntKind.min, IntKind.max, IntKind.bits, IntKind.signed] using w1)
  refine ⟨l, a, cap', he, h1, fun k hk => ?_⟩
  rcases h4 with rfl | ⟨b, o, ha, hx⟩
  · simp at hk
  · obtain ⟨hc, w0, w1⟩ := hx k hk
    exact ⟨b, o, ha, hc, w0, w1⟩

/-- Whatever the ends are. -/
theorem bitsLives_any (m n : Int) (va : Value) (l : List (Int × Int × Int)) (w : World) (hv : IsDos w va l) (hT : Tab w) :
    Calls Tryz.prog 3 #[.int .i64 m, .int .i64 n, va] w fun e w' => e = .returned (.bool true) ∧ Below w.heap.size w w' := by
  cases hm : okB m <;> cases hn : okB n
  · exact bitsLives_nn m n hm hn va w hT
  · exact bitsLives_ny m n hm hn va w hT
  · exact bitsLives_yn m n hm hn va w hT
  · obtain ⟨a, rfl, ha⟩ := okB_yes hm
    obtain ⟨b, rfl, hb⟩ := okB_yes hn
    exact bitsLives_yy a b ha hb va l w hv hT

set_option maxRecDepth 100000 in
theorem bitsLives_lifted (os : Os) (started : os.Started) (H : Type) (enc : TypeId × Value → H) :
    ReturnsInHanded {} Tryz.checked os 3 .any (fun w args => (Rows.bitsLivesSpec.pre enc Tryz.prog Tryz.f3 [] false w args ∧ laidMetH Tryz.prog laid1 w) ∧ sizedMet enc Tryz.prog Tryz.f3 (OpenSpec.ofChange Rows.bitsLivesSpec) false w args)
      (Rows.bitsLivesSpec.post enc Tryz.prog Tryz.f3 false true false false) := by
  refine returnsInHanded_of_change_and (C := Tryz.checked) (X := fun w _ => laidMetH Tryz.prog laid1 w) (fun _ _ _ hh h => h.of_heap hh) own_ started (by kernel_rfl) Tryz.func3
    (ChangeSpec.witness_shaped (enc := enc) (C := Tryz.checked) (os := os) (X := fun w _ => laidMetH Tryz.prog laid1 w) false (World.doorLaid Tryz.prog 400 os) #[.int .i64 0, .int .i64 0, .slice none 0 0] 8 rfl (World.shaped_of_RefB (by kernel_rfl) (by kernel_rfl)) (by kernel_rfl) (by kernel_rfl) (by kernel_rfl) (door_met os _)) ?_
  intro W base args ds gs before hval0 hW _ hsz0 hL _
  have hval : ∀ (j : Nat) t v, Tryz.f3.params[j]? = some t → args[j]? = some v → Value.okWide Tryz.prog W .any base t v := hval0
  have hsz : (DataW.weightsEach Tryz.prog (Tryz.f3.params.toList ++ Rows.bitsLivesSpec.plain.varTypes Tryz.prog) (ds ++ gs)).all (· ≤ reachBytes) = true := hsz0
  have hW' := hW
  obtain ⟨p, q, hA0, hV, rfl, hfz, hnd⟩ := hW
  have hA : DataW.TrodAll enc Tryz.prog W 0 (fun _ => true) true Tryz.f3.params.toList args.toList ds p := hA0
  rw [Tryz.params3] at hA hval hsz
  obtain ⟨v0, v1, v2, d0, d1, d2, p0, p1, p2, rfl, rfl, rfl, h0, h1, h2⟩ := trodAll_three hA
  obtain ⟨rfl, rfl⟩ := trodVars_none hV
  obtain ⟨m, rfl, rfl, rfl, wm⟩ := open_int Tryz.underlying3 (hval 0 3 v0 rfl rfl) h0
  obtain ⟨n, rfl, rfl, rfl, wn⟩ := open_int Tryz.underlying3 (hval 1 3 v1 rfl rfl) h1
  obtain ⟨l, hl⟩ := dos_in 2 (hval 2 _ v2 rfl rfl) h2 hsz rfl rfl
  refine (bitsLives_any m n v2 l W hl (tab_of_laid hL)).mono fun e W' ⟨he, hB⟩ => ?_
  subst he
  exact ⟨_, rfl, law_post laidOut_ (by kernel_rfl) hW' rfl rfl Tryz.underlying4 rfl hB⟩

theorem bitsLives_holds : Rows.BitsLivesSaid :=
  OpenClaim.holds_of_wide 3 Tryz.f3 rfl rfl rfl rfl rfl rfl rfl ⟨rfl, rfl, rfl, rfl, rfl⟩ rfl rfl rfl rfl rfl (by kernel_rfl) Tryz.func3 (by kernel_rfl)
    (of_decide_eq_true (by kernel_rfl)) (by unfold Func.isWrapper; rw [if_neg (of_decide_eq_false (by kernel_rfl))]; exact ⟨rfl, rfl⟩)
    (fun os started H enc _ => bitsLives_lifted os started H enc)

theorem bitsLives_card : Rows.BitsLivesCardSaid :=
  Claim7.holds_tied_plain_at .later [] [.data] true (true, "3a54422e132b3edaf039271134201e00938311c04f435bce119986df7c73da7d") true
    bitsLives_holds (fun _ h => by cases h) (by kernel_rfl) (fun _ h => by cases h) bitsLives_row_tie rfl ⟨rfl, rfl⟩ (by kernel_rfl) rfl
    (fun f fn hf hfn => by
      obtain rfl : f = 3 := Option.some.inj ((show Tryz.prog.funcNamed "gristmill/gristmilllaw17.BitsLives" = some 3 by kernel_rfl).symm.trans hf) |>.symm
      obtain rfl : fn = Tryz.f3 := (Option.some.inj (Tryz.func3.symm.trans hfn)).symm
      exact ⟨by kernel_rfl, fun j t ht => by
        rw [Tryz.params3] at ht
        have hm : t ∈ [3, 3, 22] := by
          have := Array.mem_of_getElem? ht
          simpa using this
        have hall : ([3, 3, 22].all fun u => !Tryz.prog.wantsStandIn u) = true := by kernel_rfl
        exact (show Tryz.prog.wantsStandIn t = false by simpa using List.all_eq_true.1 hall t hm)⟩)
    (by kernel_rfl)
#print axioms bitsLives_card
end Go.Proofs.YtlilegbdjnhfjaaGreatDoor
