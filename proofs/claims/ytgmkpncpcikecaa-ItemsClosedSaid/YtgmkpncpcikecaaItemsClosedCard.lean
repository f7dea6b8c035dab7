/-
  ItemsClosed, proved: for every grammar the statement's function answers true and leaves what it was handed as it was. Conditions: those of the given row alone.
-/
import Derived.Test.YtgmkpncpcikecaaItZ
import Derived.Test.YtgmkpncpcikecaaRead
import Derived.Test.YtgmkpncpcikecaaLaw
namespace Go.Proofs.Ytgmkpncpcikecaa
open Go.ChangeShapes Go.WideShapes Go.ChangeAt Go.RowKit Go.Deep Go.Joins

theorem own_ : ownKnob Try.prog.godebug = none := by kernel_rfl
theorem laidOut_ : laidOutB Try.prog = true := by kernel_rfl

theorem cItem : Try.prog.cellsOf 41 = 2 := by kernel_rfl
theorem bItem : 8 ≤ Try.prog.bytesOf 41 := Nat.le_of_ble_eq_true (by kernel_rfl)
section
variable {H : Type} {enc : TypeId × Value → H} {w : World} {base : Nat} {spare : Nat → Bool} {held : Bool}
set_option maxRecDepth 100000 in
theorem read_item {n b o : Nat} {cs : List Value} {y : DataW H × List MemPlace} (hl : cs.length = 2) (hc : Cells w b o cs) (h : DataW.trod enc Try.prog w base spare held n 41 cs = some y) : ∃ s : It, ItAt w b o s := by
  match cs, hl with
  | [c0, c1], _ =>
    obtain ⟨ys, n', _, rfl, _, hyl, hg⟩ := DataW.trod_struct Try.underlying41 h
    have hone := one_of Try.underlying41 (by kernel_rfl)
    match ys, hyl with
    | [y0, y1], _ =>
      have g0 := field_at hone hg 0 _ rfl (c := c0) rfl (y := y0) rfl
      have g1 := field_at hone hg 1 _ rfl (c := c1) rfl (y := y1) rfl
      obtain ⟨i0, e0, f0, w0⟩ := DataW.trod_int Try.underlying3 g0
      obtain ⟨i1, e1, f1, w1⟩ := DataW.trod_int Try.underlying3 g1
      simp only [List.cons.injEq, and_true] at e0 e1
      subst e0 e1
      refine ⟨(i0, i1), ⟨?_, ?_⟩, hc⟩
      · simpa [Lit.wf, IntKind.min, IntKind.max, IntKind.bits, IntKind.signed, i64] using w0
      · simpa [Lit.wf, IntKind.min, IntKind.max, IntKind.bits, IntKind.signed, i64] using w1
end

set_option maxRecDepth 100000 in
theorem itemsClosed_lifted (os : Os) (started : os.Started) (H : Type) (enc : TypeId × Value → H) :
    ReturnsInHanded {} Try.checked os 5 .any (Rows.itemsClosedSpec.pre6 enc Try.prog Try.f5 Rows.itemsClosedRow.domain false) (Rows.itemsClosedSpec.post enc Try.prog Try.f5 false true false false) := by
  refine returnsInHanded_of_change_sized (C := Try.checked) own_ started (by kernel_rfl) Try.func5
    (ChangeSpec.witness6 (enc := enc) (C := Try.checked) false ⟨#[], #[.agg #[.int .i64 0, .slice none 0 0, .slice none 0 0], .slice none 0 0], []⟩ 8 (by kernel_rfl) (by kernel_rfl) (by kernel_rfl) (by kernel_rfl)) ?_
  intro W base args ds gs before hval0 hW _ hsz0 _
  have hval : ∀ (j : Nat) t v, Try.f5.params[j]? = some t → args[j]? = some v → Value.okWide Try.prog W .any base t v := hval0
  have hsz : (DataW.weightsEach Try.prog (Try.f5.params.toList ++ Rows.itemsClosedSpec.plain.varTypes Try.prog) (ds ++ gs)).all (· ≤ reachBytes) = true := hsz0
  have hW' := hW
  obtain ⟨p, q, hA0, hV, rfl, hfz, hnd⟩ := hW
  have hA : DataW.TrodAll enc Try.prog W 0 (fun _ => true) true Try.f5.params.toList args.toList ds p := hA0
  rw [Try.params5] at hA hval hsz
  obtain ⟨v0, v1, d0, d1, p0, p1, rfl, rfl, rfl, h0, h1⟩ := trodAll_two hA
  obtain ⟨rfl, rfl⟩ := trodVars_none hV
  obtain ⟨G, hG, hF⟩ := read_gram (hval 0 _ v0 rfl rfl) h0 (fine_each hsz (j := 0) rfl rfl)
  obtain ⟨a1, len1, cap1, rfl⟩ := okWide_slice Try.underlying36 (hval 1 _ v1 rfl rfl)
  obtain ⟨n1, g1⟩ := h1
  obtain ⟨K, hK⟩ := read_rows (At := fun b o (x : It) => ItAt W b o x) Try.underlying36 cItem (by omega) bItem (by simpa [Value.cells] using g1) (fine_each hsz (j := 1) rfl rfl)
    (fun b o n cs y hl hc ht _ => read_item hl hc ht)
  refine (closed_any G v0 _ K W hG hF hK).mono fun e W' ⟨he, hB⟩ => ?_
  subst he
  exact ⟨_, rfl, law_post laidOut_ (by kernel_rfl) hW' rfl rfl Try.underlying4 rfl hB⟩

theorem itemsClosed_holds : Rows.ItemsClosedSaid :=
  OpenClaim.holds_of_wide 5 Try.f5 rfl rfl rfl rfl rfl rfl rfl ⟨rfl, rfl, rfl, rfl, rfl⟩ rfl rfl rfl rfl rfl (by kernel_rfl) Try.func5 (by kernel_rfl)
    (of_decide_eq_true (by kernel_rfl)) (by unfold Func.isWrapper; rw [if_neg (of_decide_eq_false (by kernel_rfl))]; exact ⟨rfl, rfl⟩)
    (fun os started H enc _ => itemsClosed_lifted os started H enc)
#print axioms itemsClosed_holds
end Go.Proofs.Ytgmkpncpcikecaa
