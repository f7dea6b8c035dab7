/-
  PackSays, proved: for all packed rows, every state, terminal and nonterminal the statement's function answers true and leaves what it was handed as it was. Conditions: those of the given row alone.
-/
import Derived.Test.YtehaoiimhgkckaaPb7
import Derived.Test.YtehaoiimhgkckaaLaw
namespace Go.Proofs.Ytehaoiimhgkckaa
open Go.ChangeShapes Go.WideShapes Go.ChangeAt Go.RowKit Go.Deep Go.Joins

theorem own_ : ownKnob Try.prog.godebug = none := by kernel_rfl
theorem laidOut_ : laidOutB Try.prog = true := by kernel_rfl

set_option maxRecDepth 100000 in
theorem packSays_lifted (os : Os) (started : os.Started) (H : Type) (enc : TypeId × Value → H) :
    ReturnsInHanded {} Try.checked os 3 .any (Rows.packSaysSpec.pre6 enc Try.prog Try.f3 Rows.packSaysRow.domain false) (Rows.packSaysSpec.post enc Try.prog Try.f3 false true false false) := by
  refine returnsInHanded_of_change_sized (C := Try.checked) own_ started (by kernel_rfl) Try.func3
    (ChangeSpec.witness6 (enc := enc) (C := Try.checked) false ⟨#[], #[.agg #[.slice none 0 0, .slice none 0 0, .slice none 0 0, .slice none 0 0, .slice none 0 0, .slice none 0 0, .slice none 0 0], .int .i64 0, .int .i64 0, .int .i64 0], []⟩ 8 (by kernel_rfl) (by kernel_rfl) (by kernel_rfl) (by kernel_rfl)) ?_
  intro W base args ds gs before hval0 hW _ hsz0 _
  have hval : ∀ (j : Nat) t v, Try.f3.params[j]? = some t → args[j]? = some v → Value.okWide Try.prog W .any base t v := hval0
  have hsz : (DataW.weightsEach Try.prog (Try.f3.params.toList ++ Rows.packSaysSpec.plain.varTypes Try.prog) (ds ++ gs)).all (· ≤ reachBytes) = true := hsz0
  have hW' := hW
  obtain ⟨p, q, hA0, hV, rfl, hfz, hnd⟩ := hW
  have hA : DataW.TrodAll enc Try.prog W 0 (fun _ => true) true Try.f3.params.toList args.toList ds p := hA0
  rw [Try.params3] at hA hval hsz
  obtain ⟨v0, v1, v2, v3, d0, d1, d2, d3, p0, p1, p2, p3, rfl, rfl, rfl, h0, h1, h2, h3⟩ := trodAll_four hA
  obtain ⟨rfl, rfl⟩ := trodVars_none hV
  obtain ⟨P, dv, bv, cv, nv, gb, gc, gn, rfl, hP⟩ := read_pack (hval 0 _ v0 rfl rfl) h0 (fine_each hsz (j := 0) rfl rfl)
  obtain ⟨s, rfl, rfl, rfl, ws⟩ := open_int Try.underlying3 (hval 1 _ v1 rfl rfl) h1
  obtain ⟨t, rfl, rfl, rfl, wt⟩ := open_int Try.underlying3 (hval 2 _ v2 rfl rfl) h2
  obtain ⟨n, rfl, rfl, rfl, wn⟩ := open_int Try.underlying3 (hval 3 _ v3 rfl rfl) h3
  have is : i64 s := by simpa [Lit.wf, IntKind.min, IntKind.max, IntKind.bits, IntKind.signed, i64] using ws
  have it : i64 t := by simpa [Lit.wf, IntKind.min, IntKind.max, IntKind.bits, IntKind.signed, i64] using wt
  have in_ : i64 n := by simpa [Lit.wf, IntKind.min, IntKind.max, IntKind.bits, IntKind.signed, i64] using wn
  refine (packSays_any P dv bv cv nv gb gc gn s t n W hP is it in_).mono fun e W' ⟨he, hB⟩ => ?_
  subst he
  exact ⟨_, rfl, law_post laidOut_ (by kernel_rfl) hW' rfl rfl Try.underlying4 rfl hB⟩

theorem packSays_holds : Rows.PackSaysSaid :=
  OpenClaim.holds_of_wide 3 Try.f3 rfl rfl rfl rfl rfl rfl rfl ⟨rfl, rfl, rfl, rfl, rfl⟩ rfl rfl rfl rfl rfl (by kernel_rfl) Try.func3 (by kernel_rfl)
    (of_decide_eq_true (by kernel_rfl)) (by unfold Func.isWrapper; rw [if_neg (of_decide_eq_false (by kernel_rfl))]; exact ⟨rfl, rfl⟩)
    (fun os started H enc _ => packSays_lifted os started H enc)
#print axioms packSays_holds
end Go.Proofs.Ytehaoiimhgkckaa
