/-
  ScopeHides, proved: whatever steps and names come in, what a block held leaves all names as they stood for; what it closed with are just the names that were not used. Conditions: those of the given row alone.
-/
import Derived.Test.YticdoccaabfjaaaSc25
import Derived.Test.YticdoccaabfjaaaScRead
import Derived.Test.YticdoccaabfjaaaLaw
namespace Go.Proofs.Yticdoccaabfjaaa
open Go.ChangeShapes Go.WideShapes Go.ChangeAt Go.RowKit Go.Deep Go.Joins

theorem own_ : ownKnob Try.prog.godebug = none := by kernel_rfl
theorem laidOut_ : laidOutB Try.prog = true := by kernel_rfl

set_option maxRecDepth 100000 in
theorem scopeHides_lifted (os : Os) (started : os.Started) (H : Type) (enc : TypeId × Value → H) :
    ReturnsInHanded {} Try.checked os 4 .any (Rows.scopeHidesSpec.pre6 enc Try.prog Try.f4 Rows.scopeHidesRow.domain false) (Rows.scopeHidesSpec.post enc Try.prog Try.f4 false true false false) := by
  refine returnsInHanded_of_change_sized (C := Try.checked) own_ started (by kernel_rfl) Try.func4
    (ChangeSpec.witness6 (enc := enc) (C := Try.checked) false ⟨#[], #[.slice none 0 0, .slice none 0 0, .slice none 0 0], []⟩ 8 (by kernel_rfl) (by kernel_rfl) (by kernel_rfl) (by kernel_rfl)) ?_
  intro W base args ds gs before hval0 hW _ hsz0 _
  have hval : ∀ (j : Nat) t v, Try.f4.params[j]? = some t → args[j]? = some v → Value.okWide Try.prog W .any base t v := hval0
  have hsz : (DataW.weightsEach Try.prog (Try.f4.params.toList ++ Rows.scopeHidesSpec.plain.varTypes Try.prog) (ds ++ gs)).all (· ≤ reachBytes) = true := hsz0
  have hW' := hW
  obtain ⟨p, q, hA0, hV, rfl, hfz, hnd⟩ := hW
  have hA : DataW.TrodAll enc Try.prog W 0 (fun _ => true) true Try.f4.params.toList args.toList ds p := hA0
  rw [Try.params4] at hA hsz hval
  obtain ⟨v0, v1, v2, d0, d1, d2, p0, p1, p2, rfl, rfl, rfl, h0, h1, h2⟩ := trodAll_three hA
  obtain ⟨rfl, rfl⟩ := trodVars_none hV
  have k0 := hval 0 _ v0 rfl rfl
  have k1 := hval 1 _ v1 rfl rfl
  have k2 := hval 2 _ v2 rfl rfl
  obtain ⟨a0, l0, c0, rfl⟩ := okWide_slice Try.underlying45 k0
  obtain ⟨a1, l1, c1, rfl⟩ := okWide_slice Try.underlying45 k1
  obtain ⟨a2, l2, c2, rfl⟩ := okWide_slice Try.underlying30 k2
  have f0 := fine_each hsz (j := 0) rfl rfl
  have f1 := fine_each hsz (j := 1) rfl rfl
  have f2 := fine_each hsz (j := 2) rfl rfl
  obtain ⟨n0, g0⟩ := h0
  obtain ⟨n1, g1⟩ := h1
  obtain ⟨n2, g2⟩ := h2
  obtain ⟨l, hl⟩ := read_dos Try.underlying45 g0 f0
  obtain ⟨m, hm⟩ := read_dos Try.underlying45 g1 f1
  obtain ⟨names, hn, hnl⟩ := read_texts Try.underlying30 g2 f2
  refine (scopeHides_any W _ _ _ l m names hl hm hn hnl).mono fun e W' ⟨he, hB⟩ => ?_
  subst he
  exact ⟨_, rfl, law_post laidOut_ (by kernel_rfl) hW' rfl rfl Try.underlying4 rfl hB⟩

theorem scopeHides_holds : Rows.ScopeHidesSaid :=
  OpenClaim.holds_of_wide 4 Try.f4 rfl rfl rfl rfl rfl rfl rfl ⟨rfl, rfl, rfl, rfl, rfl⟩ rfl rfl rfl rfl rfl (by kernel_rfl) Try.func4 (by kernel_rfl)
    (of_decide_eq_true (by kernel_rfl)) (by unfold Func.isWrapper; rw [if_neg (of_decide_eq_false (by kernel_rfl))]; exact ⟨rfl, rfl⟩)
    (fun os started H enc _ => scopeHides_lifted os started H enc)
#print axioms scopeHides_holds
end Go.Proofs.Yticdoccaabfjaaa
