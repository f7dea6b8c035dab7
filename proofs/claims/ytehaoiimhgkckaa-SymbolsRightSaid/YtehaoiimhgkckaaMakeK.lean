/-
  Chapter 14's statements: the chapter's text makes the chapter's grammar.
-/
import Derived.Test.YtehaoiimhgkckaaMakeH
import Derived.Test.YtehaoiimhgkckaaMakeJ
namespace Go.Proofs.Ytehaoiimhgkckaa
open Go.RowKit Go.MapKept Go.ChangeMaps
set_option maxHeartbeats 400000

def wantSyms : List Sym := [⟨nEnd, nNone, 0, 0⟩, ⟨nNUM, nTInt, 0, 0⟩, ⟨nPLUS, nNone, 1, 1⟩, ⟨nAccept, nNone, 0, 0⟩, ⟨nE, nNone, 0, 0⟩]
def wantPrds : List Prd := [⟨3, [4], -1, false, nNone, 0⟩, ⟨4, [4, 2, 4], 2, false, nNone, 0⟩, ⟨4, [1], -1, false, nNone, 0⟩]
def wantG : Gram := ⟨3, wantSyms, wantPrds⟩
def s3 : List Sym := [⟨nEnd, nNone, 0, 0⟩, ⟨nNUM, nTInt, 0, 0⟩, ⟨nPLUS, nNone, 1, 1⟩]
def M1S : Mst := ⟨0, s3, [], [(nNUM, 1), (nPLUS, 2)], [], [], 1, nNone⟩
def M2S : Mst := ⟨0, s3, [], [(nNUM, 1), (nPLUS, 2)], [(nE, 0)], [⟨nE, nNone, 0, 0⟩], 1, nNone⟩
def M3S : Mst := ⟨3, s3, wantPrds, [(nNUM, 1), (nPLUS, 2)], [(nE, 0)], [⟨nE, nNone, 0, 0⟩], 1, nNone⟩
theorem small_decls : declsN M0e smallT.decls = some M1S := by kernel_rfl
theorem small_rules : rulesN M1S smallT.rules = some M2S := by kernel_rfl
theorem small_prods : prodsN 0 (midM M2S) smallT.rules = some M3S := by kernel_rfl
theorem small_fin : (finM M3S).syms = wantSyms := by kernel_rfl
theorem want_right : rightG wantG = true := by kernel_rfl
theorem none_right : rightG ⟨0, [], []⟩ = false := by kernel_rfl
theorem want_syms_ok : ∀ s ∈ wantSyms, SymOk s := fun s hs => by
  unfold wantSyms at hs
  simp only [List.mem_cons, List.not_mem_nil, or_false] at hs
  rcases hs with rfl | rfl | rfl | rfl | rfl <;> exact ⟨by unfold i64; simp, by simp⟩
theorem want_prds_ok : ∀ p ∈ wantPrds, PrdOk p ∧ (∀ x ∈ p.right, -9223372036854775808 ≤ x ∧ x ≤ 9223372036854775807) ∧ p.right.length ≤ 1000 := fun p hp => by
  unfold wantPrds at hp
  simp only [List.mem_cons, List.not_mem_nil, or_false] at hp
  rcases hp with rfl | rfl | rfl <;> exact ⟨⟨by unfold i64; simp, by unfold i64; simp, by unfold i64; simp⟩, by simp, by simp⟩
theorem make_small (v : Value) (w : World) (h : IsTxt w v smallT) :
    Calls Try.prog 22 #[v] w fun e w' => ∃ sa sc pa pc, e = .returned (.tuple #[.agg #[.int .i64 3, .slice sa 5 sc, .slice pa 3 pc], .agg #[.int .i64 0, .int .i64 0]]) ∧ IsGram w' (.agg #[.int .i64 3, .slice sa 5 sc, .slice pa 3 pc]) wantG ∧ Below w.heap.size w w' := by
  refine (make_ok smallT v M1S M2S M3S w h (by simp [smallT, plainOk, wordsFrom]) small_decls small_rules small_prods (by simp [smallT]) (by simp [M3S, wantPrds]) (by simp [M3S]) (by simp [smallT]) (by simp [smallT]) (by simp [smallT]) (by simp [smallT]) (by unfold i64; simp [M3S]) (by rw [small_fin]; exact want_syms_ok) want_prds_ok (by rw [small_fin]; simp [wantSyms, M3S, wantPrds])).mono ?_
  rintro e w' ⟨s, p, he, hg, hb⟩
  rw [small_fin] at hg
  obtain ⟨_, s', p', heq, hss, hpp⟩ := id hg
  simp only [Value.agg.injEq, Array.mk.injEq, List.cons.injEq, and_true] at heq
  obtain ⟨_, rfl, rfl⟩ := heq
  obtain ⟨sa, sc, rfl, _⟩ := Rows'.parts hss
  obtain ⟨pa, pc, rfl, _⟩ := Rows'.parts hpp
  exact ⟨sa, sc, pa, pc, he, hg, hb⟩
/-- No grammar. -/
theorem isGram_none (w : World) : IsGram w (.agg #[.int .i64 0, .slice none 0 0, .slice none 0 0]) ⟨0, [], []⟩ :=
  ⟨by unfold i64; simp, _, _, rfl, ⟨by simp, none, 0, rfl, Nat.le_refl _, by unfold maxLen; omega, .inl rfl⟩, ⟨by simp, none, 0, rfl, Nat.le_refl _, by unfold maxLen; omega, .inl rfl⟩⟩
set_option maxRecDepth 100000 in
set_option maxHeartbeats 4000000 in
theorem awake_any (w : World) : Calls Try.prog 16 #[] w fun e w' => e = .returned (.bool true) ∧ Below w.heap.size w w' := by
  have HS := Lib.hid (small_any w)
  have HM := Lib.hid fun (W : World) v (h : IsTxt W v smallT) => make_small v W h
  go_enter Try.func16, Try.ntmps16
  go_upto_region 2 with (first | (go_at_call 35; refine HS.out.mono ?_; rintro e w1 ⟨v, rfl, htx, hb1⟩; obtain ⟨dv, rv, rfl, htx2⟩ := id htx) | (go_at_call 22; refine (HM.out _ _ htx).mono ?_; rintro e w2 ⟨sa, sc, pa, pc, rfl, hg2, hb2⟩))
  have hf12 : Fr nothing w w2 := (Fr.new hb1).trans (Fr.new hb2)
  go_upto_region 3 with fail
  have H2 := Lib.hid (And.intro hg2 hf12)
  clear hg2 hf12 hb1 hb2 htx htx2 HS HM
  refine wp_atW (F := fun W => Fr nothing w2 W ∧ W.heap[w2.heap.size]? = some (.cells #[.int .i64 3, .slice sa 5 sc, .slice pa 3 pc] 39 (0, 0)) ∧ W.heap[w2.heap.size + 1]? = some (.cells #[.int .i64 0, .int .i64 0] 51 (0, 0)) ∧
      (∃ q1 q2, W.heap[w2.heap.size + 1 + 1 + 1 + 1 + 1 + 1 + 1]? = some (.cells #[.int .i64 3, .slice (some ⟨q1, 0, none⟩) 5 5, .slice (some ⟨q2, 0, none⟩) 3 3] 39 (0, 0)) ∧ IsGram W (.agg #[.int .i64 3, .slice (some ⟨q1, 0, none⟩) 5 5, .slice (some ⟨q2, 0, none⟩) 3 3]) wantG)) ⟨?_, ?_, ?_, ?_⟩ ?_
  · repeat (first | with_reducible exact Fr.refl _ _ | refine Fr.trans ?_ (Fr.alloc _ _))
  · repeat (first | exact laid_at (by simp) | refine alloc_older ?_)
  · repeat (first | exact laid_at (by simp) | refine alloc_older ?_)
  · refine ⟨_, _, laid_at (by simp), ?_⟩
    refine ⟨by unfold i64; simp [wantG], _, _, rfl, syms_obj (l := wantSyms) (b := w2.heap.size + 1 + 1) (t := 65) (z := (0, 0)) ?_ rfl want_syms_ok rfl (by simp [wantSyms]), prds_obj (b := w2.heap.size + 1 + 1 + 1 + 1 + 1 + 1) (t := 62) (z := (0, 0)) (l := [(⟨3, [4], -1, false, nNone, 0⟩, .slice (some ⟨w2.heap.size + 1 + 1 + 1, 0, none⟩) 1 1), (⟨4, [4, 2, 4], 2, false, nNone, 0⟩, .slice (some ⟨w2.heap.size + 1 + 1 + 1 + 1, 0, none⟩) 3 3), (⟨4, [1], -1, false, nNone, 0⟩, .slice (some ⟨w2.heap.size + 1 + 1 + 1 + 1 + 1, 0, none⟩) 1 1)]) ?_ rfl ?_ rfl (by simp)⟩
    · repeat (first | exact laid_at (by simp) | refine alloc_older ?_)
    · repeat (first | exact laid_at (by simp) | refine alloc_older ?_)
    · intro x hx
      simp only [List.mem_cons, List.not_mem_nil, or_false] at hx
      rcases hx with rfl | rfl | rfl
      · refine ⟨(want_prds_ok _ (by simp [wantPrds])).1, ints_obj (xs := [4]) (t := 3) (z := (0, 0)) ?_ rfl (by simp) rfl (by simp)⟩
        repeat (first | exact laid_at (by simp) | refine alloc_older ?_)
      · refine ⟨(want_prds_ok _ (by simp [wantPrds])).1, ints_obj (xs := [4, 2, 4]) (t := 3) (z := (0, 0)) ?_ rfl (by simp) rfl (by simp)⟩
        repeat (first | exact laid_at (by simp) | refine alloc_older ?_)
      · refine ⟨(want_prds_ok _ (by simp [wantPrds])).1, ints_obj (xs := [1]) (t := 3) (z := (0, 0)) ?_ rfl (by simp) rfl (by simp)⟩
        repeat (first | exact laid_at (by simp) | refine alloc_older ?_)
  rintro W ⟨hW, o0, o1, q1, q2, o2, hgw⟩
  have hlt : w2.heap.size + 1 < W.heap.size := (Array.getElem?_eq_some_iff.1 o1).1
  obtain ⟨gb, hgb⟩ : ∃ gb, gb = w2.heap.size := ⟨_, rfl⟩
  have HW := Lib.hid hW
  rw [← hgb] at o0 o1 o2 ⊢
  obtain ⟨fb, hfb⟩ : ∃ fb, fb = gb + 1 := ⟨_, rfl⟩
  rw [← hfb] at o1 o2 ⊢
  obtain ⟨nb, hnb⟩ : ∃ nb, nb = fb + 1 + 1 + 1 + 1 + 1 + 1 := ⟨_, rfl⟩
  rw [← hnb] at o2 ⊢
  have HO := Lib.hid (And.intro o0 (And.intro o1 (And.intro o2 hgw)))
  clear hW o0 o1 o2 hgw hgb hfb hnb hlt
  go_upto_region 4 with (go_at_call 22; refine (make_empty _).mono ?_; rintro e w3 ⟨rfl, hb3⟩)
  refine wp_atW (F := fun V => Fr nothing W V ∧ V.heap[w3.heap.size + 1]? = some (.cells #[.int .i64 300, .int .i64 0] 51 (0, 0))) ⟨?_, ?_⟩ ?_
  · exact ((Fr.new hb3).trans (Fr.alloc _ _)).trans (Fr.alloc _ _)
  · exact laid_at (by simp)
  rintro V ⟨hV, o3⟩
  obtain ⟨hb, hhb⟩ : ∃ hb, hb = w3.heap.size + 1 := ⟨_, rfl⟩
  rw [← hhb] at o3 ⊢
  have g0 : V.cell? ⟨gb, 0, none⟩ = some (.int .i64 3) := obj_cell (hV.obj HO.out.1 fun e => e) 0 rfl
  have g1 : V.cell? ⟨gb, 1, none⟩ = some (.slice sa 5 sc) := obj_cell (hV.obj HO.out.1 fun e => e) 1 rfl
  have g2 : V.cell? ⟨gb, 2, none⟩ = some (.slice pa 3 pc) := obj_cell (hV.obj HO.out.1 fun e => e) 2 rfl
  have f0 : V.cell? ⟨fb, 0, none⟩ = some (.int .i64 0) := obj_cell (hV.obj HO.out.2.1 fun e => e) 0 rfl
  have n0 : V.cell? ⟨nb, 0, none⟩ = some (.int .i64 3) := obj_cell (hV.obj HO.out.2.2.1 fun e => e) 0 rfl
  have n1 : V.cell? ⟨nb, 1, none⟩ = some (.slice (some ⟨q1, 0, none⟩) 5 5) := obj_cell (hV.obj HO.out.2.2.1 fun e => e) 1 rfl
  have n2 : V.cell? ⟨nb, 2, none⟩ = some (.slice (some ⟨q2, 0, none⟩) 3 3) := obj_cell (hV.obj HO.out.2.2.1 fun e => e) 2 rfl
  have hG1 := H2.out.1.fr (HW.out.trans hV)
  have hG2 := HO.out.2.2.2.fr hV
  have HSG := Lib.hid (sameGrammar_any _ _ wantG V hG1 hG2)
  have HR1 := Lib.hid fun (U : World) (hU : Fr nothing V U) => want_right ▸ right_gram wantG _ U (hG1.fr hU)
  have HR2 := Lib.hid fun (U : World) => none_right ▸ right_gram ⟨0, [], []⟩ _ U (isGram_none U)
  have HF := Lib.hid ((H2.out.2.trans HW.out).trans hV)
  have HV3 := Lib.hid o3
  have h30 : V.cell? ⟨hb, 0, none⟩ = some (.int .i64 300) := obj_cell o3 0 rfl
  have h31 : V.cell? ⟨hb, 1, none⟩ = some (.int .i64 0) := obj_cell o3 1 rfl
  clear hV o3 hhb hG1 hG2 HO HW H2
  go_wp2_with (first | (go_at_call 23; refine HSG.out.mono ?_; rintro e w4 ⟨rfl, hb4⟩; have g0' := (Fr.new hb4).cell g0 (fun e => e); have g1' := (Fr.new hb4).cell g1 (fun e => e); have g2' := (Fr.new hb4).cell g2 (fun e => e)) | (go_at_call 18; (with_reducible refine (HR1.out _ (Fr.new hb4)).mono ?_); rintro e w5 ⟨rfl, hb5⟩; have k0 := ((Fr.new hb4).trans (Fr.new hb5)).cell h30 (fun e => e); have k1 := ((Fr.new hb4).trans (Fr.new hb5)).cell h31 (fun e => e)) | (go_at_call 18; (with_reducible refine (HR2.out _).mono ?_); rintro e w6 ⟨rfl, hb6⟩))
  go_ret
  exact ⟨rfl, (HF.out.trans (((Fr.new hb4).trans (Fr.new hb5)).trans (Fr.new hb6))).below_new⟩
end Go.Proofs.Ytehaoiimhgkckaa
