/-
  Package first: quiet where nothing is thrown, Nullable.
-/
import Derived.Test.YtfhleelechbdmaaDoorFi9
import Derived.Defers
import Derived.Recover
namespace Go.Proofs.YtfhleelechbdmaaDoor
open Go.RowKit
set_option maxHeartbeats 400000

theorem quiet_idle (w : World) :
    CallsD Tryd.prog 17 #[] .returning w fun e u' w' => e = .returned (.tuple #[]) ∧ u' = .returning ∧ w' = w := by
  refine callsD_of_wpS Tryd.func17 rfl fun c₀ cs hu => ?_
  apply wpS_seq
  apply wpS_region
  simp [wpOpsS, go_sem, recoverD, hu, Tryd.ntmps17, Exit.thenS]
  apply wpS_seq
  apply wpS_region
  simp [wpOpsS, go_sem, Exit.thenS]
  refine wpS_cond (t := false) (by simp [Act.eval, Array.replicate]) ?_
  simp only [Bool.false_eq_true, if_false]
  refine wpS_of_wp (wp_skip ?_)
  cases c₀
  simp_all [bodyPostS, results, Tryd.results17]

set_option maxRecDepth 100000 in
set_option maxHeartbeats 1000000 in
theorem nullable_any (G : Gram) (hr : rightG G = true) (v : Value) (w : World) (h : IsGram w v G) :
    Calls Tryd.prog 9 #[v] w fun e w' => ∃ nb, e = .returned (.slice (some ⟨nb, 0, none⟩) G.syms.length G.syms.length) ∧ w'.heap[nb]? = some (boolsObj (nulL G)) ∧ Below w.heap.size w w' := by
  have hG := h
  obtain ⟨hterms, vs, vp, rfl, hs, hp⟩ := h
  have HB1 := Lib.hid ((Below.refl _ w).alloc (Nat.le_refl _) (Obj.cells #[.int .i64 G.terms, vs, vp] 25 (0, 0)))
  have hV : Calls Tryd.prog 18 #[.agg #[.int .i64 G.terms, vs, vp]] (w.alloc (Obj.cells #[.int .i64 G.terms, vs, vp] 25 (0, 0))) fun e w' => ∃ nb, e = .returned (.slice (some ⟨nb, 0, none⟩) G.syms.length G.syms.length) ∧
      w'.heap[nb]? = some (boolsObj (nulL G)) ∧ Below w.heap.size w w' := by
    refine (vanish_any G hr _ _ (hG.fr (Fr.alloc _ _))).mono ?_
    rintro e w' ⟨r, rfl, b, rfl, h1, h2, h3⟩
    rw [nulL_len]
    exact ⟨b, rfl, h2, HB1.out.trans (h3.mono (by simp))⟩
  have HV := Lib.hid hV
  obtain ⟨_, sa, sc, rfl, _, _, _⟩ := id hs
  obtain ⟨_, pa, pc, rfl, _, _, _⟩ := id hp
  clear hV hG hs hp
  generalize nulL G = no at *
  go_enter_defers Tryd.func9, Tryd.ntmps9
  go_wp2_with (go_at_call 18; refine HV.out.mono ?_; rintro e w2 ⟨nb, rfl, hx⟩; have HX := Lib.hid hx; clear hx)
  refine leaves_cons (f := 17) (args := #[]) (by simp) (by simp [go_sem]) ?_
  refine (quiet_idle _).mono ?_
  rintro e u' w3 ⟨rfl, rfl, rfl⟩
  simp [Leaves, settle, results, Tryd.results9, go_sem]
  exact HX.out
end Go.Proofs.YtfhleelechbdmaaDoor
