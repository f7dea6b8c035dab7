/-
  Chapter 19's statements: the chapter's grammar.
-/
import Derived.Test.YtgmkpncpcikecaaItQ
namespace Go.Proofs.Ytgmkpncpcikecaa
open Go.RowKit Go.MapKept Go.ChangeMaps
set_option maxHeartbeats 400000

def plS (n : ByteArray) : Sym := ⟨n, nNone, 0, 0⟩
def plP (left : Int) (right : List Int) : Prd := ⟨left, right, -1, false, nNone, 0⟩
theorem plS_ok (n : ByteArray) : SymOk (plS n) := ⟨show i64 0 by unfold i64; decide, (by decide : (0 : Int) ≤ 0 ∧ (0 : Int) ≤ 255)⟩
theorem plP_ok {l : Int} {r : List Int} (hl : i64 l) : PrdOk (plP l r) := ⟨hl, show i64 (-1) by unfold i64; decide, show i64 0 by unfold i64; decide⟩
/-- The chapter's grammar. -/
def smG : Gram := ⟨3, [plS ⟨#[36, 101, 110, 100]⟩, plS ⟨#[43]⟩, plS ⟨#[110]⟩, plS ⟨#[36, 97, 99, 99, 101, 112, 116]⟩, plS ⟨#[101]⟩], [plP 3 [4], plP 4 [4, 1, 2], plP 4 [2]]⟩
theorem sm_right : rightG smG = true := by kernel_rfl
theorem none_right : rightG ⟨0, [], []⟩ = false := by kernel_rfl
theorem sm_col : colI smG = some ([[(0, 0)], [(2, 1)], [(0, 1), (1, 1)], [(1, 2)], [(1, 3)]], [[(2, 1), (4, 2)], [], [(1, 3)], [(2, 4)], []]) := by kernel_rfl
theorem sm_clo : closE smG [(0, 0)] = [(0, 0), (1, 0), (2, 0)] := by kernel_rfl
theorem sm_goto : gotoE smG [(0, 0)] 4 = [(0, 1), (1, 1)] := by kernel_rfl
theorem small_any (w : World) :
    Calls Try.prog 27 #[] w fun e w' => ∃ v, e = .returned v ∧ IsGram w' v smG ∧ Below w.heap.size w w' := by
  go_enter Try.func27, Try.ntmps27
  go_wp2
  go_returns
  refine ⟨_, rfl, ?_, by repeat (first | exact Below.refl _ _ | refine below_alloc ?_)⟩
  have key : ∀ wf : World,
      wf.heap[w.heap.size + 1]? = some (.cells (smG.syms.flatMap symCells).toArray 53 (0, 0)) →
      wf.heap[w.heap.size + 1 + 1]? = some (.cells #[.int .i64 4] 3 (0, 0)) →
      wf.heap[w.heap.size + 1 + 1 + 1]? = some (.cells #[.int .i64 4, .int .i64 1, .int .i64 2] 3 (0, 0)) →
      wf.heap[w.heap.size + 1 + 1 + 1 + 1]? = some (.cells #[.int .i64 2] 3 (0, 0)) →
      wf.heap[w.heap.size + 1 + 1 + 1 + 1 + 1]? = some (.cells (([(plP 3 [4], .slice (some ⟨w.heap.size + 1 + 1, 0, none⟩) 1 1), (plP 4 [4, 1, 2], .slice (some ⟨w.heap.size + 1 + 1 + 1, 0, none⟩) 3 3), (plP 4 [2], .slice (some ⟨w.heap.size + 1 + 1 + 1 + 1, 0, none⟩) 1 1)] : List (Prd × Value)).flatMap fun x => prdCells x.1 x.2).toArray 48 (0, 0)) →
      IsGram wf (.agg #[.int .i64 3, .slice (some ⟨w.heap.size + 1, 0, none⟩) 5 5, .slice (some ⟨w.heap.size + 1 + 1 + 1 + 1 + 1, 0, none⟩) 3 3]) smG := by
    intro wf h1 h2 h3 h4 h5
    refine ⟨show i64 3 by unfold i64; decide, _, _, rfl, syms_obj h1 rfl ?_ rfl (by simp [smG]), ?_⟩
    · intro s hs
      simp only [smG, List.mem_cons, List.not_mem_nil, or_false] at hs
      rcases hs with rfl | rfl | rfl | rfl | rfl <;> exact plS_ok _
    · refine prds_obj h5 rfl ?_ rfl (by simp)
      intro x hx
      simp only [List.mem_cons, List.not_mem_nil, or_false] at hx
      rcases hx with rfl | rfl | rfl
      · exact ⟨plP_ok (by unfold i64; decide), ints_obj (xs := [4]) h2 rfl (by decide) rfl (by decide)⟩
      · exact ⟨plP_ok (by unfold i64; decide), ints_obj (xs := [4, 1, 2]) h3 rfl (by decide) rfl (by decide)⟩
      · exact ⟨plP_ok (by unfold i64; decide), ints_obj (xs := [2]) h4 rfl (by decide) rfl (by decide)⟩
  refine key _ ?_ ?_ ?_ ?_ ?_
  all_goals repeat (first | (refine alloc_at ?_; simp; done) | refine alloc_older ?_)
theorem items_obj {w : World} {b : Nat} {cs : Array Value} {t : TypeId} {z : Nat × Nat} {l : List It} {n : Nat} (h : w.heap[b]? = some (.cells cs t z)) (hcs : cs = (l.flatMap encI).toArray) (hi : ∀ x ∈ l, i64 x.1 ∧ i64 x.2) (hn : n = l.length) (hl : l.length ≤ 1000000) : IsItems w (.slice (some ⟨b, 0, none⟩) n n) l := by
  subst hn
  refine ⟨by omega, _, _, rfl, Nat.le_refl _, by unfold maxLen; omega, .inr ⟨b, 0, rfl, fun i hi' => ⟨hi _ (List.getElem_mem hi'), fun j hj => ?_⟩⟩⟩
  have hj2 : j < 2 := by simpa [encI] using hj
  have h6 := enc_flat_at hi' j hj2
  rw [List.getElem?_eq_getElem hj] at h6
  refine obj_cell h _ ?_
  rw [hcs, Nat.zero_add, List.getElem?_toArray]
  exact h6
theorem none_gram (w : World) : IsGram w (.agg #[.int .i64 0, .slice none 0 0, .slice none 0 0]) ⟨0, [], []⟩ :=
  ⟨show i64 0 by unfold i64; decide, _, _, rfl, ⟨by simp, none, 0, rfl, Nat.le_refl _, by unfold maxLen; omega, .inl rfl⟩, ⟨by simp, none, 0, rfl, Nat.le_refl _, by unfold maxLen; omega, .inl rfl⟩⟩
theorem same19_any (u v : Value) (K L : List Stt) (w : World) (hu : IsStates w u K) (hv : IsStates w v L) :
    Calls Try.prog 9 #[u, v] w fun e w' => e = .returned (.bool (decide (K = L))) ∧ Below w.heap.size w w' := by
  have H := Lib.hid (sameStates_any u v K L w hu hv)
  obtain ⟨a, c, rfl, -, -, -⟩ := hu.parts
  obtain ⟨a', c', rfl, -, -, -⟩ := hv.parts
  clear hu hv
  generalize decide (K = L) = b at *
  generalize K.length = kn at *
  generalize L.length = ln at *
  go_enter Try.func9, Try.ntmps9
  go_wp2_with (go_at_call 26; refine H.out.mono ?_; rintro e w1 ⟨rfl, hb1⟩)
  go_ret
  exact ⟨rfl, hb1⟩
end Go.Proofs.Ytgmkpncpcikecaa
