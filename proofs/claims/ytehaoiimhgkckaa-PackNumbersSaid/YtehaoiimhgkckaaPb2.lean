/-
  Chapter 24's statements: the grammar of two terminals and one rule.
-/
import Derived.Test.YtehaoiimhgkckaaPa1
import Derived.Test.YtehaoiimhgkckaaGram2
import Derived.Test.YtehaoiimhgkckaaGramK
namespace Go.Proofs.Ytehaoiimhgkckaa
open Go.RowKit
set_option maxHeartbeats 400000

def plS (n : ByteArray) : Sym := ⟨n, nNone, 0, 0⟩
def plP (left : Int) (right : List Int) : Prd := ⟨left, right, -1, false, nNone, 0⟩
theorem plS_ok (n : ByteArray) : SymOk (plS n) := ⟨show i64 0 by unfold i64; decide, (by decide : (0 : Int) ≤ 0 ∧ (0 : Int) ≤ 255)⟩
theorem plP_ok {l : Int} {r : List Int} (hl : i64 l) : PrdOk (plP l r) := ⟨hl, show i64 (-1) by unfold i64; decide, show i64 0 by unfold i64; decide⟩
/-- The chapter's grammar. -/
def oneG : Gram := ⟨3, [plS ⟨#[36, 101, 110, 100]⟩, plS ⟨#[43]⟩, plS ⟨#[110]⟩, plS ⟨#[36, 97, 99, 99, 101, 112, 116]⟩, plS ⟨#[101]⟩], [plP 3 [4], plP 4 [4, 1, 4], plP 4 [2]]⟩
theorem one_right : rightG oneG = true := by kernel_rfl
theorem one_any (w : World) :
    Calls Try.prog 25 #[] w fun e w' => ∃ v, e = .returned v ∧ IsGram w' v oneG ∧ Below w.heap.size w w' := by
  go_enter Try.func25, Try.ntmps25
  go_wp2
  go_returns
  refine ⟨_, rfl, ?_, by repeat (first | exact Below.refl _ _ | refine below_alloc ?_)⟩
  have key : ∀ wf : World,
      wf.heap[w.heap.size + 1]? = some (.cells (oneG.syms.flatMap symCells).toArray 65 (0, 0)) →
      wf.heap[w.heap.size + 1 + 1]? = some (.cells #[.int .i64 4] 3 (0, 0)) →
      wf.heap[w.heap.size + 1 + 1 + 1]? = some (.cells #[.int .i64 4, .int .i64 1, .int .i64 4] 3 (0, 0)) →
      wf.heap[w.heap.size + 1 + 1 + 1 + 1]? = some (.cells #[.int .i64 2] 3 (0, 0)) →
      wf.heap[w.heap.size + 1 + 1 + 1 + 1 + 1]? = some (.cells (([(plP 3 [4], .slice (some ⟨w.heap.size + 1 + 1, 0, none⟩) 1 1), (plP 4 [4, 1, 4], .slice (some ⟨w.heap.size + 1 + 1 + 1, 0, none⟩) 3 3), (plP 4 [2], .slice (some ⟨w.heap.size + 1 + 1 + 1 + 1, 0, none⟩) 1 1)] : List (Prd × Value)).flatMap fun x => prdCells x.1 x.2).toArray 62 (0, 0)) →
      IsGram wf (.agg #[.int .i64 3, .slice (some ⟨w.heap.size + 1, 0, none⟩) 5 5, .slice (some ⟨w.heap.size + 1 + 1 + 1 + 1 + 1, 0, none⟩) 3 3]) oneG := by
    intro wf h1 h2 h3 h4 h5
    refine ⟨show i64 3 by unfold i64; decide, _, _, rfl, syms_obj h1 rfl ?_ rfl (by simp [oneG]), ?_⟩
    · intro s hs
      simp only [oneG, List.mem_cons, List.not_mem_nil, or_false] at hs
      rcases hs with rfl | rfl | rfl | rfl | rfl <;> exact plS_ok _
    · refine prds_obj h5 rfl ?_ rfl (by simp)
      intro x hx
      simp only [List.mem_cons, List.not_mem_nil, or_false] at hx
      rcases hx with rfl | rfl | rfl
      · exact ⟨plP_ok (by unfold i64; decide), ints_obj (xs := [4]) h2 rfl (by decide) rfl (by decide)⟩
      · exact ⟨plP_ok (by unfold i64; decide), ints_obj (xs := [4, 1, 4]) h3 rfl (by decide) rfl (by decide)⟩
      · exact ⟨plP_ok (by unfold i64; decide), ints_obj (xs := [2]) h4 rfl (by decide) rfl (by decide)⟩
  refine key _ ?_ ?_ ?_ ?_ ?_
  all_goals repeat (first | (refine alloc_at ?_; simp; done) | refine alloc_older ?_)
end Go.Proofs.Ytehaoiimhgkckaa
