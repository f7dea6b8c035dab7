/-
  Each two entries of all kinds: the statement's grammars, block by block.
-/
import Derived.Test.YtijdaihcogbliaaPicksLaw
namespace Go.Proofs.Ytijdaihcogbliaa
open Go.RowKit
set_option maxHeartbeats 400000

def numProds : List Prd := [noPrd 3 [4] (-1), noPrd 4 [4, 1, 4] 1, noPrd 4 [4, 2, 4] 2, noPrd 4 [] (-1)]
def symsOf (la aa lb ab : Int) : List Sym := [noSym nEnd, ⟨⟨#[65]⟩, nNone, la, aa⟩, ⟨⟨#[66]⟩, nNone, lb, ab⟩, noSym nAccept, noSym ⟨#[101]⟩]
/-- The grammar's blocks behind B: its symbols, the numbers of its productions, these. -/
def NumObjs (w : World) (B : Nat) (syms : List Sym) : Prop :=
  w.heap[B]? = some (.cells (syms.flatMap symCells).toArray 41 (0, 0)) ∧
  w.heap[B + 1]? = some (.cells #[.int .i64 4] 3 (0, 0)) ∧
  w.heap[B + 1 + 1]? = some (.cells #[.int .i64 4, .int .i64 1, .int .i64 4] 3 (0, 0)) ∧
  w.heap[B + 1 + 1 + 1]? = some (.cells #[.int .i64 4, .int .i64 2, .int .i64 4] 3 (0, 0)) ∧
  w.heap[B + 1 + 1 + 1 + 1]? = some (.cells (([(noPrd 3 [4] (-1), .slice (some ⟨B + 1, 0, none⟩) 1 1), (noPrd 4 [4, 1, 4] 1, .slice (some ⟨B + 1 + 1, 0, none⟩) 3 3), (noPrd 4 [4, 2, 4] 2, .slice (some ⟨B + 1 + 1 + 1, 0, none⟩) 3 3), (noPrd 4 [] (-1), .slice none 0 0)].flatMap fun x => prdCells x.1 x.2)).toArray 44 (0, 0))
theorem NumObjs.gram {w : World} {B : Nat} {la aa lb ab : Int} (h : NumObjs w B (symsOf la aa lb ab)) (h1 : i64 la ∧ 0 ≤ aa ∧ aa ≤ 255) (h2 : i64 lb ∧ 0 ≤ ab ∧ ab ≤ 255) :
    IsGram w (.agg #[.int .i64 3, .slice (some ⟨B, 0, none⟩) 5 5, .slice (some ⟨B + 1 + 1 + 1 + 1, 0, none⟩) 4 4]) ⟨3, symsOf la aa lb ab, numProds⟩ := by
  obtain ⟨p1, p2, p3, p4, p5⟩ := h
  refine ⟨show i64 3 by unfold i64; decide, _, _, rfl, syms_obj p1 rfl ?_ rfl (by simp [symsOf]), ?_⟩
  · intro s hs
    simp only [symsOf, List.mem_cons, List.not_mem_nil, or_false] at hs
    rcases hs with rfl | rfl | rfl | rfl | rfl
    · exact noSym_ok _
    · exact ⟨h1.1, h1.2⟩
    · exact ⟨h2.1, h2.2⟩
    · exact noSym_ok _
    · exact noSym_ok _
  · refine prds_obj p5 rfl ?_ rfl (by simp)
    intro x hx
    simp only [List.mem_cons, List.not_mem_nil, or_false] at hx
    rcases hx with rfl | rfl | rfl | rfl
    · exact ⟨noPrd_ok (by unfold i64; decide) (by unfold i64; decide), ints_obj (xs := [4]) p2 rfl (by decide) rfl (by decide)⟩
    · exact ⟨noPrd_ok (by unfold i64; decide) (by unfold i64; decide), ints_obj (xs := [4, 1, 4]) p3 rfl (by decide) rfl (by decide)⟩
    · exact ⟨noPrd_ok (by unfold i64; decide) (by unfold i64; decide), ints_obj (xs := [4, 2, 4]) p4 rfl (by decide) rfl (by decide)⟩
    · exact ⟨noPrd_ok (by unfold i64; decide) (by unfold i64; decide), Ints.nil _⟩
theorem NumObjs.fits (la aa lb ab : Int) : Fits ⟨3, symsOf la aa lb ab, numProds⟩ := by
  refine ⟨fun s hs => ?_, fun s hs => ?_, fun p hp => ?_⟩
  · simp only [symsOf, List.mem_cons, List.not_mem_nil, or_false] at hs
    rcases hs with rfl | rfl | rfl | rfl | rfl <;> exact Nat.le_of_ble_eq_true rfl
  · simp only [symsOf, List.mem_cons, List.not_mem_nil, or_false] at hs
    rcases hs with rfl | rfl | rfl | rfl | rfl <;> exact Nat.le_of_ble_eq_true rfl
  · simp only [numProds, List.mem_cons, List.not_mem_nil, or_false] at hp
    rcases hp with rfl | rfl | rfl | rfl <;> exact Nat.le_of_ble_eq_true rfl
theorem NumObjs.fr {w w' : World} {B : Nat} {l : List Sym} {ch : Nat → Prop} (h : NumObjs w B l) (k : Fr ch w w') (hc : ∀ g, B ≤ g → ¬ ch g) : NumObjs w' B l :=
  ⟨k.obj h.1 (hc _ (by omega)), k.obj h.2.1 (hc _ (by omega)), k.obj h.2.2.1 (hc _ (by omega)), k.obj h.2.2.2.1 (hc _ (by omega)), k.obj h.2.2.2.2 (hc _ (by omega))⟩
/-- The third symbol's level is turned to two. -/
theorem NumObjs.turn {w : World} {B : Nat} {la aa lb ab : Int} (h : NumObjs w B (symsOf la aa lb ab)) : NumObjs (w.setCell ⟨B, 10, none⟩ (.int .i64 2)) B (symsOf la aa 2 ab) := by
  have hf := Fr.setCell w ⟨B, 10, none⟩ (.int .i64 2)
  have hn : ∀ j, 0 < j → ¬ only B (B + j) := fun j hj e => by unfold only at e; omega
  refine ⟨?_, hf.obj h.2.1 (hn 1 (by omega)), hf.obj h.2.2.1 (hn 2 (by omega)), hf.obj h.2.2.2.1 (hn 3 (by omega)), hf.obj h.2.2.2.2 (hn 4 (by omega))⟩
  have := setCell_obj (i := 10) h.1 (.int .i64 2)
  rw [this]
  rfl

set_option maxRecDepth 100000 in
theorem grammarObjs_any (la aa lb ab : Int) (w : World) :
    Calls Try.prog 16 #[.agg #[.string ⟨#[]⟩, .string ⟨#[]⟩, .int .i64 la, .int .u8 aa], .agg #[.string ⟨#[]⟩, .string ⟨#[]⟩, .int .i64 lb, .int .u8 ab]] w fun e w' =>
      ∃ B, w.heap.size ≤ B ∧ e = .returned (.agg #[.int .i64 3, .slice (some ⟨B, 0, none⟩) 5 5, .slice (some ⟨B + 1 + 1 + 1 + 1, 0, none⟩) 4 4]) ∧ NumObjs w' B (symsOf la aa lb ab) ∧ Below w.heap.size w w' := by
  go_enter Try.func16, Try.ntmps16
  go_wp2
  go_returns
  refine ⟨w.heap.size + 1 + 1 + 1, by omega, rfl, ⟨?_, ?_, ?_, ?_, ?_⟩, by repeat (first | exact Below.refl _ _ | refine below_alloc ?_)⟩
  all_goals repeat (first | (refine alloc_at ?_; simp; done) | refine alloc_older ?_)
end Go.Proofs.Ytijdaihcogbliaa
