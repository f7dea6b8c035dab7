/-
  The law's helpers of package clash: entries, grammars, picks.
-/
import Derived.Test.YtijdaihcogbliaaClash5
import Derived.Test.YtijdaihcogbliaaGram2
namespace Go.Proofs.Ytijdaihcogbliaa
open Go.RowKit Go.MapKept Go.ChangeMaps
set_option maxHeartbeats 400000

theorem act_any (k t : Int) (w : World) : Calls Try.prog 15 #[.int .u8 k, .int .i64 t] w fun e w' => e = .returned (entVal ⟨k, t⟩) ∧ Below w.heap.size w w' := by
  go_enter Try.func15, Try.ntmps15
  go_wp2
  go_returns
  exact ⟨rfl, (Below.refl _ _).alloc (Nat.le_refl _) _⟩

theorem picks_any (G : Gram) (term : Int) (a b : Ent) (won : Int) (byP : Bool) (v : Value) (w : World) (h : IsGram w v G) (ha : EntOk a) (hb : EntOk b) :
    Calls Try.prog 29 #[v, .int .i64 term, entVal a, entVal b, .int .i64 won, .bool byP] w fun e w' =>
      e = .returned (.bool (decide ((pickE G term a b).1 = won) && ((pickE G term a b).2 == byP))) ∧ Below w.heap.size w w' := by
  have hG := h
  obtain ⟨hterms, vs, vp, rfl, hs, hp⟩ := h
  obtain ⟨_, sa, sc, rfl, _, _, _⟩ := id hs
  obtain ⟨_, pa, pc, rfl, _, _, _⟩ := id hp
  have hx := two_boxes w (.cells #[.int .i64 G.terms, .slice sa G.syms.length sc, .slice pa G.prods.length pc] 25 (0, 0)) (.cells #[.int .u8 a.kind, .int .i64 a.to] 28 (0, 0))
  have hB : Below w.heap.size w (((w.alloc (.cells #[.int .i64 G.terms, .slice sa G.syms.length sc, .slice pa G.prods.length pc] 25 (0, 0))).alloc (.cells #[.int .u8 a.kind, .int .i64 a.to] 28 (0, 0))).alloc (.cells #[.int .u8 b.kind, .int .i64 b.to] 28 (0, 0))) := hx.2.2.alloc (by simp; omega) _
  have hpk := pick_any G term a b _ _ (hG.fr (Fr.new hB)) ha hb
  unfold entVal at hpk
  unfold entVal
  have HP := Lib.hid hpk
  have HB := Lib.hid hB
  clear hpk hB hx hG hs hp
  generalize pickE G term a b = x at *
  obtain ⟨x1, x2⟩ := x
  obtain ⟨E1, e1⟩ : ∃ y, decide (x1 = won) = y := ⟨_, rfl⟩
  have t1 : (x1 == won) = E1 := by rw [← e1]; rfl
  obtain ⟨E2, e2⟩ : ∃ y, (x2 == byP) = y := ⟨_, rfl⟩
  have HE := Lib.hid (And.intro e1 e2)
  clear e1
  cases E1 <;> cases E2
  all_goals
   go_enter Try.func29, Try.ntmps29
   go_wp2_with (go_at_call 12; refine HP.out.mono ?_; rintro e w' ⟨rfl, hw'⟩)
   go_ret
   exact ⟨congrArg (fun t => Ending.returned (Value.bool t)) (by simp [HE.out.1, HE.out.2]), HB.out.trans (hw'.mono HB.out.size)⟩

def noSym (n : ByteArray) : Sym := ⟨n, nNone, 0, 0⟩
def noPrd (left : Int) (right : List Int) (prec : Int) : Prd := ⟨left, right, prec, false, nNone, 0⟩
theorem noSym_ok (n : ByteArray) : SymOk (noSym n) := ⟨show i64 0 by unfold i64; decide, (by decide : (0 : Int) ≤ 0 ∧ (0 : Int) ≤ 255)⟩
theorem noPrd_ok {l p : Int} {r : List Int} (hl : i64 l) (hp : i64 p) : PrdOk (noPrd l r p) := ⟨hl, hp, show i64 0 by unfold i64; decide⟩
def grammarE (a b : Sym) : Gram :=
  ⟨3, [noSym nEnd, ⟨⟨#[65]⟩, a.type, a.level, a.assoc⟩, ⟨⟨#[66]⟩, b.type, b.level, b.assoc⟩, noSym nAccept, noSym ⟨#[101]⟩], [noPrd 3 [4] (-1), noPrd 4 [4, 1, 4] 1, noPrd 4 [4, 2, 4] 2, noPrd 4 [] (-1)]⟩
theorem grammar_any (a b : Sym) (w : World) (ha : SymOk a) (hb : SymOk b) :
    Calls Try.prog 16 #[symVal a, symVal b] w fun e w' => ∃ v, e = .returned v ∧ IsGram w' v (grammarE a b) ∧ Below w.heap.size w w' := by
  unfold symVal
  go_enter Try.func16, Try.ntmps16
  go_wp2
  go_returns
  refine ⟨_, rfl, ?_, by repeat (first | exact Below.refl _ _ | refine below_alloc ?_)⟩
  have key : ∀ wf : World,
      wf.heap[w.heap.size + 1 + 1 + 1]? = some (.cells ((grammarE a b).syms.flatMap symCells).toArray 41 (0, 0)) →
      wf.heap[w.heap.size + 1 + 1 + 1 + 1]? = some (.cells #[.int .i64 4] 3 (0, 0)) →
      wf.heap[w.heap.size + 1 + 1 + 1 + 1 + 1]? = some (.cells #[.int .i64 4, .int .i64 1, .int .i64 4] 3 (0, 0)) →
      wf.heap[w.heap.size + 1 + 1 + 1 + 1 + 1 + 1]? = some (.cells #[.int .i64 4, .int .i64 2, .int .i64 4] 3 (0, 0)) →
      wf.heap[w.heap.size + 1 + 1 + 1 + 1 + 1 + 1 + 1]? = some (.cells (([(noPrd 3 [4] (-1), .slice (some ⟨w.heap.size + 1 + 1 + 1 + 1, 0, none⟩) 1 1), (noPrd 4 [4, 1, 4] 1, .slice (some ⟨w.heap.size + 1 + 1 + 1 + 1 + 1, 0, none⟩) 3 3), (noPrd 4 [4, 2, 4] 2, .slice (some ⟨w.heap.size + 1 + 1 + 1 + 1 + 1 + 1, 0, none⟩) 3 3), (noPrd 4 [] (-1), .slice none 0 0)].flatMap fun x => prdCells x.1 x.2)).toArray 44 (0, 0)) →
      IsGram wf (.agg #[.int .i64 3, .slice (some ⟨w.heap.size + 1 + 1 + 1, 0, none⟩) 5 5, .slice (some ⟨w.heap.size + 1 + 1 + 1 + 1 + 1 + 1 + 1, 0, none⟩) 4 4]) (grammarE a b) := by
    intro wf h1 h2 h3 h4 h5
    refine ⟨show i64 3 by unfold i64; decide, _, _, rfl, syms_obj h1 rfl ?_ rfl (by simp [grammarE]), ?_⟩
    · intro s hs
      simp only [grammarE, List.mem_cons, List.not_mem_nil, or_false] at hs
      rcases hs with rfl | rfl | rfl | rfl | rfl
      · exact noSym_ok _
      · exact ⟨ha.level, ha.assoc⟩
      · exact ⟨hb.level, hb.assoc⟩
      · exact noSym_ok _
      · exact noSym_ok _
    · refine prds_obj h5 rfl ?_ rfl (by simp)
      intro x hx
      simp only [List.mem_cons, List.not_mem_nil, or_false] at hx
      rcases hx with rfl | rfl | rfl | rfl
      · exact ⟨noPrd_ok (by unfold i64; decide) (by unfold i64; decide), ints_obj (xs := [4]) h2 rfl (by decide) rfl (by decide)⟩
      · exact ⟨noPrd_ok (by unfold i64; decide) (by unfold i64; decide), ints_obj (xs := [4, 1, 4]) h3 rfl (by decide) rfl (by decide)⟩
      · exact ⟨noPrd_ok (by unfold i64; decide) (by unfold i64; decide), ints_obj (xs := [4, 2, 4]) h4 rfl (by decide) rfl (by decide)⟩
      · exact ⟨noPrd_ok (by unfold i64; decide) (by unfold i64; decide), Ints.nil _⟩
  refine key _ ?_ ?_ ?_ ?_ ?_
  all_goals repeat (first | (refine alloc_at ?_; simp; done) | refine alloc_older ?_)
end Go.Proofs.Ytijdaihcogbliaa
