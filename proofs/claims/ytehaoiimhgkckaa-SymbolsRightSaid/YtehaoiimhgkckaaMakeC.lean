/-
  Chapter 14's statements: small: the chapter's text.
-/
import Derived.Test.YtehaoiimhgkckaaMakeB
namespace Go.Proofs.Ytehaoiimhgkckaa
open Go.RowKit Go.MapKept Go.ChangeMaps
set_option maxHeartbeats 400000

def nNUM : ByteArray := ⟨#[78, 85, 77]⟩
def nPLUS : ByteArray := ⟨#[80, 76, 85, 83]⟩
def nE : ByteArray := ⟨#[101]⟩
def nTInt : ByteArray := ⟨#[105, 110, 116]⟩
def smallT : Txt := ⟨[⟨kToken, nTInt, [nNUM], 0⟩, ⟨kLeft, nNone, [nPLUS], 0⟩], [⟨nE, 0, [⟨wordsFrom 0 [nE, nPLUS, nE], nNone, false, nNone, 0, 0⟩, ⟨wordsFrom 0 [nNUM], nNone, false, nNone, 0, 0⟩], 0⟩]⟩
theorem isStrs_laid {w : World} {b : Nat} {cs : List ByteArray} {os : Array Value} {n : Nat} (h : w.heap[b]? = some (.cells os 9 (0, 0))) (ho : os = (cs.map Value.string).toArray) (hn : n = cs.length) (hl : n ≤ 1000) : IsStrs w (.slice (some ⟨b, 0, none⟩) n n) cs := by
  subst hn
  refine ⟨by omega, _, _, rfl, Nat.le_refl _, by unfold maxLen; omega, .inr ⟨b, 0, rfl, fun i hi => ?_⟩⟩
  refine obj_cell h _ ?_
  subst ho
  simp [hi]
theorem isWrds_own {w : World} {B : Nat} {v : Value} {l : List Wrd} {n : Nat} (h : w.ownsRow B 67 3 v n (l.flatMap wrdCells)) (hn : n = l.length) (hl : n ≤ 1000) (h0 : ∀ x ∈ l, x.args = 0 ∧ i64 x.at_) : IsWrds w v l := by
  obtain ⟨a, c, rfl, h1, h2, h3⟩ := own_cells h
  subst hn
  refine ⟨by omega, _, _, rfl, h1, h2, ?_⟩
  rcases h3 with h3 | ⟨g, e, _, hc⟩
  · cases l with
    | nil => exact .inl rfl
    | cons x l => simp [wrdCells] at h3
  · refine .inr ⟨g, 0, e, fun i hi => ?_⟩
    obtain ⟨q1, q2⟩ := h0 _ (List.getElem_mem hi)
    refine ⟨q2, none, 0, ?_⟩
    have := flat_cells (m := 3) (f := wrdCells) (fun _ => rfl) hc i hi
    rw [q1]
    simpa [wrdCells] using this
theorem cells_obj {w : World} {b : Nat} {cs : Array Value} {t : TypeId} {f : Nat × Nat} (h : w.heap[b]? = some (.cells cs t f)) (o : Nat) (vs : List Value) (hv : (cs.toList.drop o).take vs.length = vs) : Cells w b o vs := fun i hi => by
  refine obj_cell h (o + i) ?_
  have h1 : ((cs.toList.drop o).take vs.length)[i]? = vs[i]? := by rw [hv]
  rw [List.getElem?_take, if_pos hi, List.getElem?_drop, List.getElem?_eq_getElem hi] at h1
  simpa using h1
def altsO (u v : Value) : Obj := .cells #[u, .string ⟨#[]⟩, .bool false, .string ⟨#[]⟩, .int .i64 0, .int .i64 0, v, .string ⟨#[]⟩, .bool false, .string ⟨#[]⟩, .int .i64 0, .int .i64 0] 60 (0, 0)
def dclsO (b : Nat) : Obj := .cells #[.string kToken, .string nTInt, .slice (some ⟨b + 1, 0, none⟩) 1 1, .int .i64 0, .string kLeft, .string ⟨#[]⟩, .slice (some ⟨b + 1 + 1, 0, none⟩) 1 1, .int .i64 0] 101 (0, 0)
theorem txt_small {w : World} {b r q : Nat} {u v : Value} (h1 : w.heap[b + 1]? = some (.cells #[.string nNUM] 9 (0, 0))) (h2 : w.heap[b + 1 + 1]? = some (.cells #[.string nPLUS] 9 (0, 0))) (h3 : w.heap[b + 1 + 1 + 1]? = some (dclsO b))
    (h4 : w.heap[r]? = some (altsO u v)) (h5 : w.heap[q]? = some (.cells #[.string nE, .slice none 0 0, .slice (some ⟨r, 0, none⟩) 2 2, .int .i64 0] 57 (0, 0))) (hu : IsWrds w u (wordsFrom 0 [nE, nPLUS, nE])) (hv : IsWrds w v (wordsFrom 0 [nNUM])) :
    IsTxt w (.agg #[.slice (some ⟨b + 1 + 1 + 1, 0, none⟩) 2 2, .slice (some ⟨q, 0, none⟩) 1 1]) smallT := by
  have z : i64 0 := by unfold i64; omega
  refine ⟨_, _, rfl, ⟨by simp [smallT], _, _, rfl, by simp [smallT], by unfold maxLen; omega, .inr ⟨_, 0, rfl, fun i hi => ?_⟩⟩, ⟨by simp [smallT], _, _, rfl, by simp [smallT], by unfold maxLen; omega, .inr ⟨_, 0, rfl, fun i hi => ?_⟩⟩⟩
  · match i, hi with
    | 0, _ => exact ⟨z, _, isStrs_laid (cs := [nNUM]) h1 rfl rfl (by simp), cells_obj h3 0 _ rfl⟩
    | 1, _ => exact ⟨z, _, isStrs_laid (cs := [nPLUS]) h2 rfl rfl (by simp), cells_obj h3 4 _ rfl⟩
    | i + 2, h => exact absurd h (by simp [smallT])
  · match i, hi with
    | 0, _ =>
      refine ⟨z, none, 0, .slice (some ⟨r, 0, none⟩) 2 2, ⟨by simp [smallT], _, _, rfl, by simp [smallT], by unfold maxLen; omega, .inr ⟨_, 0, rfl, fun j hj => ?_⟩⟩, cells_obj h5 0 _ rfl⟩
      match j, hj with
      | 0, _ => exact ⟨z, z, u, hu, cells_obj h4 0 _ rfl⟩
      | 1, _ => exact ⟨z, z, v, hv, cells_obj h4 6 _ rfl⟩
      | j + 2, h => exact absurd h (by simp [smallT])
    | i + 1, h => exact absurd h (by simp [smallT])
set_option maxRecDepth 100000 in
set_option maxHeartbeats 4000000 in
theorem small_any (w : World) : Calls Try.prog 35 #[] w fun e w' => ∃ v, e = .returned v ∧ IsTxt w' v smallT ∧ Below w.heap.size w w' := by
  have H1 := Lib.hid fun (W : World) (b : Nat) (h : IsStrs W (.slice (some ⟨b, 0, none⟩) 3 3) [nE, nPLUS, nE]) => words_any [nE, nPLUS, nE] _ W h (by simp)
  have H2 := Lib.hid fun (W : World) (b : Nat) (h : IsStrs W (.slice (some ⟨b, 0, none⟩) 1 1) [nNUM]) => words_any [nNUM] _ W h (by simp)
  go_enter Try.func35, Try.ntmps35
  go_wp2_with (first | (go_at_call 61; (with_reducible refine (H1.out _ _ ?_).mono ?_); exact isStrs_laid (laid_at (by simp)) rfl rfl (by simp); rintro e wA ⟨v1, rfl, hown1, hb1⟩; obtain ⟨a1, c1, rfl, -⟩ := own_cells hown1; have hz1 := hb1.size) | (go_at_call 61; (with_reducible refine (H2.out _ _ ?_).mono ?_); exact isStrs_laid (laid_at (by simp)) rfl rfl (by simp); rintro e wB ⟨v2, rfl, hown2, hb2⟩; obtain ⟨a2, c2, rfl, -⟩ := own_cells hown2; have hz2 := hb2.size; have hr := (Fr.new hb2).obj (alloc_older (o := .cells #[.string ⟨#[78, 85, 77]⟩] 9 (0, 0)) ((Fr.new hb1).obj (alloc_older (alloc_older (alloc_older (alloc_older (alloc_obj w (.cells #[.slice none 0 0, .slice none 0 0] 47 (0, 0))))))) fun e => e)) fun e => e; have g0 : wB.cell? ⟨w.heap.size, 0, none⟩ = some (.slice none 0 0) := obj_cell hr 0 rfl; have g1 : wB.cell? ⟨w.heap.size, 1, none⟩ = some (.slice none 0 0) := obj_cell hr 1 rfl; have f0 := obj_frozen hr 0; have f1 := obj_frozen hr 1; have hlt := World.block_lt_of_cell? wB _ g0))
  clear H1 H2
  refine at_world (Q := bodyPost _ _ _ _ _) (F := fun W => W.cell? ⟨w.heap.size, 0, none⟩ = some (.slice (some ⟨w.heap.size + 1 + 1 + 1, 0, none⟩) 2 2) ∧ W.cell? ⟨w.heap.size, 1, none⟩ = some (.slice (some ⟨wB.heap.size + 1, 0, none⟩) 1 1) ∧
      Fr (only w.heap.size) wB W ∧ W.heap[wB.heap.size]? = some (altsO (.slice a1 3 c1) (.slice a2 1 c2)) ∧ W.heap[wB.heap.size + 1]? = some (.cells #[.string nE, .slice none 0 0, .slice (some ⟨wB.heap.size, 0, none⟩) 2 2, .int .i64 0] 57 (0, 0))) ?_ ?_
  · refine ⟨?_, ?_, ?_, ?_, ?_⟩
    · simp [go_sem, g0, hlt]
    · simp [go_sem, g1, hlt]
    · exact ((Fr.trans (ch := only w.heap.size) (Fr.setCell _ ⟨w.heap.size, 0, none⟩ _) (Fr.setCell _ ⟨w.heap.size, 1, none⟩ _)).trans (Fr.alloc _ _)).trans (Fr.alloc _ _)
    · exact alloc_older (laid_at (by simp))
    · exact laid_at (by simp)
  rintro W ⟨r0, r1, kB, e4, e5⟩
  have hsx : w.heap.size + 5 ≤ wA.heap.size := by
    have := hz1
    simp at this
    omega
  have hsy : wA.heap.size + 1 ≤ wB.heap.size := by
    have := hz2
    simp at this
    omega
  have kA : Fr (only w.heap.size) wA W := ((Fr.alloc _ _).trans (Fr.new hb2)).wide.trans kB
  have e1 : wA.heap[w.heap.size + 1]? = some (.cells #[.string nNUM] 9 (0, 0)) := (Fr.new hb1).obj (alloc_older (alloc_older (alloc_older (laid_at (by simp))))) fun e => e
  have e2 : wA.heap[w.heap.size + 1 + 1]? = some (.cells #[.string nPLUS] 9 (0, 0)) := (Fr.new hb1).obj (alloc_older (alloc_older (laid_at (by simp)))) fun e => e
  have e3 : wA.heap[w.heap.size + 1 + 1 + 1]? = some (dclsO w.heap.size) := (Fr.new hb1).obj (alloc_older (laid_at (by simp))) fun e => e
  have ne : ∀ g, g ≠ w.heap.size → ¬ only w.heap.size g := fun g h e => h e
  refine bodyPost_ret (v := .agg #[.slice (some ⟨w.heap.size + 1 + 1 + 1, 0, none⟩) 2 2, .slice (some ⟨wB.heap.size + 1, 0, none⟩) 1 1]) (by simp [results, Try.results35, go_sem, r0, r1]) rfl ⟨_, rfl, ?_, ?_⟩
  · refine txt_small (kA.obj e1 (ne _ (by omega))) (kA.obj e2 (ne _ (by omega))) (kA.obj e3 (ne _ (by omega))) e4 e5 ?_ ?_
    · refine isWrds_own (n := 3) (own_fr hown1 kA fun g hg e => ?_) rfl (by omega) (by simp [wordsFrom, i64])
      have := (hown1.lt g hg).1
      have e' : g = w.heap.size := e
      simp at this
      omega
    · refine isWrds_own (n := 1) (own_fr hown2 kB fun g hg e => ?_) rfl (by omega) (by simp [wordsFrom, i64])
      have := (hown2.lt g hg).1
      have e' : g = w.heap.size := e
      simp at this
      omega
  · exact (((((((Below.refl _ w).alloc (Nat.le_refl _) _).alloc (by simp) _).alloc (by simp; omega) _).alloc (by simp; omega) _).alloc (by simp; omega) _).trans (hb1.mono (by simp; omega))).trans (kA.below (by omega) fun g e => Nat.le_of_eq (show g = w.heap.size from e).symm)
end Go.Proofs.Ytehaoiimhgkckaa
