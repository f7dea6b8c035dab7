/-
  Chapter 19's statements: the chapter's example.
-/
import Derived.Test.YtgmkpncpcikecaaJtP
namespace Go.Proofs.Ytgmkpncpcikecaa
open Go.RowKit Go.MapKept Go.ChangeMaps
set_option maxHeartbeats 400000

theorem states_obj {w : World} {b : Nat} {cs : Array Value} {t : TypeId} {z : Nat × Nat} {l : List ((Value × Value) × Stt)} {n : Nat} (h : w.heap[b]? = some (.cells cs t z)) (hcs : cs = (l.flatMap fun x => [x.1.1, x.1.2]).toArray) (hok : ∀ x ∈ l, IsItems w x.1.1 x.2.1 ∧ IsItems w x.1.2 x.2.2) (hn : n = l.length) (hl : l.length ≤ 1000000) : IsStates w (.slice (some ⟨b, 0, none⟩) n n) (l.map Prod.snd) := by
  subst hn
  refine ⟨by simp; omega, some ⟨b, 0, none⟩, l.length, by simp, by simp, by unfold maxLen; omega, .inr ⟨b, 0, rfl, fun i hi => ?_⟩⟩
  have hi' : i < l.length := by simpa using hi
  have h1 := obj_flat (m := 2) h hcs (fun _ => rfl) i hi'
  have h2 := hok _ (List.getElem_mem hi')
  simp only [List.getElem_map]
  have c0 := h1 0 (by simp)
  have c1 := h1 1 (by simp)
  simp only [List.getElem_cons_zero, List.getElem_cons_succ, Nat.add_zero] at c0 c1
  exact ⟨_, _, h2.1, h2.2, by rw [Nat.zero_add]; exact c0, by rw [Nat.zero_add]; exact c1⟩
def smS : List Stt := [([(0, 0)], [(2, 1), (4, 2)]), ([(2, 1)], []), ([(0, 1), (1, 1)], [(1, 3)]), ([(1, 2)], [(2, 4)]), ([(1, 3)], [])]
/-- Collection of the chapter's grammar. -/
theorem col_small (v : Value) (w : World) (h : IsGram w v smG) : Calls Try.prog 7 #[v] w fun e w' => ∃ a c, e = .returned (.tuple #[.slice a 5 c, .int .i64 0]) ∧ IsStates w' (.slice a 5 c) smS ∧ Below w.heap.size w w' := by
  refine (colF_any smG v w h).mono ?_
  rintro e w' ⟨hb, hc⟩
  rw [if_neg (by rw [sm_right]; decide), sm_col] at hc
  obtain ⟨B, sb, am, lv, vs, rfl, hst, -⟩ := hc
  have := hst.states (by have := hst.lk; simp at this; omega) (by intro k hk; simp only [List.mem_cons, List.not_mem_nil, or_false] at hk; rcases hk with rfl | rfl | rfl | rfl | rfl <;> simp) (by
    intro k hk
    simp only [List.mem_cons, List.not_mem_nil, or_false] at hk
    rcases hk with rfl | rfl | rfl | rfl | rfl <;> simp [i64])
  obtain ⟨a, c, e, -, -, -⟩ := this.parts
  have e' : lv = .slice a 5 c := e
  subst e'
  exact ⟨a, c, rfl, this, hb⟩
theorem col_zero (w : World) : Calls Try.prog 7 #[.agg #[.int .i64 0, .slice none 0 0, .slice none 0 0]] w fun e w' => e = .returned (.tuple #[.slice none 0 0, .int .i64 2]) ∧ Below w.heap.size w w' := by
  refine (colF_any _ _ w (none_gram w)).mono ?_
  rintro e w' ⟨hb, hc⟩
  rw [if_pos none_right] at hc
  exact ⟨hc, hb⟩
theorem same19_true (u v : Value) (w : World) (hu : IsStates w u smS) (hv : IsStates w v smS) :
    Calls Try.prog 9 #[u, v] w fun e w' => e = .returned (.bool true) ∧ Below w.heap.size w w' := by
  have := same19_any u v smS smS w hu hv
  rwa [decide_eq_true rfl] at this
theorem clo_small (v : Value) (w : World) (h : IsGram w v smG) : Calls Try.prog 15 #[v, .slice (some ⟨w.heap.size, 0, none⟩) 1 1] (w.alloc (Obj.cells #[.int .i64 0, .int .i64 0] 41 (0, 0))) fun e w' =>
    ∃ a c, e = .returned (.slice a 3 c) ∧ IsItems w' (.slice a 3 c) [(0, 0), (1, 0), (2, 0)] ∧ Below w.heap.size w w' := by
  refine (closureF_any smG v _ [(0, 0)] _ (h.fr (Fr.alloc _ _)) (items_obj (alloc_obj w _) rfl (by simp [i64]) rfl (by simp)) (by simp [smG]) (by simp)).mono ?_
  rintro e w' ⟨u, rfl, hu, hb⟩
  rw [sm_clo] at hu
  have hi := hu.items (by simp [i64]) (by simp)
  obtain ⟨a, c, e, -, -, -⟩ := hi.parts
  have e' : u = .slice a 3 c := e
  subst e'
  exact ⟨a, c, rfl, hi, ((Below.refl _ w).alloc (Nat.le_refl _) _).trans (hb.mono (by simp))⟩
theorem goto_small (v : Value) (w : World) (h : IsGram w v smG) : Calls Try.prog 14 #[v, .slice (some ⟨w.heap.size, 0, none⟩) 1 1, .int .i64 4] (w.alloc (Obj.cells #[.int .i64 0, .int .i64 0] 41 (0, 0))) fun e w' =>
    ∃ a c, e = .returned (.slice a 2 c) ∧ IsItems w' (.slice a 2 c) [(0, 1), (1, 1)] ∧ Below w.heap.size w w' := by
  refine (gotoF_any smG v _ [(0, 0)] _ (h.fr (Fr.alloc _ _)) (items_obj (alloc_obj w _) rfl (by simp [i64]) rfl (by simp)) 4 (by simp [smG]) (by simp)).mono ?_
  rintro e w' ⟨u, rfl, hu, hb⟩
  rw [sm_goto] at hu
  have hi := hu.items (by simp [i64]) (by simp)
  obtain ⟨a, c, e, -, -, -⟩ := hi.parts
  have e' : u = .slice a 2 c := e
  subst e'
  exact ⟨a, c, rfl, hi, ((Below.refl _ w).alloc (Nat.le_refl _) _).trans (hb.mono (by simp))⟩
theorem same_small (u : Value) (L : List It) (cs : Array Value) (n : Nat) (w : World) (h : IsItems w u L) (hcs : cs = (L.flatMap encI).toArray) (hi : ∀ x ∈ L, i64 x.1 ∧ i64 x.2) (hn : n = L.length) (hl : L.length ≤ 1000000) :
    Calls Try.prog 13 #[u, .slice (some ⟨w.heap.size, 0, none⟩) n n] (w.alloc (Obj.cells cs 41 (0, 0))) fun e w' => e = .returned (.bool true) ∧ Below w.heap.size w w' := by
  refine (sameItems_any u _ L L _ (h.fr (Fr.alloc _ _)) (items_obj (alloc_obj w _) hcs hi hn hl)).mono ?_
  rintro e w' ⟨rfl, m, rfl⟩
  exact ⟨by rw [decide_eq_true rfl], below_drewN ((Below.refl _ w).alloc (Nat.le_refl _) _) _⟩

set_option maxRecDepth 100000 in
set_option maxHeartbeats 4000000 in
theorem awake19_any (w : World) : Calls Try.prog 10 #[] w fun e w' => e = .returned (.bool true) ∧ Below w.heap.size w w' := by
  go_enter Try.func10, Try.ntmps10
  go_upto_region 2 with (first | (go_at_call 27; refine (small_any _).mono ?_; rintro e w1 ⟨v1, rfl, hg1, hb1⟩) | (go_at_call 7; refine (col_small _ _ hg1).mono ?_; rintro e w2 ⟨sa, sc, rfl, hs2, hb2⟩))
  have hB2 : Below w.heap.size w w2 := hb1.trans (hb2.mono hb1.size)
  have H2 := Lib.hid (And.intro hs2 hB2)
  clear hs2 hB2 hb1 hb2 hg1
  go_upto_region 3 with fail
  refine wp_at (F := fun W => IsStates W (.slice (some ⟨w2.heap.size + 1 + 1 + 1 + 1 + 1 + 1 + 1 + 1, 0, none⟩) 5 5) smS ∧ Below w2.heap.size w2 W) ?_ ?_
  · refine ⟨?_, by repeat (first | exact Below.refl _ _ | refine below_alloc ?_)⟩
    have key : ∀ (wf : World) (n0 : Nat),
        wf.heap[n0]? = some (.cells #[.int .i64 0, .int .i64 0] 41 (0, 0)) →
        wf.heap[n0 + 1]? = some (.cells #[.int .i64 2, .int .i64 1, .int .i64 4, .int .i64 2] 44 (0, 0)) →
        wf.heap[n0 + 1 + 1]? = some (.cells #[.int .i64 2, .int .i64 1] 41 (0, 0)) →
        wf.heap[n0 + 1 + 1 + 1]? = some (.cells #[.int .i64 0, .int .i64 1, .int .i64 1, .int .i64 1] 41 (0, 0)) →
        wf.heap[n0 + 1 + 1 + 1 + 1]? = some (.cells #[.int .i64 1, .int .i64 3] 44 (0, 0)) →
        wf.heap[n0 + 1 + 1 + 1 + 1 + 1]? = some (.cells #[.int .i64 1, .int .i64 2] 41 (0, 0)) →
        wf.heap[n0 + 1 + 1 + 1 + 1 + 1 + 1]? = some (.cells #[.int .i64 2, .int .i64 4] 44 (0, 0)) →
        wf.heap[n0 + 1 + 1 + 1 + 1 + 1 + 1 + 1]? = some (.cells #[.int .i64 1, .int .i64 3] 41 (0, 0)) →
        wf.heap[n0 + 1 + 1 + 1 + 1 + 1 + 1 + 1 + 1]? = some (.cells #[.slice (some ⟨n0, 0, none⟩) 1 1, .slice (some ⟨n0 + 1, 0, none⟩) 2 2, .slice (some ⟨n0 + 1 + 1, 0, none⟩) 1 1, .slice none 0 0, .slice (some ⟨n0 + 1 + 1 + 1, 0, none⟩) 2 2, .slice (some ⟨n0 + 1 + 1 + 1 + 1, 0, none⟩) 1 1, .slice (some ⟨n0 + 1 + 1 + 1 + 1 + 1, 0, none⟩) 1 1, .slice (some ⟨n0 + 1 + 1 + 1 + 1 + 1 + 1, 0, none⟩) 1 1, .slice (some ⟨n0 + 1 + 1 + 1 + 1 + 1 + 1 + 1, 0, none⟩) 1 1, .slice none 0 0] 39 (0, 0)) →
        IsStates wf (.slice (some ⟨n0 + 1 + 1 + 1 + 1 + 1 + 1 + 1 + 1, 0, none⟩) 5 5) smS := by
      intro wf n0 h0 h1 h2 h3 h4 h5 h6 h7 h8
      refine states_obj (l := [((.slice (some ⟨n0, 0, none⟩) 1 1, .slice (some ⟨n0 + 1, 0, none⟩) 2 2), ([(0, 0)], [(2, 1), (4, 2)])), ((.slice (some ⟨n0 + 1 + 1, 0, none⟩) 1 1, .slice none 0 0), ([(2, 1)], [])), ((.slice (some ⟨n0 + 1 + 1 + 1, 0, none⟩) 2 2, .slice (some ⟨n0 + 1 + 1 + 1 + 1, 0, none⟩) 1 1), ([(0, 1), (1, 1)], [(1, 3)])), ((.slice (some ⟨n0 + 1 + 1 + 1 + 1 + 1, 0, none⟩) 1 1, .slice (some ⟨n0 + 1 + 1 + 1 + 1 + 1 + 1, 0, none⟩) 1 1), ([(1, 2)], [(2, 4)])), ((.slice (some ⟨n0 + 1 + 1 + 1 + 1 + 1 + 1 + 1, 0, none⟩) 1 1, .slice none 0 0), ([(1, 3)], []))]) h8 rfl ?_ rfl (by simp)
      intro x hx
      simp only [List.mem_cons, List.not_mem_nil, or_false] at hx
      rcases hx with rfl | rfl | rfl | rfl | rfl
      · exact ⟨items_obj h0 rfl (by simp [i64]) rfl (by simp), items_obj h1 rfl (by simp [i64]) rfl (by simp)⟩
      · exact ⟨items_obj h2 rfl (by simp [i64]) rfl (by simp), isItems_nil _⟩
      · exact ⟨items_obj h3 rfl (by simp [i64]) rfl (by simp), items_obj h4 rfl (by simp [i64]) rfl (by simp)⟩
      · exact ⟨items_obj h5 rfl (by simp [i64]) rfl (by simp), items_obj h6 rfl (by simp [i64]) rfl (by simp)⟩
      · exact ⟨items_obj h7 rfl (by simp [i64]) rfl (by simp), isItems_nil _⟩
    refine key _ _ ?_ ?_ ?_ ?_ ?_ ?_ ?_ ?_ ?_
    all_goals repeat (first | (refine alloc_at ?_; simp; done) | refine alloc_older ?_)
  intro W3 ⟨hs3, hb3⟩
  have hs23 := H2.out.1.fr (Fr.new hb3)
  have H3 := Lib.hid (And.intro hs23 (And.intro hs3 (H2.out.2.trans (hb3.mono H2.out.2.size))))
  clear hs3 hb3 hs23
  generalize w2.heap.size + 1 + 1 + 1 + 1 + 1 + 1 + 1 + 1 = lb at *
  have hB := H3.out.2.2
  have hS1 := H3.out.1
  have hS2 := H3.out.2.1
  clear H2 H3
  go_wp2_with (first
    | (go_at_call 7; refine (col_zero _).mono ?_; rintro e w4 ⟨rfl, hb4⟩; have hB := hB.trans (hb4.mono hB.size); have HSS := Lib.hid (same19_true _ _ _ (hS1.fr (Fr.new hb4)) (hS2.fr (Fr.new hb4))); clear hb4)
    | (go_at_call 9; refine HSS.out.mono ?_; rintro e w5 ⟨rfl, hb5⟩; have hB := hB.trans (hb5.mono hB.size); clear hb5)
    | (go_at_call 27; refine (small_any _).mono ?_; rintro e w6 ⟨v6, rfl, hg6, hb6⟩; have hB := hB.trans (hb6.mono hB.size); have HC := Lib.hid (clo_small _ _ hg6); have HG := Lib.hid (goto_small _ _ hg6); clear hb6)
    | (go_at_call 15; refine HC.out.mono ?_; rintro e w7 ⟨a7, c7, rfl, hi7, hb7⟩; have hB := hB.trans (hb7.mono hB.size); have HSI := Lib.hid (same_small _ _ _ 3 _ hi7 rfl (by simp [i64]) rfl (by simp)); clear hb7)
    | (go_at_call 14; refine HG.out.mono ?_; rintro e w8 ⟨a8, c8, rfl, hi8, hb8⟩; have hB := hB.trans (hb8.mono hB.size); have HSI := Lib.hid (same_small _ _ _ 2 _ hi8 rfl (by simp [i64]) rfl (by simp)); clear hb8)
    | (go_at_call 13; refine HSI.out.mono ?_; rintro e w9 ⟨rfl, hb9⟩; have hB := hB.trans (hb9.mono hB.size); clear hb9))
  go_ret
  exact ⟨rfl, hB⟩
end Go.Proofs.Ytgmkpncpcikecaa
