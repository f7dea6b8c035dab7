/-
  Package items: sorted, closure.
-/
import Derived.Test.YtgmkpncpcikecaaItC
namespace Go.Proofs.Ytgmkpncpcikecaa
open Go.RowKit Go.MapKept Go.ChangeMaps Go.Sort
set_option maxHeartbeats 400000

theorem compL_mem {x : It} : ∀ {l : List It}, x ∈ compL l ↔ x ∈ l
  | [] => Iff.rfl
  | [_] => Iff.rfl
  | a :: b :: l => by
    have ih := compL_mem (x := x) (l := b :: l)
    unfold compL
    split
    · rename_i e
      subst e
      rw [ih]
      simp
    · rw [List.mem_cons, ih, List.mem_cons, List.mem_cons, List.mem_cons]
theorem compL_ris : ∀ {l : List It}, l.Pairwise (fun a b => ¬ ltI b a) → RisI (compL l)
  | [], _ => List.Pairwise.nil
  | [_], _ => List.pairwise_singleton _ _
  | a :: b :: l, h => by
    obtain ⟨h1, h2⟩ := List.pairwise_cons.1 h
    have ih := compL_ris h2
    unfold compL
    split
    · exact ih
    · rename_i hne
      have hab : ltI a b := by
        by_cases h3 : ltI a b
        · exact h3
        · exact absurd (ltI_total h3 (h1 b (by simp))) hne
      refine List.pairwise_cons.2 ⟨fun z hz => ?_, ih⟩
      rcases List.mem_cons.1 (compL_mem.1 hz) with rfl | hz
      · exact hab
      · have h4 := (List.pairwise_cons.1 h2).1 z hz
        unfold ltI at *
        omega
theorem sorted_eq (L : List It) : compL (mergeI L) = sortI L := by
  refine risI_eq (compL_ris ?_) (sortI_ris L) fun x => ?_
  · have := List.pairwise_mergeSort (le := fun x y => !ltOf cfI y x) (fun a b c h1 h2 => by
      simp only [cfI_lt, Bool.not_eq_true', decide_eq_false_iff_not] at *
      unfold ltI at *
      omega) (fun a b => by
      simp only [cfI_lt, Bool.or_eq_true, Bool.not_eq_true', decide_eq_false_iff_not]
      unfold ltI
      omega) L
    refine this.imp fun {a b} h => ?_
    simpa only [cfI_lt, Bool.not_eq_true', decide_eq_false_iff_not] using h
  · rw [compL_mem, sortI_mem]
    exact (List.mergeSort_perm L _).mem_iff
theorem compL_len : ∀ l : List It, (compL l).length ≤ l.length
  | [] => Nat.le_refl _
  | [_] => Nat.le_refl _
  | a :: b :: l => by
    have ih := compL_len (b :: l)
    unfold compL
    split
    · simp only [List.length_cons] at *; omega
    · simp only [List.length_cons] at *; omega

/-- What sorted answers. -/
def SortedP (L : List It) (B : Nat) (W : World) (e : Ending) (w' : World) : Prop := ∃ u', e = .returned u' ∧ OwnI w' B u' (sortI L) ∧ Below B W w'
set_option maxRecDepth 100000 in
set_option maxHeartbeats 1000000 in
theorem sorted_any (u : Value) (L : List It) (B : Nat) (W : World) (h : OwnI W B u L) (hB : B ≤ W.heap.size) (hl : L.length ≤ 200000) (hi : ∀ x ∈ L, i64 x.1 ∧ i64 x.2) :
    Calls Try.prog 35 #[u] W (SortedP L B W) := by
  have HS := Lib.hid (sortI_any L u B W h (by omega))
  have hob := ownObj h
  have HOB := Lib.hid hob
  have HI := Lib.hid (show ∀ x ∈ mergeI L, i64 x.1 ∧ i64 x.2 from fun x hx => hi x ((List.mergeSort_perm L _).mem_iff.1 hx))
  have HML := Lib.hid (mergeI_len L)
  have HEQ := Lib.hid (sorted_eq L)
  have HBB := Lib.hid hB
  obtain ⟨ua, uc, rfl, -⟩ := own_as_cells2 h
  clear h hob hi hB
  generalize L.length = n at *
  go_enter Try.func35, Try.ntmps35
  go_wp2_with (first | (go_at_call 50; refine HS.out.mono ?_; rintro e w2 ⟨rfl, ho2, hf2⟩; have HC := Lib.hid (compact_any (mergeI L) _ B w2 ho2 (by rw [HML.out]; omega) HI.out)) | (go_at_call 54; refine HC.out.mono ?_; rintro e w3 ⟨u', rfl, ho3, hf3⟩))
  go_ret
  have hB2 : Below B W w2 := hf2.below HBB.out fun g e => (HOB.out g e).1
  exact ⟨u', rfl, by rw [← HEQ.out]; exact ho3, hB2.trans (hf3.below (Nat.le_trans HBB.out hB2.size) fun g e => (HOB.out g e).1)⟩
/-- A closure. -/
theorem closure_any (G : Gram) (w : World) (bp mb : Nat) (vs vp : Value) (f : Value → Option Value) (Bg : Nat) (h : IsBld w bp mb vs vp G) (hg : GrpM w Bg 3 1 mb f (ownL G G.prods.length)) (hm0 : G.prods.length ≤ 100000) (v : Value) (l : List It) (hv : IsItems w v l) (hl : l.length ≤ 100000) (hin : ∀ x ∈ l, InI G x) :
    Calls Try.prog 20 #[.pointer (some ⟨bp, 0, none⟩), v] w (NewI (cloL G l) w) :=
  cloWalk_any G w bp mb vs vp f Bg h hg hm0 v l hv hl hin fun u L W hW ho hL hLi => sorted_any u L w.heap.size W ho hW.size (by omega) fun x hx => inI_i64 hm0 h.short (hLi x hx)
theorem cloGo_len (G : Gram) : ∀ (n : Nat) (out : List It) (syms : List Int) (todo : List It), (cloGo G n out syms todo).length ≤ out.length + remI G syms
  | _, out, _, [] => by unfold cloGo; omega
  | 0, out, _, _ :: _ => by unfold cloGo; omega
  | n + 1, out, syms, y :: todo => by
    unfold cloGo
    split
    · exact cloGo_len G n out syms todo
    · rename_i s hs
      split
      · exact cloGo_len G n out syms todo
      · rename_i hn
        have h1 := cloGo_len G n (out ++ ownI G s) (s :: syms) (todo ++ ownI G s)
        have h2 := rem_step G s syms hn
        rw [List.length_append] at h1
        omega
theorem putI_len (x : It) (l : List It) : (putI x l).length ≤ l.length + 1 := by
  induction l with
  | nil => simp [putI]
  | cons y l ih =>
    unfold putI
    split
    · simp only [List.length_cons]; omega
    · split
      · simp
      · simp
theorem sortI_len (l : List It) : (sortI l).length ≤ l.length := by
  induction l with
  | nil => simp [sortI]
  | cons y l ih =>
    have := putI_len y (sortI l)
    show (putI y (sortI l)).length ≤ _
    simp only [List.length_cons]
    omega
theorem cloL_len (G : Gram) (K : List It) : (cloL G K).length ≤ K.length + G.prods.length := by
  unfold cloL
  have h1 := sortI_len (cloGo G (K.length + G.prods.length) K [] K)
  have h2 := cloGo_len G (K.length + G.prods.length) K [] K
  have h3 : remI G [] ≤ G.prods.length := by
    unfold remI
    have := List.length_filter_le (fun p => decide ((G.prods[p]?.map (·.left)).getD (-1) ∉ ([] : List Int))) (List.range G.prods.length)
    rwa [List.length_range] at this
  omega
end Go.Proofs.Ytgmkpncpcikecaa
