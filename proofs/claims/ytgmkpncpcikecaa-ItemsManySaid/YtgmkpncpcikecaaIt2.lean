/-
  Items, plain: closures and collections as lists that are reckoned.
-/
import Derived.Test.YtgmkpncpcikecaaIt1
namespace Go.Proofs.Ytgmkpncpcikecaa
set_option maxHeartbeats 400000

/-- The productions whose symbol has not been seen. -/
def remI (G : Gram) (syms : List Int) : Nat := ((List.range G.prods.length).filter fun p => decide ((G.prods[p]?.map (·.left)).getD (-1) ∉ syms)).length
theorem rem_step' (f : Nat → Int) (s : Int) (syms : List Int) (hs : s ∉ syms) (l : List Nat) : (l.filter fun p => decide (f p = s)).length + (l.filter fun p => decide (f p ∉ s :: syms)).length = (l.filter fun p => decide (f p ∉ syms)).length := by
  induction l with
  | nil => rfl
  | cons p l ih =>
    simp only [List.filter_cons]
    by_cases h1 : f p = s
    · rw [if_pos (by simp [h1]), if_neg (by simp [h1]), if_pos (by simp [h1, hs]), List.length_cons, List.length_cons]
      omega
    · by_cases h2 : f p ∈ syms
      · rw [if_neg (by simp [h1]), if_neg (by simp [h2]), if_neg (by simp [h2])]
        exact ih
      · rw [if_neg (by simp [h1]), if_pos (by simp [h1, h2]), if_pos (by simp [h2]), List.length_cons, List.length_cons]
        omega
theorem rem_step (G : Gram) (s : Int) (syms : List Int) (hs : s ∉ syms) : (ownI G s).length + remI G (s :: syms) = remI G syms := by
  unfold ownI remI
  rw [List.length_map]
  exact rem_step' (fun p => (G.prods[p]?.map (·.left)).getD (-1)) s syms hs _
theorem cloGo_spec {G : Gram} {K : List It} : ∀ (n : Nat) (out : List It) (syms : List Int) (todo : List It), CloAt G K out syms → (∀ x ∈ todo, x ∈ out) → (∀ x ∈ out, x ∈ todo ∨ ∀ s, behI G x = some s → s ∈ syms) → todo.length + remI G syms ≤ n →
    ∀ x, x ∈ cloGo G n out syms todo ↔ InClo G K x
  | n, out, syms, [], hc, _, hall, _, x => by
    unfold cloGo
    refine clo_done hc (fun y hy s hs => ?_) x
    rcases hall y hy with h | h
    · simp at h
    · exact h s hs
  | 0, out, syms, y :: todo, hc, _, _, hn, x => by simp at hn
  | n + 1, out, syms, y :: todo, hc, ht, hall, hn, x => by
    simp only [List.length_cons] at hn
    unfold cloGo
    cases hb : behI G y with
    | none =>
      refine cloGo_spec n out syms todo hc (fun z hz => ht z (List.mem_cons_of_mem _ hz)) (fun z hz => ?_) (by omega) x
      rcases hall z hz with h | h
      · rcases List.mem_cons.1 h with rfl | h
        · exact .inr fun s hs => by rw [hb] at hs; cases hs
        · exact .inl h
      · exact .inr h
    | some s =>
      simp only
      split
      · rename_i hs
        refine cloGo_spec n out syms todo hc (fun z hz => ht z (List.mem_cons_of_mem _ hz)) (fun z hz => ?_) (by omega) x
        rcases hall z hz with h | h
        · rcases List.mem_cons.1 h with rfl | h
          · exact .inr fun t ht => by rw [hb] at ht; cases ht; exact hs
          · exact .inl h
        · exact .inr h
      · rename_i hs
        have hr := rem_step G s syms hs
        refine cloGo_spec n _ _ _ ⟨fun z hz => List.mem_append_left _ (hc.ker z hz), fun t ht' z hz => ?_, fun z hz => ?_⟩ (fun z hz => ?_) (fun z hz => ?_) (by rw [List.length_append]; omega) x
        · rcases List.mem_cons.1 ht' with rfl | ht'
          · exact List.mem_append_right _ hz
          · exact List.mem_append_left _ (hc.own t ht' z hz)
        · rcases List.mem_append.1 hz with hz | hz
          · exact hc.sound z hz
          · obtain ⟨p, hp, hl, rfl⟩ := ownI_mem.1 hz
            exact .step hp (hc.sound y (ht y (by simp))) hb hl
        · rcases List.mem_append.1 hz with hz | hz
          · exact List.mem_append_left _ (ht z (List.mem_cons_of_mem _ hz))
          · exact List.mem_append_right _ hz
        · rcases List.mem_append.1 hz with hz | hz
          · rcases hall z hz with h | h
            · rcases List.mem_cons.1 h with rfl | h
              · exact .inr fun t ht => by rw [hb] at ht; cases ht; simp
              · exact .inl (List.mem_append_left _ h)
            · exact .inr fun t ht => List.mem_cons_of_mem _ (h t ht)
          · exact .inl (List.mem_append_right _ hz)
/-- The closure of a kernel, rising. -/
def cloL (G : Gram) (K : List It) : List It := sortI (cloGo G (K.length + G.prods.length) K [] K)
theorem cloL_ris (G : Gram) (K : List It) : RisI (cloL G K) := sortI_ris _
theorem cloL_mem {G : Gram} {K : List It} {x : It} : x ∈ cloL G K ↔ InClo G K x := by
  unfold cloL
  rw [sortI_mem]
  refine cloGo_spec _ _ _ _ ⟨fun _ h => h, fun s hs => by simp at hs, fun x hx => .ker hx⟩ (fun _ h => h) (fun _ h => .inl h) ?_ x
  unfold remI
  have := List.length_filter_le (fun p => decide ((G.prods[p]?.map (·.left)).getD (-1) ∉ ([] : List Int))) (List.range G.prods.length)
  rw [List.length_range] at this
  omega
/-- What rises and has the closure's items is the closure. -/
theorem cloL_is {G : Gram} {K L : List It} (h : RisI L) (hm : ∀ x, x ∈ L ↔ InClo G K x) : L = cloL G K := risI_eq h (cloL_ris _ _) fun x => by rw [hm, cloL_mem]
theorem cloL_again (G : Gram) (K : List It) : cloL G (cloL G K) = cloL G K :=
  (cloL_is (cloL_ris G K) fun x => by rw [cloL_mem, inClo_clo (fun y => cloL_mem)]).symm
/-- Where a kernel lies, laid behind the others where it is new; none: they are too many. -/
def putK (ks : List (List It)) (k : List It) : Option (Nat × List (List It)) :=
  match ks.findIdx? (fun x => decide (x = k)) with
  | some j => some (j, ks)
  | none => if ks.length = 256 then none else some (ks.length, ks ++ [k])
def edgesGo (G : Gram) (L : List It) : List Int → List (List It) → List (Int × Int) → Option (List (List It) × List (Int × Int))
  | [], ks, es => some (ks, es)
  | s :: r, ks, es => if onI G L s = [] then edgesGo G L r ks es else match putK ks (onI G L s) with
    | none => none
    | some (j, ks') => edgesGo G L r ks' (es ++ [(s, (j : Int))])
def symsI (G : Gram) : List Int := (List.range G.syms.length).map fun s : Nat => (s : Int)
def colGo (G : Gram) : Nat → Nat → List (List It) → List (List (Int × Int)) → Option (List (List It) × List (List (Int × Int)))
  | 0, _, _, _ => none
  | n + 1, i, ks, gs => match ks[i]? with
    | none => some (ks, gs)
    | some k => match edgesGo G (cloL G k) (symsI G) ks [] with
      | none => none
      | some (ks', es) => colGo G n (i + 1) ks' (gs ++ [es])
/-- The states of a grammar: their kernels, their edges. -/
def colI (G : Gram) : Option (List (List It) × List (List (Int × Int))) := colGo G 257 0 [[(0, 0)]] []
end Go.Proofs.Ytgmkpncpcikecaa
