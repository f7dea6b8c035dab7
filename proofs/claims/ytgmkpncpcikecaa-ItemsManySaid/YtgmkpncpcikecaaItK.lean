/-
  Package items: an edge laid behind a state's others; the states as they are reckoned.
-/
import Derived.Test.YtgmkpncpcikecaaItJ
namespace Go.Proofs.Ytgmkpncpcikecaa
open Go.RowKit Go.MapKept Go.ChangeMaps
set_option maxHeartbeats 400000

theorem stV_at {vs : List (Value × Value)} {i : Nat} (hi : i < vs.length) (j : Nat) (hj : j < 2) : (stV vs)[i * 2 + j]? = ([vs[i].1, vs[i].2] : List Value)[j]? := flat_get (fun p : Value × Value => [p.1, p.2]) 2 (fun _ => rfl) vs i j hi hj
theorem stV_len (vs : List (Value × Value)) : (stV vs).length = vs.length * 2 := by
  induction vs with
  | nil => rfl
  | cons x l ih => rw [stV, List.flatMap_cons, List.length_append]; show 2 + (stV l).length = _; rw [ih, List.length_cons]; omega
theorem stV_set {vs : List (Value × Value)} {i : Nat} (hi : i < vs.length) (b : Value) : stV (vs.set i (vs[i].1, b)) = (stV vs).set (i * 2 + 1) b := by
  refine List.ext_getElem? fun t => ?_
  by_cases ht : t < vs.length * 2
  · have h1 : t / 2 < (vs.set i (vs[i].1, b)).length := by rw [List.length_set]; omega
    have h2 := stV_at h1 (t % 2) (by omega)
    have e : t / 2 * 2 + t % 2 = t := by omega
    rw [e] at h2
    rw [h2, List.getElem_set]
    have h3 := stV_at (vs := vs) (i := t / 2) (by omega) (t % 2) (by omega)
    rw [e] at h3
    have hlen : t < (stV vs).length := by rw [stV_len]; exact ht
    by_cases e1 : i = t / 2
    · rw [if_pos e1]
      rcases (by omega : t % 2 = 0 ∨ t % 2 = 1) with h | h
      · rw [List.getElem?_set_ne (by omega), h3, h]
        subst e1
        rfl
      · have e2 : i * 2 + 1 = t := by omega
        rw [e2, List.getElem?_set_self hlen, h]
        rfl
    · rw [if_neg e1, List.getElem?_set_ne (by omega), h3]
  · rw [List.getElem?_eq_none (by rw [stV_len, List.length_set]; omega), List.getElem?_eq_none (by rw [List.length_set, stV_len]; omega)]
theorem StsM.cells {w : World} {B sb am : Nat} {lv : Value} {vs : List (Value × Value)} {ks : List (List It)} {es : List (List (Int × Int))} (h : StsM w B sb am lv vs ks es) (hn : 0 < vs.length) :
    ∃ lb c, lv = .slice (some ⟨lb, 0, none⟩) vs.length c ∧ B ≤ lb ∧ (∀ i (hi : i < vs.length), w.cell? ⟨lb, i * 2, none⟩ = some vs[i].1 ∧ w.cell? ⟨lb, i * 2 + 1, none⟩ = some vs[i].2) ∧ ∃ cs, w.heap[lb]? = some (.cells cs 39 (0, 0)) := by
  obtain ⟨a, c, hv, h1, h2, h3⟩ := own_as_cells2 h.own
  rcases h3 with h3 | ⟨g, rfl, hb, hc⟩
  · have := stV_len vs
    rw [h3] at this
    simp at this
    omega
  · refine ⟨g, c, hv, hb, fun i hi => ?_, (ownObj h.own g (by rw [hv]; rfl)).2⟩
    have at_ : ∀ j, j < 2 → w.cell? ⟨g, i * 2 + j, none⟩ = ([vs[i].1, vs[i].2] : List Value)[j]? := fun j hj => by
      have hlt : i * 2 + j < (stV vs).length := by rw [stV_len]; omega
      have h5 := hc (i * 2 + j) hlt
      have h6 := stV_at hi j hj
      rw [List.getElem?_eq_getElem hlt] at h6
      rw [Nat.zero_add] at h5
      rw [h5, h6]
    exact ⟨at_ 0 (by omega), at_ 1 (by omega)⟩
theorem getD_set_same {α : Type} {l : List (List α)} {i : Nat} (hi : i < l.length) (a : List α) : (l.set i a).getD i [] = a := by
  rw [List.getD_eq_getElem?_getD, List.getElem?_set_self hi]
  rfl
theorem getD_set_other {α : Type} {l : List (List α)} {i j : Nat} (h : i ≠ j) (a : List α) : (l.set i a).getD j [] = l.getD j [] := by
  rw [List.getD_eq_getElem?_getD, List.getElem?_set_ne h, ← List.getD_eq_getElem?_getD]
/-- An edge has been laid behind state i's. -/
theorem StsM.edge {w w0 w4 : World} {B sb am lb n c i g cap : Nat} {vs : List (Value × Value)} {ks : List (List It)} {es : List (List (Int × Int))} {x t : Int} (h : StsM w B sb am (.slice (some ⟨lb, 0, none⟩) n c) vs ks es) (hn : vs.length = n) (hi : i < vs.length)
    (k0 : Fr nothing w w0) (hown : w4.ownsRow B 44 2 (.slice (some ⟨g, 0, none⟩) ((es.getD i []).length + 1) cap) ((es.getD i []).length + 1) ((es.getD i []).flatMap encI ++ [.int .i64 x, .int .i64 t])) (hgrow : w0.grownBy w4 vs[i].2.ownBlock) (hat : vs[i].2.ownBlock = some g ∨ w.heap.size ≤ g) :
    StsM (w4.setCell ⟨lb, i * 2 + 1, none⟩ (.slice (some ⟨g, 0, none⟩) ((es.getD i []).length + 1) cap)) B sb am (.slice (some ⟨lb, 0, none⟩) n c) (vs.set i (vs[i].1, .slice (some ⟨g, 0, none⟩) ((es.getD i []).length + 1) cap)) ks (es.set i (es.getD i [] ++ [(x, t)])) ∧
      Fr (fun k => k = lb ∨ vs[i].2.ownBlock = some k) w (w4.setCell ⟨lb, i * 2 + 1, none⟩ (.slice (some ⟨g, 0, none⟩) ((es.getD i []).length + 1) cap)) := by
  have hlk := h.lk
  have hle := h.le
  have k4 : Fr (fun k => vs[i].2.ownBlock = some k) w w4 := k0.wide.trans (Fr.grown hgrow)
  have hsc := Fr.setCell w4 ⟨lb, i * 2 + 1, none⟩ (.slice (some ⟨g, 0, none⟩) ((es.getD i []).length + 1) cap)
  obtain ⟨_, csl, hlb⟩ := ownObj h.own lb rfl
  have hE : ∀ k, vs[i].2.ownBlock = some k → ∃ cs, w.heap[k]? = some (.cells cs 44 (0, 0)) := fun k hk => (ownObj (h.edg i hi) k hk).2
  have notE : ∀ {k : Nat} {cs : Array Value} {e : TypeId} {fz : Nat × Nat}, w.heap[k]? = some (.cells cs e fz) → e ≠ 44 → vs[i].2.ownBlock ≠ some k := fun hk hne hv => by
    obtain ⟨cs', hc⟩ := hE _ hv
    rw [hk] at hc
    simp only [Option.some.injEq, Obj.cells.injEq] at hc
    exact hne hc.2.1
  have notL : ∀ {k : Nat} {cs : Array Value} {e : TypeId} {fz : Nat × Nat}, w.heap[k]? = some (.cells cs e fz) → e ≠ 39 → k ≠ lb := fun hk hne e => by
    rw [e, hlb] at hk
    simp only [Option.some.injEq, Obj.cells.injEq] at hk
    exact hne hk.2.1.symm
  have hF : Fr (fun k => k = lb ∨ vs[i].2.ownBlock = some k) w (w4.setCell ⟨lb, i * 2 + 1, none⟩ (.slice (some ⟨g, 0, none⟩) ((es.getD i []).length + 1) cap)) := (k4.mono fun _ _ e => .inr e).trans (Fr.setCell' ⟨lb, i * 2 + 1, none⟩ _ (.inl rfl))
  have keep : ∀ {B' e size n : Nat} {v : Value} {xs : List Value}, w.ownsRow B' e size v n xs → e ≠ 39 → (∀ k, v.ownBlock = some k → vs[i].2.ownBlock ≠ some k) → (w4.setCell ⟨lb, i * 2 + 1, none⟩ (.slice (some ⟨g, 0, none⟩) ((es.getD i []).length + 1) cap)).ownsRow B' e size v n xs := fun hv hne hk => own_fr hv hF fun k hkv hc => by
    rcases hc with hc | hc
    · obtain ⟨_, cs, hcs⟩ := ownObj hv k hkv
      exact notL hcs hne hc
    · exact hk k hkv hc
  have hobj4 := k4.obj h.obj (notE h.obj (by decide))
  refine ⟨⟨(hF.obj h.obj fun hc => by
      rcases hc with hc | hc
      · exact notL h.obj (by decide) hc
      · exact notE h.obj (by decide) hc), ?_, h.map.fr hF fun hc => ?_, h.hsb, h.ham, by rw [List.length_set]; exact hlk, by rw [List.length_set, List.length_set]; exact hle, h.small, fun j hj => ?_, fun j hj => ?_, fun j j' hj hj' g' hne hg' => ?_⟩, hF⟩
  · have h4 := own_fr h.own k4 fun k hk hc => by
      have hk' : k = lb := by simpa [Value.ownBlock] using hk.symm
      subst hk'
      exact notE hlb (by decide) hc
    rw [hn] at h4
    rw [List.length_set, stV_set hi, hn]
    exact (World.ownsRow.stored h4 _ _).1
  · obtain ⟨es', c', hm⟩ := h.map.obj
    rcases hc with rfl | hc
    · rw [hlb] at hm; cases hm
    · obtain ⟨cs', hc'⟩ := hE _ hc
      rw [hc'] at hm; cases hm
  · rw [List.length_set] at hj
    have hkj := h.ker j hj
    have : (vs.set i (vs[i].1, Value.slice (some ⟨g, 0, none⟩) ((es.getD i []).length + 1) cap))[j].1 = vs[j].1 := by
      rw [List.getElem_set]
      split
      · rename_i e; subst e; rfl
      · rfl
    rw [this]
    refine keep hkj (by decide) fun k hk => ?_
    obtain ⟨_, cs, hcs⟩ := ownObj hkj k hk
    exact notE hcs (by decide)
  · rw [List.length_set] at hj
    rw [List.getElem_set]
    by_cases e : i = j
    · subst e
      rw [if_pos rfl, getD_set_same (by omega)]
      unfold OwnE
      rw [List.length_append, List.flatMap_append]
      refine own_fr hown hsc fun k hk hc => ?_
      have hk' : k = g := by simpa [Value.ownBlock] using hk.symm
      have hc' : k = lb := hc
      subst hk'
      obtain ⟨_, cs, hcs⟩ := ownObj hown k rfl
      have hl4 := k4.obj hlb (notE hlb (by decide))
      rw [← hc', hcs] at hl4
      simp only [Option.some.injEq, Obj.cells.injEq] at hl4
      exact absurd hl4.2.1 (by decide)
    · rw [if_neg e, getD_set_other e]
      exact keep (h.edg j hj) (by decide) fun k hk hc => h.apart i j hi hj k e hc hk
  · rw [List.length_set] at hj hj'
    have old : ∀ a (ha : a < vs.length), a ≠ i → vs[a].2.ownBlock ≠ some g := fun a ha hne hg => by
      rcases hat with e | e
      · exact h.apart i a hi ha g (Ne.symm hne) e hg
      · obtain ⟨_, cs, hcs⟩ := ownObj (h.edg a ha) g hg
        have := (Array.getElem?_eq_some_iff.1 hcs).1
        omega
    rw [List.getElem_set] at hg' ⊢
    by_cases e : i = j
    · subst e
      rw [if_pos rfl] at hg'
      simp only [Value.ownBlock, Option.some.injEq] at hg'
      subst hg'
      rw [if_neg hne]
      exact old j' hj' (Ne.symm hne)
    · rw [if_neg e] at hg'
      by_cases e' : i = j'
      · subst e'
        rw [if_pos rfl]
        simp only [Value.ownBlock, ne_eq, Option.some.injEq]
        rintro rfl
        exact old j hj (Ne.symm e) hg'
      · rw [if_neg e']
        exact h.apart j j' hj hj' g' hne hg'
end Go.Proofs.Ytgmkpncpcikecaa
