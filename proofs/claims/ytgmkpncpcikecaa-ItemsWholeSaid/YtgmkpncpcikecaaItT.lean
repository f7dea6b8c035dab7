/-
  Package items: what Collection tells, read as states.
-/
import Derived.Test.YtgmkpncpcikecaaItS
namespace Go.Proofs.Ytgmkpncpcikecaa
open Go.RowKit Go.MapKept Go.ChangeMaps
set_option maxHeartbeats 400000

theorem edgesGo_kok {G : Gram} (hr : rightG G = true) (K : List It) {i : Nat} (hK : K.length ≤ 1 + 128 * i) (hKi : ∀ x ∈ K, InI G x) : ∀ (l : List Int) (ks : List (List It)) (es : List (Int × Int)) {ks' : List (List It)} {es' : List (Int × Int)}, KOk G ks → ks.length ≤ 256 → i < ks.length → edgesGo G (cloL G K) l ks es = some (ks', es') → KOk G ks' ∧ ks'.length ≤ 256
  | [], ks, es, ks', es', h, hl, _, he => by
    unfold edgesGo at he
    simp only [Option.some.injEq, Prod.mk.injEq] at he
    obtain ⟨rfl, rfl⟩ := he
    exact ⟨h, hl⟩
  | s :: l, ks, es, ks', es', h, hl, hi, he => by
    unfold edgesGo at he
    split at he
    · exact edgesGo_kok hr K hK hKi l ks es h hl hi he
    · cases hp : putK ks (onI G (cloL G K) s) with
      | none => rw [hp] at he; cases he
      | some q =>
        obtain ⟨j, ks1⟩ := q
        rw [hp] at he
        simp only at he
        obtain ⟨_, hl1, hor⟩ := putK_spec hp hl
        refine edgesGo_kok hr K hK hKi l ks1 _ (h.put hr hl K hi hK hKi s hp) hl1 ?_ he
        rcases hor with ⟨_, rfl⟩ | ⟨_, rfl, _⟩
        · exact hi
        · simp; omega
theorem colGo_kok {G : Gram} (hr : rightG G = true) : ∀ (n i : Nat) (ks : List (List It)) (gs : List (List (Int × Int))) {ks' : List (List It)} {gs' : List (List (Int × Int))}, KOk G ks → ks.length ≤ 256 → colGo G n i ks gs = some (ks', gs') → KOk G ks'
  | 0, _, _, _, _, _, _, _, h => by cases h
  | n + 1, i, ks, gs, ks', gs', hk, hl, h => by
    unfold colGo at h
    cases hki : ks[i]? with
    | none =>
      rw [hki] at h
      simp only [Option.some.injEq, Prod.mk.injEq] at h
      obtain ⟨rfl, rfl⟩ := h
      exact hk
    | some K =>
      rw [hki] at h
      simp only at h
      obtain ⟨hi, hK⟩ := List.getElem?_eq_some_iff.1 hki
      have h1 := hk i hi
      rw [hK] at h1
      cases he : edgesGo G (cloL G K) (symsI G) ks [] with
      | none => rw [he] at h; cases h
      | some q =>
        obtain ⟨ks1, es⟩ := q
        rw [he] at h
        simp only at h
        obtain ⟨h2, h3⟩ := edgesGo_kok hr K h1.1 h1.2 _ ks [] hk hl hi he
        exact colGo_kok hr n (i + 1) ks1 _ h2 h3 h
theorem colI_kok {G : Gram} (hr : rightG G = true) {ks : List (List It)} {gs : List (List (Int × Int))} (h : colI G = some (ks, gs)) : KOk G ks := by
  refine colGo_kok hr 257 0 [[(0, 0)]] [] (fun j hj => ?_) (by simp) h
  have : j = 0 := by simpa using hj
  subst this
  have hpl := (rightG_parts hr).1.2.2.2.2.1
  refine ⟨by simp, fun x hx => ?_⟩
  rw [List.mem_singleton.1 hx]
  exact ⟨Int.le_refl _, by show (0 : Int) < _; omega, Int.le_refl _, by show (0 : Int) ≤ _; omega⟩
theorem edgesIs_in {G : Gram} {L : List It} {ks : List (List It)} {syms : List Int} {es : List (Int × Int)} (h : EdgesIs G L ks syms es) : es.length ≤ syms.length ∧ ∀ x ∈ es, x.1 ∈ syms ∧ 0 ≤ x.2 ∧ x.2 < (ks.length : Int) := by
  induction h with
  | nil => exact ⟨Nat.le_refl _, fun x hx => by simp at hx⟩
  | skip _ _ ih => exact ⟨by simp; omega, fun x hx => ⟨List.mem_cons_of_mem _ (ih.2 x hx).1, (ih.2 x hx).2⟩⟩
  | edge _ hj _ ih =>
    refine ⟨by simp; omega, fun x hx => ?_⟩
    rcases List.mem_cons.1 hx with rfl | hx
    · exact ⟨by simp, by simp, by have := (List.getElem?_eq_some_iff.1 hj).1; simp; omega⟩
    · exact ⟨List.mem_cons_of_mem _ (ih.2 x hx).1, (ih.2 x hx).2⟩
/-- Collection's memory reads as the states. -/
theorem col_states {G : Gram} (hr : rightG G = true) {w : World} {B sb am : Nat} {lv : Value} {vs : List (Value × Value)} {ks : List (List It)} {gs : List (List (Int × Int))} (h : StsM w B sb am lv vs ks gs) (hc : colI G = some (ks, gs)) : IsStates w lv (ks.zip gs) := by
  have ho := colI_ok hc
  have hk := colI_kok hr hc
  have hle := ho.le
  have hg := (rightG_parts hr).1
  refine h.states (by have := h.lk; omega) (fun k hk' => ?_) fun e he => ?_
  · obtain ⟨j, hj, rfl⟩ := List.getElem_of_mem hk'
    have := (hk j hj).1
    omega
  · obtain ⟨j, hj, rfl⟩ := List.getElem_of_mem he
    obtain ⟨k, _, hE⟩ := ho.edges j hj
    obtain ⟨h1, h2⟩ := edgesIs_in hE
    have h3 : (symsI G).length = G.syms.length := by simp [symsI]
    refine ⟨by omega, fun x hx => ?_⟩
    obtain ⟨h4, h5, h6⟩ := h2 x hx
    unfold symsI at h4
    obtain ⟨q, hq, hqx⟩ := List.mem_map.1 h4
    have hq := List.mem_range.1 hq
    unfold i64
    omega
end Go.Proofs.Ytgmkpncpcikecaa
