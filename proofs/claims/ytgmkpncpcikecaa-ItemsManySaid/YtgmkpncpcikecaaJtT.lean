/-
  Package items: what Collection tells, read as states.
  Items, plain: what ItemsWhole goes by.
  ItemsWhole: what Collection tells, case by case; states at a place.
-/
import Derived.Test.YtgmkpncpcikecaaJtS
import Derived.Test.YtgmkpncpcikecaaParts
import Derived.Test.YtgmkpncpcikecaaStands
namespace Go.Proofs.Ytgmkpncpcikecaa
open Go.RowKit Go.MapKept Go.ChangeMaps
set_option maxHeartbeats 400000

theorem edgesGo_kok {G : Gram} (hr : rightG G = true) (K : List It) {i : Nat} (hK : K.length ≤ 1 + 128 * i) (hKi : ∀ x ∈ K, InI G x) : ∀ (l : List Int) (ks : List (List It)) (es : List (Int × Int)) {ks' : List (List It)} {es' : List (Int × Int)}, KOk G ks → ks.length ≤ 256 → i < ks.length → edgesGo G (cloL G K) l ks es = some (ks', es') → KOk G ks' ∧ ks'.length ≤ 256
  | [], ks, es, ks', es', h, hl, _, he => by
    unfold edgesGo at he
    simp only [Option.some.injEq, Prod.mk.injEq] at he
    obtain ⟨rfl, rfl⟩ := he
    exact ⟨h, hl⟩
  | s :: l, ks, es, ks', es', h, hl, hi, he => by
    unfold edgesGo at he
    split at he
    · exact edgesGo_kok hr K hK hKi l ks es h hl hi he
    · cases hp : putK ks (onI G (cloL G K) s) with
      | none => rw [hp] at he; cases he
      | some q =>
        obtain ⟨j, ks1⟩ := q
        rw [hp] at he
        simp only at he
        obtain ⟨_, hl1, hor⟩ := putK_spec hp hl
        refine edgesGo_kok hr K hK hKi l ks1 _ (h.put hr hl K hi hK hKi s hp) hl1 ?_ he
        rcases hor with ⟨_, rfl⟩ | ⟨_, rfl, _⟩
        · exact hi
        · simp; omega
theorem colGo_kok {G : Gram} (hr : rightG G = true) : ∀ (n i : Nat) (ks : List (List It)) (gs : List (List (Int × Int))) {ks' : List (List It)} {gs' : List (List (Int × Int))}, KOk G ks → ks.length ≤ 256 → colGo G n i ks gs = some (ks', gs') → KOk G ks'
  | 0, _, _, _, _, _, _, _, h => by cases h
  | n + 1, i, ks, gs, ks', gs', hk, hl, h => by
    unfold colGo at h
    cases hki : ks[i]? with
    | none =>
      rw [hki] at h
      simp only [Option.some.injEq, Prod.mk.injEq] at h
      obtain ⟨rfl, rfl⟩ := h
      exact hk
    | some K =>
      rw [hki] at h
      simp only at h
      obtain ⟨hi, hK⟩ := List.getElem?_eq_some_iff.1 hki
      have h1 := hk i hi
      rw [hK] at h1
      cases he : edgesGo G (cloL G K) (symsI G) ks [] with
      | none => rw [he] at h; cases h
      | some q =>
        obtain ⟨ks1, es⟩ := q
        rw [he] at h
        simp only at h
        obtain ⟨h2, h3⟩ := edgesGo_kok hr K h1.1 h1.2 _ ks [] hk hl hi he
        exact colGo_kok hr n (i + 1) ks1 _ h2 h3 h
theorem colI_kok {G : Gram} (hr : rightG G = true) {ks : List (List It)} {gs : List (List (Int × Int))} (h : colI G = some (ks, gs)) : KOk G ks := by
  refine colGo_kok hr 257 0 [[(0, 0)]] [] (fun j hj => ?_) (by simp) h
  have : j = 0 := by simpa using hj
  subst this
  have hpl := (rightG_parts hr).1.2.2.2.2.1
  refine ⟨by simp, fun x hx => ?_⟩
  rw [List.mem_singleton.1 hx]
  exact ⟨Int.le_refl _, by show (0 : Int) < _; omega, Int.le_refl _, by show (0 : Int) ≤ _; omega⟩
theorem edgesIs_in {G : Gram} {L : List It} {ks : List (List It)} {syms : List Int} {es : List (Int × Int)} (h : EdgesIs G L ks syms es) : es.length ≤ syms.length ∧ ∀ x ∈ es, x.1 ∈ syms ∧ 0 ≤ x.2 ∧ x.2 < (ks.length : Int) := by
  induction h with
  | nil => exact ⟨Nat.le_refl _, fun x hx => by simp at hx⟩
  | skip _ _ ih => exact ⟨by simp; omega, fun x hx => ⟨List.mem_cons_of_mem _ (ih.2 x hx).1, (ih.2 x hx).2⟩⟩
  | edge _ hj _ ih =>
    refine ⟨by simp; omega, fun x hx => ?_⟩
    rcases List.mem_cons.1 hx with rfl | hx
    · exact ⟨by simp, by simp, by have := (List.getElem?_eq_some_iff.1 hj).1; simp; omega⟩
    · exact ⟨List.mem_cons_of_mem _ (ih.2 x hx).1, (ih.2 x hx).2⟩
/-- Collection's memory reads as the states. -/
theorem col_states {G : Gram} (hr : rightG G = true) {w : World} {B sb am : Nat} {lv : Value} {vs : List (Value × Value)} {ks : List (List It)} {gs : List (List (Int × Int))} (h : StsM w B sb am lv vs ks gs) (hc : colI G = some (ks, gs)) : IsStates w lv (ks.zip gs) := by
  have ho := colI_ok hc
  have hk := colI_kok hr hc
  have hle := ho.le
  have hg := (rightG_parts hr).1
  refine h.states (by have := h.lk; omega) (fun k hk' => ?_) fun e he => ?_
  · obtain ⟨j, hj, rfl⟩ := List.getElem_of_mem hk'
    have := (hk j hj).1
    omega
  · obtain ⟨j, hj, rfl⟩ := List.getElem_of_mem he
    obtain ⟨k, _, hE⟩ := ho.edges j hj
    obtain ⟨h1, h2⟩ := edgesIs_in hE
    have h3 : (symsI G).length = G.syms.length := by simp [symsI]
    refine ⟨by omega, fun x hx => ?_⟩
    obtain ⟨h4, h5, h6⟩ := h2 x hx
    unfold symsI at h4
    obtain ⟨q, hq, hqx⟩ := List.mem_map.1 h4
    have hq := List.mem_range.1 hq
    unfold i64
    omega
end Go.Proofs.Ytgmkpncpcikecaa
namespace Go.Proofs.Ytgmkpncpcikecaa
set_option maxHeartbeats 400000

theorem come_det {c d d' : Nat} {es : List (Int × Int)} (h : Come c es d) (k : Come c es d') : d = d' := by
  induction h generalizing d' with
  | nil => cases k; rfl
  | @old c j d s r hlt h ih =>
    generalize he : (s, (j : Int)) :: r = es at k
    cases k with
    | nil => cases he
    | @old _ j' _ _ _ hlt' k' =>
      simp only [List.cons.injEq, Prod.mk.injEq] at he
      obtain ⟨_, rfl⟩ := he
      exact ih k'
    | @new _ _ _ _ k' =>
      simp only [List.cons.injEq, Prod.mk.injEq] at he
      omega
  | @new c d s r h ih =>
    generalize he : (s, (c : Int)) :: r = es at k
    cases k with
    | nil => cases he
    | @old _ j' _ _ _ hlt' k' =>
      simp only [List.cons.injEq, Prod.mk.injEq] at he
      omega
    | @new _ _ _ _ k' =>
      simp only [List.cons.injEq, Prod.mk.injEq] at he
      obtain ⟨_, rfl⟩ := he
      exact ih k'
theorem come_split {c d : Nat} : ∀ {a b : List (Int × Int)}, Come c (a ++ b) d → ∃ m, Come c a m ∧ Come m b d
  | [], b, h => ⟨c, .nil, h⟩
  | x :: a, b, h => by
    rw [List.cons_append] at h
    cases h with
    | old hlt h =>
      obtain ⟨m, h1, h2⟩ := come_split h
      exact ⟨m, .old hlt h1, h2⟩
    | new h =>
      obtain ⟨m, h1, h2⟩ := come_split h
      exact ⟨m, .new h1, h2⟩
theorem come_cons {c d : Nat} {x : Int × Int} {r : List (Int × Int)} (h : Come c (x :: r) d) : ∃ j : Nat, x.2 = (j : Int) ∧ (j < c ∧ Come c r d ∨ j = c ∧ Come (c + 1) r d) := by
  cases h with
  | old hlt h => exact ⟨_, rfl, .inl ⟨hlt, h⟩⟩
  | new h => exact ⟨_, rfl, .inr ⟨rfl, h⟩⟩
theorem edges_cons {G : Gram} {L : List It} {ks : List (List It)} {s : Int} {r : List Int} {es : List (Int × Int)} (h : EdgesIs G L ks (s :: r) es) :
    (onI G L s = [] ∧ EdgesIs G L ks r es) ∨ (onI G L s ≠ [] ∧ ∃ (j : Nat) (t : List (Int × Int)), es = (s, (j : Int)) :: t ∧ ks[j]? = some (onI G L s) ∧ EdgesIs G L ks r t) := by
  cases h with
  | skip h1 h2 => exact .inl ⟨h1, h2⟩
  | edge h1 h2 h3 => exact .inr ⟨h1, _, _, rfl, h2, h3⟩
theorem edges_end {G : Gram} {L : List It} {ks : List (List It)} {es : List (Int × Int)} (h : EdgesIs G L ks [] es) : es = [] := by
  cases h
  rfl
theorem symsI_len (G : Gram) : (symsI G).length = G.syms.length := by simp [symsI]
theorem symsI_drop {G : Gram} {k : Nat} (h : k < G.syms.length) : (symsI G).drop k = (k : Int) :: (symsI G).drop (k + 1) := by
  rw [List.drop_eq_getElem_cons (by rw [symsI_len]; exact h)]
  simp [symsI]
/-- How far a state's symbols have been gone through: a edges so far, c states come to, d at the end. -/
structure EdgAt (G : Gram) (L : List It) (ks : List (List It)) (es : List (Int × Int)) (d : Nat) (s a c : Nat) : Prop where
  le : a ≤ es.length
  edges : EdgesIs G L ks ((symsI G).drop s) (es.drop a)
  come : Come c (es.drop a) d
theorem EdgAt.step {G : Gram} {L : List It} {ks : List (List It)} {es : List (Int × Int)} {d s a c : Nat} (h : EdgAt G L ks es d s a c) (hs : s < G.syms.length) :
    (onI G L s = [] ∧ EdgAt G L ks es d (s + 1) a c) ∨ (onI G L s ≠ [] ∧ ∃ (j : Nat) (ha : a < es.length), es[a] = ((s : Int), (j : Int)) ∧ ks[j]? = some (onI G L s) ∧ (j < c ∧ EdgAt G L ks es d (s + 1) (a + 1) c ∨ j = c ∧ EdgAt G L ks es d (s + 1) (a + 1) (c + 1))) := by
  have hE := h.edges
  rw [symsI_drop hs] at hE
  rcases edges_cons hE with ⟨h1, h2⟩ | ⟨h1, j, t, h2, h3, h4⟩
  · exact .inl ⟨h1, h.le, h2, h.come⟩
  · have ha : a < es.length := by
      rcases Nat.lt_or_ge a es.length with h5 | h5
      · exact h5
      · rw [List.drop_eq_nil_of_le h5] at h2; cases h2
    rw [List.drop_eq_getElem_cons ha] at h2
    simp only [List.cons.injEq] at h2
    obtain ⟨h2, rfl⟩ := h2
    have hc := h.come
    rw [List.drop_eq_getElem_cons ha, h2] at hc
    obtain ⟨j', e, hor⟩ := come_cons hc
    simp only at e
    obtain rfl : j = j' := by omega
    refine .inr ⟨h1, j, ha, h2, h3, ?_⟩
    rcases hor with ⟨h5, h6⟩ | ⟨h5, h6⟩
    · exact .inl ⟨h5, ha, h4, h6⟩
    · exact .inr ⟨h5, ha, h4, h6⟩
theorem EdgAt.done {G : Gram} {L : List It} {ks : List (List It)} {es : List (Int × Int)} {d a c : Nat} (h : EdgAt G L ks es d G.syms.length a c) : a = es.length ∧ c = d := by
  have h1 := h.edges
  rw [List.drop_eq_nil_of_le (by rw [symsI_len]; exact Nat.le_refl _)] at h1
  have h2 := edges_end h1
  have h3 := h.come
  rw [h2] at h3
  have h4 : es.length ≤ a := by
    have := congrArg List.length h2
    simp only [List.length_drop, List.length_nil] at this
    omega
  cases h3
  exact ⟨Nat.le_antisymm h.le h4, rfl⟩
/-- How far the states have been gone through. -/
structure StsAt (gs : List (List (Int × Int))) (n i c : Nat) : Prop where
  le : i ≤ gs.length
  done : Come 1 (gs.take i).flatten c
  left : Come c (gs.drop i).flatten n
theorem StsAt.start {G : Gram} {ks : List (List It)} {gs : List (List (Int × Int))} (h : ColOk G ks.length ks gs) : StsAt gs ks.length 0 1 := ⟨Nat.zero_le _, .nil, h.come⟩
theorem StsAt.step {G : Gram} {ks : List (List It)} {gs : List (List (Int × Int))} (ho : ColOk G ks.length ks gs) {i c : Nat} (h : StsAt gs ks.length i c) (hi : i < gs.length) :
    i < c ∧ ∃ d, EdgAt G (cloL G (ks.getD i [])) ks gs[i] d 0 0 c ∧ StsAt gs ks.length (i + 1) d := by
  obtain ⟨c', h1, h2⟩ := ho.ahead i hi
  obtain rfl := come_det h.done h1
  refine ⟨h2, ?_⟩
  have hl := h.left
  rw [List.drop_eq_getElem_cons hi, List.flatten_cons] at hl
  obtain ⟨d, h3, h4⟩ := come_split hl
  obtain ⟨k, hk, hE⟩ := ho.edges i hi
  refine ⟨d, ⟨Nat.zero_le _, ?_, by simpa using h3⟩, ⟨hi, ?_, h4⟩⟩
  · rw [List.getD_eq_getElem?_getD, hk, Option.getD_some]
    simpa using hE
  · rw [List.take_add_one, List.getElem?_eq_getElem hi, List.flatten_append]
    exact come_app h.done (by simpa using h3)
end Go.Proofs.Ytgmkpncpcikecaa
namespace Go.Proofs.Ytgmkpncpcikecaa
open Go.RowKit Go.MapKept Go.ChangeMaps
set_option maxHeartbeats 400000

theorem col_bad {G : Gram} (hr : rightG G = false) (v : Value) (w : World) (h : IsGram w v G) : Calls Try.prog 7 #[v] w fun e w' => e = .returned (.tuple #[.slice none 0 0, .int .i64 2]) ∧ Below w.heap.size w w' := by
  refine (colF_any G v w h).mono ?_
  rintro e w' ⟨hb, hc⟩
  rw [if_pos hr] at hc
  exact ⟨hc, hb⟩
theorem col_many {G : Gram} (hr : rightG G = true) (hn : colI G = none) (v : Value) (w : World) (h : IsGram w v G) : Calls Try.prog 7 #[v] w fun e w' => e = .returned (.tuple #[.slice none 0 0, .int .i64 104]) ∧ Below w.heap.size w w' := by
  refine (colF_any G v w h).mono ?_
  rintro e w' ⟨hb, hc⟩
  rw [if_neg (by rw [hr]; decide), hn] at hc
  exact ⟨hc, hb⟩
theorem col_good {G : Gram} {ks : List (List It)} {gs : List (List (Int × Int))} (hr : rightG G = true) (hn : colI G = some (ks, gs)) (v : Value) (w : World) (h : IsGram w v G) :
    Calls Try.prog 7 #[v] w fun e w' => ∃ a c, e = .returned (.tuple #[.slice a ks.length c, .int .i64 0]) ∧ IsStates w' (.slice a ks.length c) (ks.zip gs) ∧ Below w.heap.size w w' := by
  refine (colF_any G v w h).mono ?_
  rintro e w' ⟨hb, hc⟩
  rw [if_neg (by rw [hr]; decide), hn] at hc
  obtain ⟨B, sb, am, lv, vs, rfl, hst, -⟩ := hc
  have hs := col_states hr hst hn
  have hl : (ks.zip gs).length = ks.length := by rw [List.length_zip, (colI_ok hn).len]; omega
  obtain ⟨a, c, e, -, -, -⟩ := hs.parts
  rw [hl] at e
  have e' : lv = .slice a ks.length c := e
  subst e'
  exact ⟨a, c, rfl, hs, hb⟩
/-- A state of those that Collection tells. -/
theorem IsStates.get {w : World} {a : Option Addr} {n c : Nat} {ks : List (List It)} {gs : List (List (Int × Int))} (h : IsStates w (.slice a n c) (ks.zip gs)) {k : Nat} (hk : k < ks.length) (hg : k < gs.length) :
    ∃ b o ka kc ga gc, a = some ⟨b, o, none⟩ ∧ IsItems w (.slice ka ks[k].length kc) ks[k] ∧ IsItems w (.slice ga gs[k].length gc) gs[k] ∧ w.cell? ⟨b, o + k * 2, none⟩ = some (.slice ka ks[k].length kc) ∧ w.cell? ⟨b, o + k * 2 + 1, none⟩ = some (.slice ga gs[k].length gc) := by
  have hz : k < (ks.zip gs).length := by rw [List.length_zip]; omega
  obtain ⟨b, o, e, kv, gv, h1, h2, h3, h4⟩ := h.at hz
  rw [List.getElem_zip] at h1 h2
  obtain ⟨ka, kc, e1, -, -, -⟩ := h1.parts
  obtain ⟨ga, gc, e2, -, -, -⟩ := h2.parts
  have e1' : kv = .slice ka ks[k].length kc := e1
  have e2' : gv = .slice ga gs[k].length gc := e2
  subst e1' e2'
  exact ⟨b, o, ka, kc, ga, gc, e, h1, h2, h3, h4⟩
end Go.Proofs.Ytgmkpncpcikecaa
