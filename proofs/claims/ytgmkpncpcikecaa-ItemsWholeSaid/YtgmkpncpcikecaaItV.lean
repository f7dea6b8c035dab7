/-
  ItemsWhole: what Collection tells, case by case; states at a place.
-/
import Derived.Test.YtgmkpncpcikecaaItU
import Derived.Test.YtgmkpncpcikecaaParts
import Derived.Test.YtgmkpncpcikecaaStands
namespace Go.Proofs.Ytgmkpncpcikecaa
open Go.RowKit Go.MapKept Go.ChangeMaps
set_option maxHeartbeats 400000

theorem col_bad {G : Gram} (hr : rightG G = false) (v : Value) (w : World) (h : IsGram w v G) : Calls Try.prog 7 #[v] w fun e w' => e = .returned (.tuple #[.slice none 0 0, .int .i64 2]) ∧ Below w.heap.size w w' := by
  refine (colF_any G v w h).mono ?_
  rintro e w' ⟨hb, hc⟩
  rw [if_pos hr] at hc
  exact ⟨hc, hb⟩
theorem col_many {G : Gram} (hr : rightG G = true) (hn : colI G = none) (v : Value) (w : World) (h : IsGram w v G) : Calls Try.prog 7 #[v] w fun e w' => e = .returned (.tuple #[.slice none 0 0, .int .i64 104]) ∧ Below w.heap.size w w' := by
  refine (colF_any G v w h).mono ?_
  rintro e w' ⟨hb, hc⟩
  rw [if_neg (by rw [hr]; decide), hn] at hc
  exact ⟨hc, hb⟩
theorem col_good {G : Gram} {ks : List (List It)} {gs : List (List (Int × Int))} (hr : rightG G = true) (hn : colI G = some (ks, gs)) (v : Value) (w : World) (h : IsGram w v G) :
    Calls Try.prog 7 #[v] w fun e w' => ∃ a c, e = .returned (.tuple #[.slice a ks.length c, .int .i64 0]) ∧ IsStates w' (.slice a ks.length c) (ks.zip gs) ∧ Below w.heap.size w w' := by
  refine (colF_any G v w h).mono ?_
  rintro e w' ⟨hb, hc⟩
  rw [if_neg (by rw [hr]; decide), hn] at hc
  obtain ⟨B, sb, am, lv, vs, rfl, hst, -⟩ := hc
  have hs := col_states hr hst hn
  have hl : (ks.zip gs).length = ks.length := by rw [List.length_zip, (colI_ok hn).len]; omega
  obtain ⟨a, c, e, -, -, -⟩ := hs.parts
  rw [hl] at e
  have e' : lv = .slice a ks.length c := e
  subst e'
  exact ⟨a, c, rfl, hs, hb⟩
/-- A state of those that Collection tells. -/
theorem IsStates.get {w : World} {a : Option Addr} {n c : Nat} {ks : List (List It)} {gs : List (List (Int × Int))} (h : IsStates w (.slice a n c) (ks.zip gs)) {k : Nat} (hk : k < ks.length) (hg : k < gs.length) :
    ∃ b o ka kc ga gc, a = some ⟨b, o, none⟩ ∧ IsItems w (.slice ka ks[k].length kc) ks[k] ∧ IsItems w (.slice ga gs[k].length gc) gs[k] ∧ w.cell? ⟨b, o + k * 2, none⟩ = some (.slice ka ks[k].length kc) ∧ w.cell? ⟨b, o + k * 2 + 1, none⟩ = some (.slice ga gs[k].length gc) := by
  have hz : k < (ks.zip gs).length := by rw [List.length_zip]; omega
  obtain ⟨b, o, e, kv, gv, h1, h2, h3, h4⟩ := h.at hz
  rw [List.getElem_zip] at h1 h2
  obtain ⟨ka, kc, e1, -, -, -⟩ := h1.parts
  obtain ⟨ga, gc, e2, -, -, -⟩ := h2.parts
  have e1' : kv = .slice ka ks[k].length kc := e1
  have e2' : gv = .slice ga gs[k].length gc := e2
  subst e1' e2'
  exact ⟨b, o, ka, kc, ga, gc, e, h1, h2, h3, h4⟩
end Go.Proofs.Ytgmkpncpcikecaa
