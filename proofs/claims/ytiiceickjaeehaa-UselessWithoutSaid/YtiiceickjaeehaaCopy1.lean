/-
  The statements' own helpers that copy: CopyInts, CopySymbols. Lists that a call has made are lists of symbols, of productions.
-/
import Derived.Test.YtiiceickjaeehaaUse7
namespace Go.Proofs.Ytiiceickjaeehaa
open Go.RowKit
set_option maxHeartbeats 400000

theorem own_ints {w : World} {B : Nat} {v : Value} {xs : List Int} (h : w.ownsRow B 3 1 v xs.length (xs.map (Value.int .i64))) (hx : ∀ x ∈ xs, -9223372036854775808 ≤ x ∧ x ≤ 9223372036854775807) (hl : xs.length ≤ 17592186044416) : Ints w v xs := by
  obtain ⟨a, cap, rfl, h1, h2, h3⟩ := own_cells h
  refine ⟨hx, hl, a, cap, rfl, h1, h2, ?_⟩
  rcases h3 with h3 | ⟨g, rfl, _, hc⟩
  · exact .inl (List.map_eq_nil_iff.1 h3)
  · exact .inr ⟨g, 0, rfl, hc⟩
theorem own_syms {w : World} {B : Nat} {v : Value} {l : List Sym} (h : w.ownsRow B 57 4 v l.length (l.flatMap symCells)) (hx : ∀ x ∈ l, SymOk x) (hl : l.length ≤ 17592186044416) : IsSyms w v l := by
  obtain ⟨a, cap, rfl, h1, h2, h3⟩ := own_cells h
  refine ⟨hl, a, cap, rfl, h1, h2, ?_⟩
  rcases h3 with h3 | ⟨g, rfl, _, hc⟩
  · left
    have := flat_len symCells 4 (fun _ => rfl) l
    rw [h3] at this
    exact List.eq_nil_of_length_eq_zero (by simp at this; omega)
  · exact .inr ⟨g, 0, rfl, fun i hi => ⟨hx _ (List.getElem_mem hi), flat_cells (m := 4) (fun _ => rfl) hc i hi⟩⟩
theorem own_prds {w : World} {B : Nat} {v : Value} {xs : List (Prd × Value)} (h : w.ownsRow B 35 6 v xs.length (xs.flatMap cellsP)) (hx : ∀ x ∈ xs, PrdOk x.1 ∧ Ints w x.2 x.1.right) (hl : xs.length ≤ 17592186044416) : IsPrds w v (xs.map Prod.fst) := by
  obtain ⟨a, cap, rfl, h1, h2, h3⟩ := own_cells h
  refine ⟨by rw [List.length_map]; exact hl, a, cap, by rw [List.length_map], by rw [List.length_map]; exact h1, h2, ?_⟩
  rcases h3 with h3 | ⟨g, rfl, _, hc⟩
  · left
    have := flat_len cellsP 6 (fun _ => rfl) xs
    rw [h3] at this
    rw [List.map_eq_nil_iff]
    exact List.eq_nil_of_length_eq_zero (by simp at this; omega)
  · refine .inr ⟨g, 0, rfl, fun i hi => ?_⟩
    have hi' : i < xs.length := by simpa using hi
    have hc' := flat_cells (m := 6) (fun _ => rfl) hc i hi'
    have hx' := hx _ (List.getElem_mem hi')
    simp only [List.getElem_map]
    exact ⟨hx'.1, xs[i].2, hx'.2, hc'⟩

theorem own_frB {ch : Nat → Prop} {w w' : World} {B e size n : Nat} {v : Value} {xs : List Value} (h : w.ownsRow B e size v n xs) (k : Fr ch w w') (hc : ∀ g, B ≤ g → ¬ ch g) : w'.ownsRow B e size v n xs := by
  obtain ⟨h1, h2⟩ := h
  refine ⟨h1, ?_⟩
  rcases h2 with h2 | ⟨g, cap, cur, hv, hb, hg, r⟩
  · exact .inl h2
  · exact .inr ⟨g, cap, cur, hv, hb, k.obj hg (hc g hb), r⟩
theorem syms_fit {w : World} {v : Value} {l : List Sym} (h : IsSyms w v l) : ∀ s ∈ l, SymOk s := fun s hs => by
  obtain ⟨i, hi, rfl⟩ := List.mem_iff_getElem.1 hs
  obtain ⟨_, a, cap, _, _, _, hx⟩ := h
  rcases hx with rfl | ⟨b, o, _, hx⟩
  · simp at hi
  · exact (hx i hi).1
set_option maxRecDepth 100000 in
set_option maxHeartbeats 1000000 in
theorem copyInts_any (v : Value) (xs : List Int) (w : World) (h : Ints w v xs) :
    Calls Try.prog 63 #[v] w fun e w' => ∃ a c, e = .returned (.slice a xs.length c) ∧ OwnInts w w' (.slice a xs.length c) xs ∧ Ints w' (.slice a xs.length c) xs := by
  obtain ⟨hbd, hlen, a, c, rfl, _, _, hx⟩ := h
  obtain ⟨i0, hi, hz0, hz1, hz2⟩ := info_parts Try.infoInt'
  have hsrc : (a = none ∧ xs.length = 0) ∨ ∃ ad, a = some ad ∧ ∀ j u, (xs.map (Value.int .i64))[j]? = some u → w.cell? (ad.add j) = some u := by
    rcases hx with rfl | ⟨b, o, rfl, hc⟩
    · cases a with
      | none => exact .inl ⟨rfl, rfl⟩
      | some ad => exact .inr ⟨ad, rfl, fun j u h => by simp at h⟩
    · exact .inr ⟨_, rfl, cells_add hc⟩
  have HS := Lib.hid hsrc
  have HB := Lib.hid hbd
  clear hsrc hx hbd
  go_enter Try.func63, Try.ntmps63
  go_wp2_with (at_builtin; refine wpList_append_any rfl _ _ 29 rfl w.heap.size 3 i0 (.int .i64 0) 1 8 Try.underlying29 hi hz0 hz1 hz2 rfl (by decide) _ 0 [] rfl (World.ownsRow_nil _ _ _ _) a xs.length c (xs.map (Value.int .i64)) rfl (by simp) HS.out (by simp [Value.oneCell']) (by unfold maxLen; omega) (by omega) (Nat.le_refl _) ?_; intro v2 w2 hown2 hgrow2)
  go_ret
  simp only [Nat.zero_add, List.nil_append] at hown2
  have hB : Below w.heap.size w w2 := (Below.refl _ _).grown hgrow2 (Nat.le_refl _) (fun j e => by cases e)
  obtain ⟨a2, c2, hv, _⟩ := own_cells hown2
  subst hv
  exact ⟨a2, c2, rfl, ⟨hown2, hB⟩, own_ints hown2 HB.out hlen⟩

/-- Symbols in new memory. -/
def OwnSyms (w w' : World) (v : Value) (l : List Sym) : Prop := w'.ownsRow w.heap.size 57 4 v l.length (l.flatMap symCells) ∧ IsSyms w' v l ∧ Below w.heap.size w w'
set_option maxRecDepth 100000 in
set_option maxHeartbeats 1000000 in
theorem copySyms_any (v : Value) (l : List Sym) (w : World) (h : IsSyms w v l) (hlen : l.length ≤ 1000000000000) :
    Calls Try.prog 30 #[v] w fun e w' => ∃ a c, e = .returned (.slice a l.length c) ∧ OwnSyms w w' (.slice a l.length c) l := by
  obtain ⟨_, a, c, rfl, _, _, hx⟩ := h
  obtain ⟨i0, hi, hz0, hz1, hz2⟩ := info_parts Try.infoSym
  have hok : ∀ s ∈ l, SymOk s := fun s hs => by
    obtain ⟨i, hi, rfl⟩ := List.mem_iff_getElem.1 hs
    rcases hx with rfl | ⟨b, o, _, hx⟩
    · simp at hi
    · exact (hx i hi).1
  have hsrc : (a = none ∧ l.length = 0) ∨ ∃ ad, a = some ad ∧ ∀ j u, (l.flatMap symCells)[j]? = some u → w.cell? (ad.add j) = some u := by
    rcases hx with rfl | ⟨b, o, rfl, hc⟩
    · cases a with
      | none => exact .inl ⟨rfl, rfl⟩
      | some ad => exact .inr ⟨ad, rfl, fun j u h => by simp at h⟩
    · exact .inr ⟨_, rfl, cells_add (cells_flat (m := 4) (by omega) (fun _ => rfl) fun i hi => (hc i hi).2)⟩
  have HS := Lib.hid hsrc
  have HO := Lib.hid hok
  have hone := syms_one l
  have hfl := flat_len symCells 4 (fun _ => rfl) l
  clear hsrc hx hok
  go_enter Try.func30, Try.ntmps30
  go_wp2_with (at_builtin; refine wpList_append_any rfl _ _ 22 rfl w.heap.size 57 i0 _ 4 48 Try.underlying22 hi hz0 hz1 hz2 rfl (by decide) _ 0 [] rfl (World.ownsRow_nil _ _ _ _) a l.length c (l.flatMap symCells) rfl hfl HS.out hone (by unfold maxLen; omega) (by omega) (Nat.le_refl _) ?_; intro v2 w2 hown2 hgrow2)
  go_ret
  simp only [Nat.zero_add, List.nil_append] at hown2
  have hB : Below w.heap.size w w2 := (Below.refl _ _).grown hgrow2 (Nat.le_refl _) (fun j e => by cases e)
  obtain ⟨a2, c2, hv, _⟩ := own_cells hown2
  subst hv
  exact ⟨a2, c2, rfl, hown2, own_syms hown2 HO.out (by omega), hB⟩
end Go.Proofs.Ytiiceickjaeehaa
