/-
  Package pack: Act.
  Package pack: the document's place.
  Package pack: the document's Goto.
  Package pack: the document's Act.
-/
import Derived.Test.YtehaoiimhgkckaaPk1
namespace Go.Proofs.Ytehaoiimhgkckaa
open Go.RowKit
set_option maxHeartbeats 400000

set_option maxRecDepth 100000 in
set_option maxHeartbeats 4000000 in
theorem packAct_any (P : Pk) (dv bv cv nv gb gc gn : Value) (state term : Int) (w : World) (h : PkV w dv bv cv nv gb gc gn P) (hs : i64 state) (ht : i64 term) :
    Calls Try.prog 10 #[.agg #[dv, bv, cv, nv, gb, gc, gn], .int .i64 state, .int .i64 term] w fun e w' => e = .returned (acV (actE P state term)) ∧ Below w.heap.size w w' := by
  have hdf := h.dflt
  obtain ⟨_, _, a1, c1, rfl, _⟩ := id h.dflt
  obtain ⟨_, _, a2, c2, rfl, _⟩ := id h.base
  obtain ⟨_, _, a3, c3, rfl, _⟩ := id h.check
  obtain ⟨a4, c4, rfl, _⟩ := Rows'.parts h.next
  obtain ⟨_, _, a5, c5, rfl, _⟩ := id h.gobase
  obtain ⟨_, _, a6, c6, rfl, _⟩ := id h.gocheck
  obtain ⟨_, _, a7, c7, rfl, _⟩ := id h.gonext
  have HA := Lib.hid fun (W : World) (hW : Fr nothing w W) => atA_any P.base P.check P.next _ _ _ state term W (h.base.fr hW) (h.check.fr hW) (h.next.fr hW) hs ht
  clear h
  unfold actE acV
  by_cases h1 : state < 0
  · have d1 : decide (state < 0) = true := decide_eq_true h1
    rw [if_pos (.inl h1)]
    clear h1 hdf HA
    go_enter Try.func10, Try.ntmps10
    go_wp2
    exact bodyPost_ret (v := .agg #[.int .u8 0, .int .i64 0]) (by simp [results, Try.results10, go_sem]) rfl ⟨rfl, ((Below.refl _ _).alloc (Nat.le_refl _) _).alloc (by simp) _⟩
  have d1 : decide (state < 0) = false := decide_eq_false h1
  by_cases h2 : (P.base.length : Int) ≤ state
  · have d2 : decide ((P.base.length : Int) ≤ state) = true := decide_eq_true h2
    rw [if_pos (.inr (.inl h2))]
    clear h1 h2 hdf HA
    go_enter Try.func10, Try.ntmps10
    go_wp2
    exact bodyPost_ret (v := .agg #[.int .u8 0, .int .i64 0]) (by simp [results, Try.results10, go_sem]) rfl ⟨rfl, ((Below.refl _ _).alloc (Nat.le_refl _) _).alloc (by simp) _⟩
  have d2 : decide ((P.base.length : Int) ≤ state) = false := decide_eq_false h2
  by_cases h3 : (P.dflt.length : Int) ≤ state
  · have d3 : decide ((P.dflt.length : Int) ≤ state) = true := decide_eq_true h3
    rw [if_pos (.inr (.inr (.inl h3)))]
    clear h1 h2 h3 hdf HA
    go_enter Try.func10, Try.ntmps10
    go_wp2
    exact bodyPost_ret (v := .agg #[.int .u8 0, .int .i64 0]) (by simp [results, Try.results10, go_sem]) rfl ⟨rfl, ((Below.refl _ _).alloc (Nat.le_refl _) _).alloc (by simp) _⟩
  have d3 : decide ((P.dflt.length : Int) ≤ state) = false := decide_eq_false h3
  by_cases h4 : term < 0
  · have d4 : decide (term < 0) = true := decide_eq_true h4
    rw [if_pos (.inr (.inr (.inr h4)))]
    clear h1 h2 h3 h4 hdf HA
    go_enter Try.func10, Try.ntmps10
    go_wp2
    exact bodyPost_ret (v := .agg #[.int .u8 0, .int .i64 0]) (by simp [results, Try.results10, go_sem]) rfl ⟨rfl, ((Below.refl _ _).alloc (Nat.le_refl _) _).alloc (by simp) _⟩
  have d4 : decide (term < 0) = false := decide_eq_false h4
  rw [if_neg (by omega)]
  obtain ⟨r, rfl⟩ : ∃ r : Nat, state = r := ⟨state.toNat, by omega⟩
  have hrl : r < P.dflt.length := by omega
  have hrb : r < P.base.length := by omega
  obtain ⟨b1, o1, rfl, _, _, hcd, _⟩ := hdf.at hrl
  have hgd : P.dflt.getD (r : Int).toNat 0 = P.dflt[r] := by simp [hrl]
  rw [hgd]
  have lb : b1 < w.heap.size := World.block_lt_of_cell? w _ hcd
  generalize P.dflt[r] = dd at *
  clear hgd hdf h1 h2 h3 h4
  cases hat : atP P.base P.check (min P.check.length P.next.length) r term with
  | some k =>
    rw [hat] at HA
    unfold ansA at HA
    simp only at HA ⊢
    generalize (P.next.getD k ⟨0, 0⟩).kind = xk at *
    generalize (P.next.getD k ⟨0, 0⟩).dst = xd at *
    clear hat hcd lb
    go_enter Try.func10, Try.ntmps10
    go_wp2_with ((go_at_call 28; refine (HA.out _ ((Fr.alloc _ _).trans (Fr.alloc _ _))).mono ?_; rintro e w2 ⟨rfl, hb2⟩; have hr : w2.heap[w.heap.size + 1]? = some (.cells #[.int .u8 0, .int .i64 0] 31 (0, 0)) := (Fr.new hb2).obj (laid_at (by simp)) fun e => e; have g0 : w2.cell? ⟨w.heap.size + 1, 0, none⟩ = some (.int .u8 0) := obj_cell hr 0 rfl; have g1 : w2.cell? ⟨w.heap.size + 1, 1, none⟩ = some (.int .i64 0) := obj_cell hr 1 rfl; have z0 := obj_frozen hr 0; have z1 := obj_frozen hr 1; have l2 := World.block_lt_of_cell? w2 _ g0))
    refine at_world (Q := bodyPost _ _ _ _ _) (F := fun Y => Y.cell? ⟨w.heap.size + 1, 0, none⟩ = some (.int .u8 xk) ∧ Y.cell? ⟨w.heap.size + 1, 1, none⟩ = some (.int .i64 xd) ∧ Fr (only (w.heap.size + 1)) w2 Y) ⟨by simp [go_sem, g0, l2], by simp [go_sem, g1, l2], (Fr.trans (ch := only (w.heap.size + 1)) (Fr.setCell _ ⟨w.heap.size + 1, 0, none⟩ _) (Fr.setCell _ ⟨w.heap.size + 1, 1, none⟩ _)).trans (Fr.alloc _ _)⟩ ?_
    rintro Y ⟨r0, r1, hY⟩
    have hbw : Below w.heap.size w w2 := (((Fr.alloc _ _).trans (Fr.alloc _ _)).trans (Fr.new hb2)).below_new
    exact bodyPost_ret (v := .agg #[.int .u8 xk, .int .i64 xd]) (by simp [results, Try.results10, go_sem, r0, r1]) rfl ⟨rfl, hbw.trans (hY.below hbw.size fun g e => by have e' : g = w.heap.size + 1 := e; omega)⟩
  | none =>
    rw [hat] at HA
    unfold ansA at HA
    simp only at HA ⊢
    have HS := Lib.hid fun (W : World) => says_any dd W
    unfold acV at HS
    generalize (saysE dd).kind = xk at *
    generalize (saysE dd).dst = xd at *
    clear hat
    go_enter Try.func10, Try.ntmps10
    go_wp2_with (first | (go_at_call 28; refine (HA.out _ ((Fr.alloc _ _).trans (Fr.alloc _ _))).mono ?_; rintro e w2 ⟨rfl, hb2⟩; have hr : w2.heap[w.heap.size + 1]? = some (.cells #[.int .u8 0, .int .i64 0] 31 (0, 0)) := (Fr.new hb2).obj (laid_at (by simp)) fun e => e; have g0 : w2.cell? ⟨w.heap.size + 1, 0, none⟩ = some (.int .u8 0) := obj_cell hr 0 rfl; have g1 : w2.cell? ⟨w.heap.size + 1, 1, none⟩ = some (.int .i64 0) := obj_cell hr 1 rfl; have z0 := obj_frozen hr 0; have z1 := obj_frozen hr 1; have l2 := World.block_lt_of_cell? w2 _ g0; have p0 : w2.cell? ⟨w.heap.size, 0, none⟩ = some (.slice (some ⟨b1, o1, none⟩) P.dflt.length c1) := obj_cell ((Fr.new hb2).obj (alloc_older (alloc_obj w (.cells #[.slice (some ⟨b1, o1, none⟩) P.dflt.length c1, .slice a2 P.base.length c2, .slice a3 P.check.length c3, .slice a4 P.next.length c4, .slice a5 P.gobase.length c5, .slice a6 P.gocheck.length c6, .slice a7 P.gonext.length c7] 25 (0, 0)))) fun e => e) 0 rfl; have l0 := World.block_lt_of_cell? w2 _ p0; have q0 := (((Fr.alloc _ _).trans (Fr.alloc _ _)).trans (Fr.new hb2)).cell hcd fun e => e; have lq := World.block_lt_of_cell? w2 _ q0) | (go_at_call 29; refine (HS.out _).mono ?_; rintro e w3 ⟨rfl, hb3⟩; have hF3 := (Fr.alloc w2 (.cells #[.int .u8 0, .int .i64 0] 31 (0, 0))).trans (Fr.new hb3); have hr3 := hF3.obj hr (fun e => e); have g0' : w3.cell? ⟨w.heap.size + 1, 0, none⟩ = some (.int .u8 0) := obj_cell hr3 0 rfl; have g1' : w3.cell? ⟨w.heap.size + 1, 1, none⟩ = some (.int .i64 0) := obj_cell hr3 1 rfl; have z0' := obj_frozen hr3 0; have z1' := obj_frozen hr3 1))
    refine at_world (Q := bodyPost _ _ _ _ _) (F := fun Y => Y.cell? ⟨w.heap.size + 1, 0, none⟩ = some (.int .u8 xk) ∧ Y.cell? ⟨w.heap.size + 1, 1, none⟩ = some (.int .i64 xd) ∧ Fr (only (w.heap.size + 1)) w3 Y) ⟨by simp [go_sem, g0'], by simp [go_sem, g1'], Fr.trans (ch := only (w.heap.size + 1)) (Fr.setCell _ ⟨w.heap.size + 1, 0, none⟩ _) (Fr.setCell _ ⟨w.heap.size + 1, 1, none⟩ _)⟩ ?_
    rintro Y ⟨r0, r1, hY⟩
    have hbw : Below w.heap.size w w3 := ((((Fr.alloc _ _).trans (Fr.alloc _ _)).trans (Fr.new hb2)).trans hF3).below_new
    exact bodyPost_ret (v := .agg #[.int .u8 xk, .int .i64 xd]) (by simp [results, Try.results10, go_sem, r0, r1]) rfl ⟨rfl, hbw.trans (hY.below hbw.size fun g e => by have e' : g = w.heap.size + 1 := e; omega)⟩
end Go.Proofs.Ytehaoiimhgkckaa
namespace Go.Proofs.Ytehaoiimhgkckaa
open Go.RowKit
set_option maxHeartbeats 400000

/-- The document's place of a row and a symbol: -1, where there is none. -/
def placeE (base : List Int) (most : Nat) (row sym : Int) : Int :=
  if row < 0 ∨ (base.length : Int) ≤ row ∨ sym < 0 then -1
  else
    let b := base.getD row.toNat 0
    if b < -sym ∨ (most : Int) - 1 - sym < b then -1 else b + sym
set_option maxRecDepth 100000 in
set_option maxHeartbeats 2000000 in
theorem place24_any (base : List Int) (bs : Value) (row sym : Int) (m : Nat) (w : World) (hb : Ints w bs base) (hr : i64 row) (hs : i64 sym) (hm : m ≤ 17592186044416) :
    Calls Try.prog 30 #[bs, .int .i64 row, .int .i64 sym, .int .i64 m] w fun e w' => e = .returned (.int .i64 (placeE base m row sym)) ∧ w = w' := by
  obtain ⟨_, hbl, ba, bc, rfl, _, _, _⟩ := id hb
  unfold i64 at hr hs
  by_cases h1 : row < 0
  · have d1 : decide (row < 0) = true := decide_eq_true h1
    have e : placeE base m row sym = -1 := by unfold placeE; rw [if_pos (.inl h1)]
    rw [e]
    clear hb e h1
    go_enter Try.func30, Try.ntmps30
    go_wp2
    go_ret
    exact ⟨rfl, rfl⟩
  by_cases h2 : (base.length : Int) ≤ row
  · have d1 : decide (row < 0) = false := decide_eq_false h1
    have d2 : decide ((base.length : Int) ≤ row) = true := decide_eq_true h2
    have e : placeE base m row sym = -1 := by unfold placeE; rw [if_pos (.inr (.inl h2))]
    rw [e]
    clear hb e h1 h2
    go_enter Try.func30, Try.ntmps30
    go_wp2
    go_ret
    exact ⟨rfl, rfl⟩
  by_cases h3 : sym < 0
  · have d1 : decide (row < 0) = false := decide_eq_false h1
    have d2 : decide ((base.length : Int) ≤ row) = false := decide_eq_false h2
    have d3 : decide (sym < 0) = true := decide_eq_true h3
    have e : placeE base m row sym = -1 := by unfold placeE; rw [if_pos (.inr (.inr h3))]
    rw [e]
    clear hb e h1 h2 h3
    go_enter Try.func30, Try.ntmps30
    go_wp2
    go_ret
    exact ⟨rfl, rfl⟩
  obtain ⟨r, rfl⟩ : ∃ r : Nat, row = r := ⟨row.toNat, by omega⟩
  have hrl : r < base.length := by omega
  obtain ⟨b1, o1, rfl, _, _, hcb, hbi⟩ := hb.at hrl
  have hgd : base.getD (r : Int).toNat 0 = base[r] := by simp [hrl]
  have hat : placeE base m r sym = (if base[r] < -sym ∨ (m : Int) - 1 - sym < base[r] then -1 else base[r] + sym) := by
    unfold placeE
    rw [if_neg (by omega), hgd]
  rw [hat]
  clear hat hgd
  unfold i64 at hbi
  generalize base[r] = bv at *
  have d1 : decide ((r : Int) < 0) = false := decide_eq_false (by omega)
  have d2 : decide ((base.length : Int) ≤ (r : Int)) = false := decide_eq_false (by omega)
  have d3 : decide (sym < 0) = false := decide_eq_false (by omega)
  have w1 : RowKit.wrap64 (-sym) = -sym := IntWalk.wrap64_in _ (by omega)
  have w2 : RowKit.wrap64 ((m : Int) - 1 - sym) = (m : Int) - 1 - sym := IntWalk.wrap64_in _ (by omega)
  have hs0 : 0 ≤ sym := by omega
  clear hb h1 h2 h3
  by_cases h5 : (m : Int) - 1 - sym < bv
  · have d5 : decide ((m : Int) - 1 - sym < bv) = true := decide_eq_true h5
    rw [if_pos (.inr h5)]
    clear h5
    go_enter Try.func30, Try.ntmps30
    go_wp2
    go_ret
    exact ⟨rfl, rfl⟩
  have d5 : decide ((m : Int) - 1 - sym < bv) = false := decide_eq_false h5
  by_cases h4 : bv < -sym
  · have d4 : decide (bv < -sym) = true := decide_eq_true h4
    rw [if_pos (.inl h4)]
    clear h4 h5
    go_enter Try.func30, Try.ntmps30
    go_wp2
    go_ret
    exact ⟨rfl, rfl⟩
  have d4 : decide (bv < -sym) = false := decide_eq_false h4
  have w3 : RowKit.wrap64 (bv + sym) = bv + sym := IntWalk.wrap64_in _ (by omega)
  rw [if_neg (by omega)]
  clear h4 h5
  go_enter Try.func30, Try.ntmps30
  go_wp2
  go_ret
  exact ⟨rfl, rfl⟩
end Go.Proofs.Ytehaoiimhgkckaa
namespace Go.Proofs.Ytehaoiimhgkckaa
open Go.RowKit
set_option maxHeartbeats 400000

theorem atP_place (base check : List Int) (most : Nat) (row sym : Int) : atP base check most row sym = if 0 ≤ placeE base most row sym ∧ check.getD (placeE base most row sym).toNat 0 = row then some (placeE base most row sym).toNat else none := by
  unfold atP placeE
  by_cases h1 : row < 0 ∨ (base.length : Int) ≤ row ∨ sym < 0
  · rw [if_pos h1, if_pos h1, if_neg (by omega)]
  · rw [if_neg h1, if_neg h1]
    simp only
    by_cases h2 : base.getD row.toNat 0 < -sym ∨ (most : Int) - 1 - sym < base.getD row.toNat 0
    · rw [if_pos h2, if_pos h2, if_neg (by omega)]
    · rw [if_neg h2, if_neg h2]
      have h3 : 0 ≤ base.getD row.toNat 0 + sym := by omega
      by_cases h4 : check.getD (base.getD row.toNat 0 + sym).toNat 0 = row
      · rw [if_pos h4, if_pos ⟨h3, h4⟩]
      · rw [if_neg h4, if_neg fun h => h4 h.2]
theorem placeE_lt {base : List Int} {most : Nat} {row sym : Int} (h : 0 ≤ placeE base most row sym) : (placeE base most row sym).toNat < most := by
  unfold placeE at h ⊢
  split at h
  · omega
  · rename_i h1
    rw [if_neg h1]
    simp only at h ⊢
    split at h
    · omega
    · rename_i h2
      rw [if_neg h2]
      omega
set_option maxRecDepth 100000 in
set_option maxHeartbeats 2000000 in
theorem refGoto_any (P : Pk) (dv bv cv nv gb gc gn : Value) (state nonterm : Int) (w : World) (h : PkV w dv bv cv nv gb gc gn P) (hs : i64 state) (ht : i64 nonterm) :
    Calls Try.prog 13 #[.agg #[dv, bv, cv, nv, gb, gc, gn], .int .i64 state, .int .i64 nonterm] w fun e w' => e = .returned (.int .i64 (gotoE P state nonterm)) ∧ Below w.heap.size w w' := by
  have hgc := h.gocheck
  have hgn := h.gonext
  obtain ⟨_, _, a1, c1, rfl, _⟩ := id h.dflt
  obtain ⟨_, _, a2, c2, rfl, _⟩ := id h.base
  obtain ⟨_, _, a3, c3, rfl, _⟩ := id h.check
  obtain ⟨a4, c4, rfl, _⟩ := Rows'.parts h.next
  obtain ⟨_, _, a5, c5, rfl, _⟩ := id h.gobase
  obtain ⟨_, hl6, a6, c6, rfl, _⟩ := id h.gocheck
  obtain ⟨_, hl7, a7, c7, rfl, _⟩ := id h.gonext
  obtain ⟨m, hm⟩ : ∃ m, m = min P.gocheck.length P.gonext.length := ⟨_, rfl⟩
  have HA := Lib.hid fun (W : World) (hW : Fr nothing w W) => place24_any P.gobase _ state nonterm m W (h.gobase.fr hW) hs ht (by omega)
  have hml : m = if P.gonext.length < P.gocheck.length then P.gonext.length else P.gocheck.length := by rw [hm]; split <;> omega
  have hlt := placeE_lt (base := P.gobase) (most := m) (row := state) (sym := nonterm)
  unfold gotoE
  rw [atP_place, ← hm]
  clear h
  generalize placeE P.gobase m state nonterm = z at *
  by_cases h0 : 0 ≤ z
  · obtain ⟨k, rfl⟩ : ∃ k : Nat, z = k := ⟨z.toNat, by omega⟩
    have hk := hlt (by omega)
    simp only [Int.toNat_natCast] at hk ⊢
    have hk6 : k < P.gocheck.length := by omega
    have hk7 : k < P.gonext.length := by omega
    obtain ⟨b6, o6, rfl, _, _, hc6, _⟩ := hgc.at hk6
    obtain ⟨b7, o7, rfl, _, _, hc7, _⟩ := hgn.at hk7
    have l6 : b6 < w.heap.size := World.block_lt_of_cell? w _ hc6
    have l7 : b7 < w.heap.size := World.block_lt_of_cell? w _ hc7
    have e6 : P.gocheck.getD k 0 = P.gocheck[k] := by simp [hk6]
    have e7 : P.gonext.getD k 0 = P.gonext[k] := by simp [hk7]
    rw [e6]
    generalize hv6 : P.gocheck[k] = v6 at *
    by_cases hv : v6 = state
    · rw [if_pos ⟨by omega, hv⟩]
      simp only [e7]
      subst hv
      generalize P.gonext[k] = v7 at *
      clear hgc hgn hlt e6 e7 hv6 hm
      by_cases hl : P.gonext.length < P.gocheck.length
      · rw [if_pos hl] at hml
        subst hml
        go_enter Try.func13, Try.ntmps13
        go_wp2_with (go_at_call 30; refine (HA.out _ (Fr.alloc _ _)).mono ?_; rintro e w2 ⟨rfl, rfl⟩)
        go_ret
        exact ⟨rfl, (Below.refl _ _).alloc (Nat.le_refl _) _⟩
      · rw [if_neg hl] at hml
        subst hml
        go_enter Try.func13, Try.ntmps13
        go_wp2_with (go_at_call 30; refine (HA.out _ (Fr.alloc _ _)).mono ?_; rintro e w2 ⟨rfl, rfl⟩)
        go_ret
        exact ⟨rfl, (Below.refl _ _).alloc (Nat.le_refl _) _⟩
    · rw [if_neg fun h => hv h.2]
      simp only
      have d7 : (v6 == state) = false := by simpa using hv
      clear hgc hgn hlt e6 e7 hv6 hm hv hc7
      by_cases hl : P.gonext.length < P.gocheck.length
      · rw [if_pos hl] at hml
        subst hml
        go_enter Try.func13, Try.ntmps13
        go_wp2_with (go_at_call 30; refine (HA.out _ (Fr.alloc _ _)).mono ?_; rintro e w2 ⟨rfl, rfl⟩)
        go_ret
        exact ⟨rfl, (Below.refl _ _).alloc (Nat.le_refl _) _⟩
      · rw [if_neg hl] at hml
        subst hml
        go_enter Try.func13, Try.ntmps13
        go_wp2_with (go_at_call 30; refine (HA.out _ (Fr.alloc _ _)).mono ?_; rintro e w2 ⟨rfl, rfl⟩)
        go_ret
        exact ⟨rfl, (Below.refl _ _).alloc (Nat.le_refl _) _⟩
  · rw [if_neg fun h => h0 h.1]
    simp only
    have d0 : decide ((0 : Int) ≤ z) = false := decide_eq_false h0
    clear hgc hgn hlt hm h0
    by_cases hl : P.gonext.length < P.gocheck.length
    · rw [if_pos hl] at hml
      subst hml
      go_enter Try.func13, Try.ntmps13
      go_wp2_with (go_at_call 30; refine (HA.out _ (Fr.alloc _ _)).mono ?_; rintro e w2 ⟨rfl, rfl⟩)
      go_ret
      exact ⟨rfl, (Below.refl _ _).alloc (Nat.le_refl _) _⟩
    · rw [if_neg hl] at hml
      subst hml
      go_enter Try.func13, Try.ntmps13
      go_wp2_with (go_at_call 30; refine (HA.out _ (Fr.alloc _ _)).mono ?_; rintro e w2 ⟨rfl, rfl⟩)
      go_ret
      exact ⟨rfl, (Below.refl _ _).alloc (Nat.le_refl _) _⟩
end Go.Proofs.Ytehaoiimhgkckaa
namespace Go.Proofs.Ytehaoiimhgkckaa
open Go.RowKit
set_option maxHeartbeats 400000

set_option maxRecDepth 100000 in
set_option maxHeartbeats 4000000 in
theorem refAct_any (P : Pk) (dv bv cv nv gb gc gn : Value) (state term : Int) (w : World) (h : PkV w dv bv cv nv gb gc gn P) (hs : i64 state) (ht : i64 term) :
    Calls Try.prog 11 #[.agg #[dv, bv, cv, nv, gb, gc, gn], .int .i64 state, .int .i64 term] w fun e w' => e = .returned (acV (actE P state term)) ∧ Below w.heap.size w w' := by
  have hdf := h.dflt
  have hck := h.check
  have hnx := h.next
  obtain ⟨_, _, a1, c1, rfl, _⟩ := id h.dflt
  obtain ⟨_, _, a2, c2, rfl, _⟩ := id h.base
  obtain ⟨_, hl3, a3, c3, rfl, _⟩ := id h.check
  obtain ⟨a4, c4, rfl, _, _, hl4⟩ := Rows'.parts h.next
  obtain ⟨_, _, a5, c5, rfl, _⟩ := id h.gobase
  obtain ⟨_, _, a6, c6, rfl, _⟩ := id h.gocheck
  obtain ⟨_, _, a7, c7, rfl, _⟩ := id h.gonext
  obtain ⟨m, hm⟩ : ∃ m, m = min P.check.length P.next.length := ⟨_, rfl⟩
  have HA := Lib.hid fun (W : World) (hW : Fr nothing w W) => place24_any P.base _ state term m W (h.base.fr hW) hs ht (by omega)
  have hml : m = if P.next.length < P.check.length then P.next.length else P.check.length := by rw [hm]; split <;> omega
  have hlt := placeE_lt (base := P.base) (most := m) (row := state) (sym := term)
  clear h
  unfold actE acV
  by_cases h1 : state < 0
  · have d1 : decide (state < 0) = true := decide_eq_true h1
    rw [if_pos (.inl h1)]
    clear h1 hdf HA hck hnx hlt hml hm
    go_enter Try.func11, Try.ntmps11
    go_wp2
    exact bodyPost_ret (v := .agg #[.int .u8 0, .int .i64 0]) (by simp [results, Try.results11, go_sem]) rfl ⟨rfl, ((Below.refl _ _).alloc (Nat.le_refl _) _).alloc (by simp) _⟩
  have d1 : decide (state < 0) = false := decide_eq_false h1
  by_cases h2 : (P.base.length : Int) ≤ state
  · have d2 : decide ((P.base.length : Int) ≤ state) = true := decide_eq_true h2
    rw [if_pos (.inr (.inl h2))]
    clear h1 h2 hdf HA hck hnx hlt hml hm
    go_enter Try.func11, Try.ntmps11
    go_wp2
    exact bodyPost_ret (v := .agg #[.int .u8 0, .int .i64 0]) (by simp [results, Try.results11, go_sem]) rfl ⟨rfl, ((Below.refl _ _).alloc (Nat.le_refl _) _).alloc (by simp) _⟩
  have d2 : decide ((P.base.length : Int) ≤ state) = false := decide_eq_false h2
  by_cases h3 : (P.dflt.length : Int) ≤ state
  · have d3 : decide ((P.dflt.length : Int) ≤ state) = true := decide_eq_true h3
    rw [if_pos (.inr (.inr (.inl h3)))]
    clear h1 h2 h3 hdf HA hck hnx hlt hml hm
    go_enter Try.func11, Try.ntmps11
    go_wp2
    exact bodyPost_ret (v := .agg #[.int .u8 0, .int .i64 0]) (by simp [results, Try.results11, go_sem]) rfl ⟨rfl, ((Below.refl _ _).alloc (Nat.le_refl _) _).alloc (by simp) _⟩
  have d3 : decide ((P.dflt.length : Int) ≤ state) = false := decide_eq_false h3
  by_cases h4 : term < 0
  · have d4 : decide (term < 0) = true := decide_eq_true h4
    rw [if_pos (.inr (.inr (.inr h4)))]
    clear h1 h2 h3 h4 hdf HA hck hnx hlt hml hm
    go_enter Try.func11, Try.ntmps11
    go_wp2
    exact bodyPost_ret (v := .agg #[.int .u8 0, .int .i64 0]) (by simp [results, Try.results11, go_sem]) rfl ⟨rfl, ((Below.refl _ _).alloc (Nat.le_refl _) _).alloc (by simp) _⟩
  have d4 : decide (term < 0) = false := decide_eq_false h4
  rw [if_neg (by omega)]
  obtain ⟨r, rfl⟩ : ∃ r : Nat, state = r := ⟨state.toNat, by omega⟩
  have hrl : r < P.dflt.length := by omega
  have hrb : r < P.base.length := by omega
  obtain ⟨b1, o1, rfl, _, _, hcd, _⟩ := hdf.at hrl
  have hgd : P.dflt.getD (r : Int).toNat 0 = P.dflt[r] := by simp [hrl]
  rw [hgd, atP_place, ← hm]
  have lb : b1 < w.heap.size := World.block_lt_of_cell? w _ hcd
  generalize P.dflt[r] = dd at *
  generalize placeE P.base m r term = z at *
  clear hgd hdf h1 h2 h3 h4
  by_cases h0 : 0 ≤ z
  · obtain ⟨k, rfl⟩ : ∃ k : Nat, z = k := ⟨z.toNat, by omega⟩
    have hk := hlt (by omega)
    simp only [Int.toNat_natCast] at hk ⊢
    have hk3 : k < P.check.length := by omega
    have hk4 : k < P.next.length := by omega
    obtain ⟨b3, o3, rfl, _, _, hc3, _⟩ := hck.at hk3
    have l3 : b3 < w.heap.size := World.block_lt_of_cell? w _ hc3
    have e3 : P.check.getD k 0 = P.check[k] := by simp [hk3]
    rw [e3]
    generalize hv3 : P.check[k] = v3 at *
    by_cases hv : v3 = r
    · rw [if_pos ⟨by omega, hv⟩]
      simp only
      subst hv
      obtain ⟨b4, o4, rfl, _, _, _, hc4⟩ := Rows'.at hnx hk4
      have e4 : P.next.getD k ⟨0, 0⟩ = P.next[k] := by simp [hk4]
      rw [e4]
      have x0 := hc4 0 (by simp [acCells])
      have x1 := hc4 1 (by simp [acCells])
      simp only [acCells, List.getElem_cons_zero, List.getElem_cons_succ, Nat.add_zero] at x0 x1
      have l4 := World.block_lt_of_cell? w _ x0
      generalize (P.next[k]).kind = xk at *
      generalize (P.next[k]).dst = xd at *
      clear hck hnx hlt hm h0 hc4 e3 e4 hv3 hcd lb
      by_cases hl : P.next.length < P.check.length
      · rw [if_pos hl] at hml
        subst hml
        go_enter Try.func11, Try.ntmps11
        go_wp2_with (go_at_call 30; refine (HA.out _ ((Fr.alloc _ _).trans (Fr.alloc _ _))).mono ?_; rintro e w2 ⟨rfl, rfl⟩)
        exact bodyPost_ret (v := .agg #[.int .u8 xk, .int .i64 xd]) (by simp [results, Try.results11, go_sem]) rfl ⟨rfl, ((Below.refl _ _).alloc (Nat.le_refl _) _).alloc (by simp) _⟩
      · rw [if_neg hl] at hml
        subst hml
        go_enter Try.func11, Try.ntmps11
        go_wp2_with (go_at_call 30; refine (HA.out _ ((Fr.alloc _ _).trans (Fr.alloc _ _))).mono ?_; rintro e w2 ⟨rfl, rfl⟩)
        exact bodyPost_ret (v := .agg #[.int .u8 xk, .int .i64 xd]) (by simp [results, Try.results11, go_sem]) rfl ⟨rfl, ((Below.refl _ _).alloc (Nat.le_refl _) _).alloc (by simp) _⟩
    · rw [if_neg fun h => hv h.2]
      simp only
      have d7 : (v3 == (r : Int)) = false := by simpa using hv
      clear hck hnx hlt hm h0 e3 hv3 hv
      unfold saysE
      by_cases hl : P.next.length < P.check.length
      · rw [if_pos hl] at hml
        subst hml
        by_cases hd : 1 ≤ dd
        · have d8 : decide ((1 : Int) ≤ dd) = true := decide_eq_true hd
          rw [if_pos hd]
          clear hd
          go_enter Try.func11, Try.ntmps11
          go_wp2_with (go_at_call 30; refine (HA.out _ ((Fr.alloc _ _).trans (Fr.alloc _ _))).mono ?_; rintro e w2 ⟨rfl, rfl⟩)
          exact bodyPost_ret (v := .agg #[.int .u8 2, .int .i64 dd]) (by simp [results, Try.results11, go_sem]) rfl ⟨rfl, ((Below.refl _ _).alloc (Nat.le_refl _) _).alloc (by simp) _⟩
        · have d8 : decide ((1 : Int) ≤ dd) = false := decide_eq_false hd
          rw [if_neg hd]
          clear hd
          go_enter Try.func11, Try.ntmps11
          go_wp2_with (go_at_call 30; refine (HA.out _ ((Fr.alloc _ _).trans (Fr.alloc _ _))).mono ?_; rintro e w2 ⟨rfl, rfl⟩)
          exact bodyPost_ret (v := .agg #[.int .u8 0, .int .i64 0]) (by simp [results, Try.results11, go_sem]) rfl ⟨rfl, ((Below.refl _ _).alloc (Nat.le_refl _) _).alloc (by simp) _⟩
      · rw [if_neg hl] at hml
        subst hml
        by_cases hd : 1 ≤ dd
        · have d8 : decide ((1 : Int) ≤ dd) = true := decide_eq_true hd
          rw [if_pos hd]
          clear hd
          go_enter Try.func11, Try.ntmps11
          go_wp2_with (go_at_call 30; refine (HA.out _ ((Fr.alloc _ _).trans (Fr.alloc _ _))).mono ?_; rintro e w2 ⟨rfl, rfl⟩)
          exact bodyPost_ret (v := .agg #[.int .u8 2, .int .i64 dd]) (by simp [results, Try.results11, go_sem]) rfl ⟨rfl, ((Below.refl _ _).alloc (Nat.le_refl _) _).alloc (by simp) _⟩
        · have d8 : decide ((1 : Int) ≤ dd) = false := decide_eq_false hd
          rw [if_neg hd]
          clear hd
          go_enter Try.func11, Try.ntmps11
          go_wp2_with (go_at_call 30; refine (HA.out _ ((Fr.alloc _ _).trans (Fr.alloc _ _))).mono ?_; rintro e w2 ⟨rfl, rfl⟩)
          exact bodyPost_ret (v := .agg #[.int .u8 0, .int .i64 0]) (by simp [results, Try.results11, go_sem]) rfl ⟨rfl, ((Below.refl _ _).alloc (Nat.le_refl _) _).alloc (by simp) _⟩
  · rw [if_neg fun h => h0 h.1]
    simp only
    have d0 : decide ((0 : Int) ≤ z) = false := decide_eq_false h0
    clear hck hnx hlt hm h0
    unfold saysE
    by_cases hl : P.next.length < P.check.length
    · rw [if_pos hl] at hml
      subst hml
      by_cases hd : 1 ≤ dd
      · have d8 : decide ((1 : Int) ≤ dd) = true := decide_eq_true hd
        rw [if_pos hd]
        clear hd
        go_enter Try.func11, Try.ntmps11
        go_wp2_with (go_at_call 30; refine (HA.out _ ((Fr.alloc _ _).trans (Fr.alloc _ _))).mono ?_; rintro e w2 ⟨rfl, rfl⟩)
        exact bodyPost_ret (v := .agg #[.int .u8 2, .int .i64 dd]) (by simp [results, Try.results11, go_sem]) rfl ⟨rfl, ((Below.refl _ _).alloc (Nat.le_refl _) _).alloc (by simp) _⟩
      · have d8 : decide ((1 : Int) ≤ dd) = false := decide_eq_false hd
        rw [if_neg hd]
        clear hd
        go_enter Try.func11, Try.ntmps11
        go_wp2_with (go_at_call 30; refine (HA.out _ ((Fr.alloc _ _).trans (Fr.alloc _ _))).mono ?_; rintro e w2 ⟨rfl, rfl⟩)
        exact bodyPost_ret (v := .agg #[.int .u8 0, .int .i64 0]) (by simp [results, Try.results11, go_sem]) rfl ⟨rfl, ((Below.refl _ _).alloc (Nat.le_refl _) _).alloc (by simp) _⟩
    · rw [if_neg hl] at hml
      subst hml
      by_cases hd : 1 ≤ dd
      · have d8 : decide ((1 : Int) ≤ dd) = true := decide_eq_true hd
        rw [if_pos hd]
        clear hd
        go_enter Try.func11, Try.ntmps11
        go_wp2_with (go_at_call 30; refine (HA.out _ ((Fr.alloc _ _).trans (Fr.alloc _ _))).mono ?_; rintro e w2 ⟨rfl, rfl⟩)
        exact bodyPost_ret (v := .agg #[.int .u8 2, .int .i64 dd]) (by simp [results, Try.results11, go_sem]) rfl ⟨rfl, ((Below.refl _ _).alloc (Nat.le_refl _) _).alloc (by simp) _⟩
      · have d8 : decide ((1 : Int) ≤ dd) = false := decide_eq_false hd
        rw [if_neg hd]
        clear hd
        go_enter Try.func11, Try.ntmps11
        go_wp2_with (go_at_call 30; refine (HA.out _ ((Fr.alloc _ _).trans (Fr.alloc _ _))).mono ?_; rintro e w2 ⟨rfl, rfl⟩)
        exact bodyPost_ret (v := .agg #[.int .u8 0, .int .i64 0]) (by simp [results, Try.results11, go_sem]) rfl ⟨rfl, ((Below.refl _ _).alloc (Nat.le_refl _) _).alloc (by simp) _⟩
end Go.Proofs.Ytehaoiimhgkckaa
