/-
  The document's sets: New, Has, Add, Join, Copy, All.
-/
import Derived.Test.YtlilegbdjnhfjaaGreatDoorBits8
namespace Go.Proofs.YtlilegbdjnhfjaaGreatDoor
open Go.RowKit Go.Shelf
set_option maxHeartbeats 400000

/-- Block q is a set of the document's that holds what the truths say. -/
def RSet (w : World) (B q : Nat) (u : Value) (bs : List Bool) : Prop :=
  w.heap[q]? = some (.cells #[u] 49 (0, 0)) ∧ w.ownsRow B 4 1 u bs.length (bs.map Value.bool) ∧ bs.length ≤ 4096 ∧ B ≤ q
theorem RSet.fr {w w' : World} {ch : Nat → Prop} {B q : Nat} {u : Value} {bs : List Bool} (h : RSet w B q u bs) (k : Fr ch w w') (h1 : ¬ ch q) (h2 : ∀ g, u.ownBlock = some g → ¬ ch g) : RSet w' B q u bs :=
  ⟨k.obj h.1 h1, own_fr h.2.1 k h2, h.2.2⟩
theorem RSet.fresh {w w' : World} {B q : Nat} {u : Value} {bs : List Bool} (h : RSet w B q u bs) (k : Fr nothing w w') : RSet w' B q u bs := h.fr k (fun e => e) fun _ _ e => e
theorem RSet.lt {w : World} {B q : Nat} {u : Value} {bs : List Bool} (h : RSet w B q u bs) : q < w.heap.size ∧ ∀ g, u.ownBlock = some g → g < w.heap.size :=
  ⟨(Array.getElem?_eq_some_iff.1 h.1).1, fun g e => (h.2.1.lt g e).2⟩
theorem RSet.ge {w : World} {B q : Nat} {u : Value} {bs : List Bool} (h : RSet w B q u bs) : B ≤ q ∧ ∀ g, u.ownBlock = some g → B ≤ g := ⟨h.2.2.2, fun g e => (h.2.1.lt g e).1⟩
theorem RSet.off {w : World} {B q : Nat} {u : Value} {bs : List Bool} (h : RSet w B q u bs) {b : Nat} {cs : Array Value} {t : TypeId} {f : Nat × Nat} (hb : w.heap[b]? = some (.cells cs t f)) (hne : 4 ≠ t) : u.ownBlock ≠ some b := own_ne h.2.1 hb hne
/-- The value and, where there is an element, its block. -/
theorem RSet.val {w : World} {B q : Nat} {u : Value} {bs : List Bool} (h : RSet w B q u bs) : ∃ a cap, u = .slice a bs.length cap ∧ ∀ i, i < bs.length → ∃ g, a = some ⟨g, 0, none⟩ ∧ w.cell? ⟨g, i, none⟩ = some (.bool (bs[i]?.getD false)) ∧ w.frozen? ⟨g, i, none⟩ = false := by
  obtain ⟨_, ⟨h1, h2⟩, _⟩ := h
  rcases h2 with ⟨rfl, hz⟩ | ⟨g, cap, cur, rfl, hb, hg, r1, r2, r3, r4⟩
  · exact ⟨none, 0, by rw [hz], fun i hi => by omega⟩
  · refine ⟨_, cap, rfl, fun i hi => ⟨g, rfl, ?_, obj_frozen hg i⟩⟩
    have e1 : (bs.map Value.bool)[i]? = cur.toList[i]? := by rw [← r4, List.getElem?_take, if_pos (by omega)]
    rw [List.getElem?_eq_getElem (by simpa using hi), List.getElem_map] at e1
    rw [List.getElem?_eq_getElem hi]
    exact obj_cell hg i (by rw [← Array.getElem?_toList]; exact e1.symm)
theorem rNew_no (n : Int) (w : World) (h : n < 0 ∨ 4096 < n) :
    Calls Tryz.prog 6 #[.int .i64 n] w fun e w' => e = .returned (.tuple #[.pointer none, .bool false]) ∧ w = w' := by
  rcases h with h | h
  · go_enter Tryz.func6, Tryz.ntmps6
    go_wp2
    go_ret2
    exact ⟨rfl, rfl⟩
  · have h' : ¬ n < 0 := by omega
    go_enter Tryz.func6, Tryz.ntmps6
    go_wp2
    go_ret2
    exact ⟨rfl, rfl⟩
set_option maxRecDepth 100000 in
theorem rNew (n : Nat) (w : World) (hn : n ≤ 4096) :
    Calls Tryz.prog 6 #[.int .i64 n] w fun e w' => ∃ q u, e = .returned (.tuple #[.pointer (some ⟨q, 0, none⟩), .bool true]) ∧ RSet w' w.heap.size q u (zeros n) ∧ Below w.heap.size w w' := by
  obtain ⟨i0, hi, hz0, hz1, hz2⟩ := info_parts Tryz.infoBool
  have h1 : ¬ ((n : Int) < 0) := by omega
  have h2 : ¬ (4096 < n) := by omega
  go_enter Tryz.func6, Tryz.ntmps6
  go_wp2_with (at_make; refine wpList_make_full _ rfl _ _ 47 rfl w.heap.size 4 i0 (.bool false) 1 Tryz.underlying47 hi hz0 hz1 .i64 .i64 _ _ n rfl rfl rfl rfl (by rw [hz2]; omega) (by unfold maxLen; omega) (Nat.le_refl _) ?_; intro W hown hgrow)
  go_ret2
  have hown' : W.ownsRow w.heap.size 4 1 (.slice (some ⟨w.heap.size, 0, none⟩) n n) (zeros n).length ((zeros n).map Value.bool) := by
    have h2 : (madeCells (Value.bool false).cells (n * 1)).toList = (zeros n).map Value.bool := by
      rw [Nat.mul_one]
      have : (madeCells (Value.bool false).cells n).toList = List.replicate n (.bool false) := toList_madeCells_one _ _
      rw [this, zeros, List.map_replicate]
    rw [h2] at hown
    rw [zeros_len]
    exact hown
  exact ⟨W.heap.size, rfl, ⟨_, World.alloc_heap_new _ _, own_fr hown' (Fr.alloc (ch := nothing) _ _) fun _ _ e => e, by rw [zeros_len]; exact hn, hgrow.size⟩, ((Below.refl _ w).grown hgrow (Nat.le_refl _) fun k e => by cases e).alloc hgrow.size _⟩

theorem rHas (w : World) (B q : Nat) (u : Value) (bs : List Bool) (h : RSet w B q u bs) (x : Int) :
    Calls Tryz.prog 21 #[.pointer (some ⟨q, 0, none⟩), .int .i64 x] w fun e w' => e = .returned (.bool (hasB bs x)) ∧ w = w' := by
  have hc0 := obj_cell h.1 0 rfl
  have hl := h.2.2.1
  obtain ⟨a, cap, rfl, hv⟩ := h.val
  clear h
  by_cases h0 : 0 ≤ x
  · by_cases h1 : x < bs.length
    · obtain ⟨i, rfl⟩ : ∃ i : Nat, x = i := ⟨x.toNat, by omega⟩
      obtain ⟨g, rfl, hc, _⟩ := hv i (by omega)
      have e : hasB bs i = bs[i]?.getD false := by
        unfold hasB
        rw [decide_eq_true h0, decide_eq_true h1, Bool.true_and, Bool.true_and, Int.toNat_natCast]
      rw [e]
      clear hv
      generalize bs[i]?.getD false = t at *
      go_enter Tryz.func21, Tryz.ntmps21
      go_wp2
      go_ret
      exact ⟨rfl, rfl⟩
    · have e : hasB bs x = false := by unfold hasB; rw [decide_eq_false h1, Bool.false_and, Bool.and_false]
      rw [e]
      clear hv
      go_enter Tryz.func21, Tryz.ntmps21
      go_wp2
      go_ret
      exact ⟨rfl, rfl⟩
  · have e : hasB bs x = false := by unfold hasB; rw [decide_eq_false h0, Bool.false_and]
    rw [e]
    clear hv
    go_enter Tryz.func21, Tryz.ntmps21
    go_wp2
    go_ret
    exact ⟨rfl, rfl⟩
theorem rAdd (w : World) (B q : Nat) (u : Value) (bs : List Bool) (h : RSet w B q u bs) (x : Int) :
    Calls Tryz.prog 14 #[.pointer (some ⟨q, 0, none⟩), .int .i64 x] w fun e w' => e = .returned (.bool (newB1 bs x)) ∧ RSet w' B q u (addB bs x) ∧ Fr (fun k => newB1 bs x = true ∧ u.ownBlock = some k) w w' := by
  have hc0 := obj_cell h.1 0 rfl
  have hl := h.2.2.1
  have HH := Lib.hid h
  obtain ⟨a, cap, rfl, hv⟩ := h.val
  clear h
  by_cases h0 : 0 ≤ x
  · by_cases h1 : x < bs.length
    · obtain ⟨i, rfl⟩ : ∃ i : Nat, x = i := ⟨x.toNat, by omega⟩
      obtain ⟨g, rfl, hc, hz⟩ := hv i (by omega)
      have e : newB1 bs i = !bs[i]?.getD false := by
        unfold newB1
        rw [decide_eq_true h0, decide_eq_true h1, Bool.true_and, Bool.true_and, Int.toNat_natCast]
      have ea : addB bs i = bs.set i true := by unfold addB; rw [if_pos h0, Int.toNat_natCast]
      rw [e, ea]
      clear hv e ea
      cases hb : bs[i]?.getD false
      · rw [hb] at hc
        go_enter Tryz.func14, Tryz.ntmps14
        go_wp2
        go_ret
        have hne : g ≠ q := fun e => HH.out.off HH.out.1 (by decide) (by rw [← e]; rfl)
        refine ⟨rfl, ⟨?_, ?_, by rw [List.length_set]; exact hl, HH.out.2.2.2⟩, (Fr.setCell w ⟨g, i, none⟩ _).mono fun k _ e => ⟨rfl, by have e' : k = g := e; rw [e']; rfl⟩⟩
        · exact (Fr.setCell w ⟨g, i, none⟩ (.bool true)).obj HH.out.1 (fun e => hne e.symm)
        · have h2 := HH.out.2.1
          rw [List.length_set]
          have hlm : bs.length = (bs.map Value.bool).length := by simp
          rw [List.map_set, hlm]
          rw [hlm] at h2
          exact setCell_own h2 i (.bool true)
      · rw [hb] at hc
        have es : bs.set i true = bs := by
          refine List.ext_getElem (by simp) fun j h1 h2 => ?_
          rw [List.getElem_set]
          split
          · rename_i e
            subst e
            rw [List.getElem?_eq_getElem h2] at hb
            exact hb.symm
          · rfl
        rw [es]
        go_enter Tryz.func14, Tryz.ntmps14
        go_wp2
        go_ret
        exact ⟨rfl, HH.out, Fr.refl _ _⟩
    · have e : newB1 bs x = false := by unfold newB1; rw [decide_eq_false h1, Bool.false_and, Bool.and_false]
      rw [addB_old _ _ e, e]
      clear hv
      go_enter Tryz.func14, Tryz.ntmps14
      go_wp2
      go_ret
      exact ⟨rfl, HH.out, Fr.refl _ _⟩
  · have e : newB1 bs x = false := by unfold newB1; rw [decide_eq_false h0, Bool.false_and]
    rw [addB_old _ _ e, e]
    clear hv
    go_enter Tryz.func14, Tryz.ntmps14
    go_wp2
    go_ret
    exact ⟨rfl, HH.out, Fr.refl _ _⟩
set_option maxRecDepth 100000 in
theorem rAll (w : World) (B q : Nat) (u : Value) (bs : List Bool) (h : RSet w B q u bs) :
    Calls Tryz.prog 11 #[.pointer (some ⟨q, 0, none⟩)] w fun e w' => ∃ r, e = .returned r ∧ Below w.heap.size w w' ∧
      w'.ownsRow w.heap.size 3 1 r (trues bs).length ((trues bs).map fun x : Nat => Value.int .i64 (x : Int)) := by
  obtain ⟨i0, hi, hz0, hz1, hz2⟩ := info_parts Tryz.infoInt
  have hl := h.2.2.1
  have HH := Lib.hid h
  clear h
  go_enter Tryz.func11, Tryz.ntmps11
  go_wp2
  go_loopw [3, 4] (fun v i wr => ∃ k : Nat, k ≤ bs.length ∧ i = .int .i64 k ∧ wr.ownsRow w.heap.size 3 1 v (wantTo bs k).length ((wantTo bs k).map fun x : Nat => Value.int .i64 (x : Int)) ∧ Below w.heap.size w wr)
    (fun _ i _ => bs.length - (intOf i).toNat)
  case atStart => exact ⟨0, Nat.zero_le _, rfl, World.ownsRow_nil _ _ _ _, Below.refl _ _⟩
  case round =>
    obtain ⟨k, hk, rfl, hO, hB⟩ := hrel
    have hR := HH.out.fresh (Fr.new hB)
    have hc0 := obj_cell hR.1 0 rfl
    obtain ⟨a, cap, rfl, hv⟩ := hR.val
    clear hR
    by_cases hlt : k < bs.length
    · obtain ⟨g, rfl, hc, _⟩ := hv k hlt
      have hws := wantTo_succ bs k
      have hwl := wantTo_len bs k
      clear hv
      cases hb : bs[k]?.getD false
      · rw [hb] at hc hws
        rw [if_neg (by simp)] at hws
        have HWS := Lib.hid hws
        clear hws hb
        go_wp2
        go_roundw
        case rel => exact ⟨k + 1, by omega, by simp, by rw [HWS.out]; exact hO, hB⟩
        case measure => simp [intOf]; omega
      · rw [hb] at hc hws
        rw [if_pos rfl] at hws
        have HWS := Lib.hid hws
        have hog := hO.lt
        have HB := Lib.hid hB
        clear hws hb hB
        go_wp2_with (at_builtin; refine wpList_append_own _ rfl _ _ 35 rfl w.heap.size 3 i0 (.int .i64 0) 1 8 Tryz.underlying35 hi hz0 hz1 hz2 rfl (by decide) _ _ _ rfl (hO.alloc _) ⟨wr.heap.size, 0, none⟩ 1 1 [.int .i64 (k : Int)] rfl rfl (cell_one_new _ _ _) (by simp [Value.oneCell']) (by unfold maxLen; omega) (by omega) (by have := HB.out.size; simp; omega) ?_; intro v' w4 hown4 hgrow _)
        have hF4 : Fr (fun g => u3.ownBlock = some g) wr w4 := (Fr.alloc _ _).trans (Fr.grown hgrow)
        go_roundw
        case rel =>
          refine ⟨k + 1, by omega, by simp, ?_, HB.out.trans (hF4.below HB.out.size fun g e => (hog g e).1)⟩
          rw [HWS.out, List.length_append, List.map_append]
          exact hown4
        case measure => simp [intOf]; omega
    · have hkl : k = bs.length := by omega
      have hall : wantTo bs k = trues bs := by rw [hkl]; exact wantTo_all bs
      rw [hall] at hO
      clear hall hkl hv
      go_wp2
      go_ret
      exact ⟨_, rfl, hB, hO⟩
end Go.Proofs.YtlilegbdjnhfjaaGreatDoor
