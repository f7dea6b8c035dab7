/-
  The chapter's example of package useless holds.
-/
import Derived.Test.YtiiceickjaeehaaGreatMkGram
import Derived.Test.YtiiceickjaeehaaGreatRounds
import Derived.Test.YtiiceickjaeehaaGreatUseLaw
import Derived.Deep.RegionHeld3
namespace Go.Proofs.YtiiceickjaeehaaGreat
open Go.RowKit
set_option maxHeartbeats 400000

def awakeP : List (List Int) := [[0, 1], [0, 2], [1, -1], [2, 2, -2], [3, -3]]
def awakeG : Gram := mkGram 3 4 awakeP
set_option maxRecDepth 100000 in
theorem awake_right : rightG awakeG = true := by kernel_rfl
theorem awake_in : InG awakeG := right_in awake_right
def awakeM : List Bool := [true, true, true, true, true, true, true, false, true]
def awakeU : List Bool := [false, true, false, false, true, true, true, false, false]
def awakeR : List Bool := [false, true, true, false, true, true, true, true, false]
set_option maxRecDepth 100000 in
theorem awake_makes : makesL awakeG = awakeM := by rw [← rounds_makes awake_in]; kernel_rfl
set_option maxRecDepth 100000 in
theorem awake_reach : fromL awakeG (fun _ => true) = awakeR := by rw [← rounds_from awake_in (by decide)]; kernel_rfl
set_option maxRecDepth 100000 in
theorem awake_use : useL awakeG = awakeU := by
  unfold useL
  rw [awake_makes, ← rounds_from awake_in (by decide)]
  kernel_rfl
set_option maxRecDepth 100000 in
theorem awake_find : findU awakeG = [7, 8] := by
  unfold findU
  rw [if_pos awake_right]
  have h : ∀ s, outB awakeG s = (!awakeM.getD s false || !awakeU.getD s false) := fun s => by
    unfold outB
    rw [awake_makes, awake_use]
  have h2 : findL awakeG = ((List.range 9).filter fun (s : Nat) => decide ((5 : Int) ≤ (s : Int)) && (!awakeM.getD s false || !awakeU.getD s false)).map Int.ofNat := by
    unfold findL
    simp only [h]
    rfl
  rw [h2]
  decide
def emptyG : Gram := ⟨0, [], []⟩
theorem empty_right : rightG emptyG = false := by kernel_rfl
theorem empty_gram (w : World) : IsGram w (.agg #[.int .i64 0, .slice none 0 0, .slice none 0 0]) emptyG :=
  ⟨by unfold i64 emptyG; decide, _, _, rfl, ⟨by simp [emptyG], none, 0, rfl, Nat.le_refl _, by unfold maxLen; omega, .inl rfl⟩, ⟨by simp [emptyG], none, 0, rfl, Nat.le_refl _, by unfold maxLen; omega, .inl rfl⟩⟩

def rowO (l : List Int) : Obj := .cells (l.map (Value.int .i64)).toArray 3 (0, 0)
def rowV (b n : Nat) : Value := .slice (some ⟨b, 0, none⟩) n n
theorem row_ints {w : World} {b : Nat} {l : List Int} (h : w.heap[b]? = some (rowO l)) (hl : l.length ≤ 1000) (hx : ∀ x ∈ l, -9223372036854775808 ≤ x ∧ x ≤ 9223372036854775807) : Ints w (rowV b l.length) l :=
  ⟨hx, by omega, _, l.length, rfl, Nat.le_refl _, by unfold maxLen; omega, .inr ⟨b, 0, rfl, fun i hi => by
    refine obj_cell h (0 + i) ?_
    rw [Nat.zero_add]
    simp only [List.getElem?_toArray]
    exact List.getElem?_eq_getElem hi⟩⟩
def awakeW (w : World) : World :=
  (((((w.alloc (rowO [0, 1])).alloc (rowO [0, 2])).alloc (rowO [1, -1])).alloc (rowO [2, 2, -2])).alloc (rowO [3, -3])).alloc
    (.cells #[rowV w.heap.size 2, rowV (w.heap.size + 1) 2, rowV (w.heap.size + 1 + 1) 2, rowV (w.heap.size + 1 + 1 + 1) 3, rowV (w.heap.size + 1 + 1 + 1 + 1) 2] 31 (0, 0))
theorem awake_rows (w : World) : IntRows (awakeW w) (rowV (w.heap.size + 1 + 1 + 1 + 1 + 1) 5) awakeP ∧ Below w.heap.size w (awakeW w) := by
  have hb : ∀ x ∈ [(0 : Int), 1, 2, 3, -1, -2, -3], -9223372036854775808 ≤ x ∧ x ≤ 9223372036854775807 := by decide
  have h0 : (awakeW w).heap[w.heap.size]? = some (rowO [0, 1]) := alloc_older (alloc_older (alloc_older (alloc_older (alloc_older (alloc_at rfl)))))
  have h1 : (awakeW w).heap[w.heap.size + 1]? = some (rowO [0, 2]) := alloc_older (alloc_older (alloc_older (alloc_older (alloc_at (by simp)))))
  have h2 : (awakeW w).heap[w.heap.size + 1 + 1]? = some (rowO [1, -1]) := alloc_older (alloc_older (alloc_older (alloc_at (by simp))))
  have h3 : (awakeW w).heap[w.heap.size + 1 + 1 + 1]? = some (rowO [2, 2, -2]) := alloc_older (alloc_older (alloc_at (by simp)))
  have h4 : (awakeW w).heap[w.heap.size + 1 + 1 + 1 + 1]? = some (rowO [3, -3]) := alloc_older (alloc_at (by simp))
  have h5 : (awakeW w).heap[w.heap.size + 1 + 1 + 1 + 1 + 1]? = some (.cells #[rowV w.heap.size 2, rowV (w.heap.size + 1) 2, rowV (w.heap.size + 1 + 1) 2, rowV (w.heap.size + 1 + 1 + 1) 3, rowV (w.heap.size + 1 + 1 + 1 + 1) 2] 31 (0, 0)) := alloc_at (by simp)
  have r0 := row_ints h0 (by decide) (by decide)
  have r1 := row_ints h1 (by decide) (by decide)
  have r2 := row_ints h2 (by decide) (by decide)
  have r3 := row_ints h3 (by decide) (by decide)
  have r4 := row_ints h4 (by decide) (by decide)
  refine ⟨⟨by decide, _, 5, rfl, by decide, by unfold maxLen; omega, .inr ⟨_, 0, rfl, fun i hi => ?_⟩⟩, ?_⟩
  · have hi' : i < 5 := hi
    rcases i with _ | _ | _ | _ | _ | i
    · exact ⟨_, r0, obj_cell h5 0 rfl⟩
    · exact ⟨_, r1, obj_cell h5 1 rfl⟩
    · exact ⟨_, r2, obj_cell h5 2 rfl⟩
    · exact ⟨_, r3, obj_cell h5 3 rfl⟩
    · exact ⟨_, r4, obj_cell h5 4 rfl⟩
    · omega
  · exact ((((((Below.refl _ w).alloc (Nat.le_refl _) _).alloc (by simp) _).alloc (by simp; omega) _).alloc (by simp; omega) _).alloc (by simp; omega) _).alloc (by simp; omega) _
def gv (sa pa : Option Addr) (sc pc : Nat) : Value := .agg #[.int .i64 4, .slice sa 9 sc, .slice pa 6 pc]
theorem awake_gram (w : World) :
    Calls Tryz.prog 18 #[.int .i64 3, .int .i64 4, .slice (some ⟨w.heap.size + 1 + 1 + 1 + 1 + 1, 0, none⟩) 5 5] (awakeW w) fun e w' => ∃ sa pa sc pc, e = .returned (.agg #[.int .i64 4, .slice sa 9 sc, .slice pa 6 pc]) ∧ IsGram w' (gv sa pa sc pc) awakeG ∧ Below w.heap.size w w' := by
  obtain ⟨h1, h2⟩ := awake_rows w
  refine (grammar_any 3 4 awakeP _ (awakeW w) (by omega) (by omega) h1 (by decide) (by decide) (by decide) (by decide)).mono ?_
  rintro e w4 ⟨v, rfl, hg, hb4⟩
  obtain ⟨_, vs, vp, rfl, ⟨_, sa, sc, rfl, _⟩, ⟨_, pa, pc, rfl, _⟩⟩ := id hg
  exact ⟨sa, pa, sc, pc, rfl, hg, h2.trans (hb4.mono h2.size)⟩
theorem makes_lit (sa pa : Option Addr) (sc pc : Nat) (x : World) (h : IsGram x (gv sa pa sc pc) awakeG) :
    Calls Tryz.prog 8 #[.agg #[.int .i64 4, .slice sa 9 sc, .slice pa 6 pc]] x fun e w' => ∃ b, e = .returned (.slice (some ⟨b, 0, none⟩) 9 9) ∧ w'.heap[b]? = some (boolsObj awakeM) ∧ Below x.heap.size x w' := by
  refine (makesU_any awakeG _ x h).mono ?_
  rintro e w' ⟨r, rfl, ha⟩
  rcases ha with ⟨_, b, hv, _, h1, h2⟩ | ⟨h0, _⟩
  · rw [awake_makes] at hv h1
    exact ⟨b, by rw [hv]; rfl, h1, h2⟩
  · rw [awake_right] at h0
    cases h0
theorem reach_lit (sa pa : Option Addr) (sc pc : Nat) (x : World) (h : IsGram x (gv sa pa sc pc) awakeG) :
    Calls Tryz.prog 9 #[.agg #[.int .i64 4, .slice sa 9 sc, .slice pa 6 pc]] x fun e w' => ∃ b, e = .returned (.slice (some ⟨b, 0, none⟩) 9 9) ∧ w'.heap[b]? = some (boolsObj awakeR) ∧ Below x.heap.size x w' := by
  refine (reachedU_any awakeG _ x h).mono ?_
  rintro e w' ⟨r, rfl, ha⟩
  rcases ha with ⟨_, b, hv, _, h1, h2⟩ | ⟨h0, _⟩
  · rw [awake_reach] at hv h1
    exact ⟨b, by rw [hv]; rfl, h1, h2⟩
  · rw [awake_right] at h0
    cases h0
theorem find_lit (sa pa : Option Addr) (sc pc : Nat) (x : World) (h : IsGram x (gv sa pa sc pc) awakeG) :
    Calls Tryz.prog 10 #[.agg #[.int .i64 4, .slice sa 9 sc, .slice pa 6 pc]] x fun e w' => ∃ a c, e = .returned (.slice a 2 c) ∧ Ints w' (.slice a 2 c) [7, 8] ∧ Below x.heap.size x w' := by
  refine (findU_any awakeG _ x h).mono ?_
  rintro e w' ⟨r, rfl, h1, h2⟩
  rw [awake_find] at h1
  obtain ⟨a, c, rfl, _⟩ := own_cells h1
  exact ⟨a, c, rfl, own_ints h1 (by decide) (by decide), h2⟩
theorem makes_none (x : World) :
    Calls Tryz.prog 8 #[.agg #[.int .i64 0, .slice none 0 0, .slice none 0 0]] x fun e w' => e = .returned (.slice none 0 0) ∧ Below x.heap.size x w' := by
  refine (makesU_any emptyG _ x (empty_gram x)).mono ?_
  rintro e w' ⟨r, rfl, ha⟩
  rcases ha with ⟨h0, _⟩ | ⟨_, rfl, h2⟩
  · rw [empty_right] at h0
    cases h0
  · exact ⟨rfl, h2⟩
/-- What holds while the example is asked. -/
def AwS (g : Nat) (sa pa : Option Addr) (sc pc : Nat) (w0 W : World) : Prop :=
  (W.cell? ⟨g, 0, none⟩ = some (.int .i64 4) ∧ W.cell? ⟨g, 1, none⟩ = some (.slice sa 9 sc) ∧ W.cell? ⟨g, 2, none⟩ = some (.slice pa 6 pc)) ∧ IsGram W (gv sa pa sc pc) awakeG ∧ Below w0.heap.size w0 W
theorem AwS.keep {g : Nat} {sa pa : Option Addr} {sc pc : Nat} {w0 W W' : World} (h : AwS g sa pa sc pc w0 W) (hb : Below W.heap.size W W') : AwS g sa pa sc pc w0 W' := by
  obtain ⟨⟨h1, h2, h3⟩, h8, h10⟩ := h
  have f := Fr.new hb
  exact ⟨⟨f.cell h1 fun e => e, f.cell h2 fun e => e, f.cell h3 fun e => e⟩, h8.fr f, h10.trans (hb.mono h10.size)⟩

theorem sameInts_one (u v : Value) (xs : List Int) (w : World) (hx : Ints w u xs) (hy : Ints w v xs) :
    Calls Tryz.prog 14 #[u, v] w fun e w' => e = .returned (.bool true) ∧ Below w.heap.size w w' :=
  (same_any u v xs xs w hx hy).mono fun e w' ⟨he, n, hw⟩ => ⟨by rw [he]; simp [sameI], hw ▸ below_drewN (Below.refl _ _) n⟩
theorem awKeep {g : Nat} {sa pa : Option Addr} {sc pc : Nat} {w0 W W' : World} (h1 : W.cell? ⟨g, 0, none⟩ = some (.int .i64 4)) (h2 : W.cell? ⟨g, 1, none⟩ = some (.slice sa 9 sc)) (h3 : W.cell? ⟨g, 2, none⟩ = some (.slice pa 6 pc)) (h4 : IsGram W (gv sa pa sc pc) awakeG) (h5 : Below w0.heap.size w0 W) (hb : Below W.heap.size W W') : AwS g sa pa sc pc w0 W' :=
  AwS.keep ⟨⟨h1, h2, h3⟩, h4, h5⟩ hb
set_option maxRecDepth 100000 in
set_option maxHeartbeats 2000000 in
theorem awake_any (w : World) : Calls Tryz.prog 6 #[] w fun e w' => e = .returned (.bool true) ∧ Below w.heap.size w w' := by
  have HG := Lib.hid (awake_gram w)
  unfold awakeW rowO rowV at HG
  simp only [List.map_cons, List.map_nil] at HG
  go_enter Tryz.func6, Tryz.ntmps6
  go_upto_region 2 with (go_at_call 18; refine HG.out.mono ?_; rintro e w1 ⟨sa, pa, sc, pc, rfl, hg, hb1⟩)
  refine wp_atW (F := fun W => AwS w1.heap.size sa pa sc pc w W) ?_ ?_
  · have ho := alloc_obj w1 (.cells #[.int .i64 4, .slice sa 9 sc, .slice pa 6 pc] 25 (0, 0))
    exact ⟨⟨obj_cell ho 0 rfl, obj_cell ho 1 rfl, obj_cell ho 2 rfl⟩, hg.fr (Fr.alloc _ _), hb1.alloc hb1.size _⟩
  intro W hS
  clear hb1 hg
  obtain ⟨⟨c0, c1, c2⟩, hg, hB⟩ := hS
  have HA := Lib.hid (show AwS w1.heap.size sa pa sc pc w W from ⟨⟨c0, c1, c2⟩, hg, hB⟩)
  clear HG
  go_wp2_with fail
  go_region_held3 (fun w' => (w'.cell? ⟨w1.heap.size, 0, none⟩ = some (.int .i64 4) ∧ w'.cell? ⟨w1.heap.size, 1, none⟩ = some (.slice sa 9 sc) ∧ w'.cell? ⟨w1.heap.size, 2, none⟩ = some (.slice pa 6 pc)) ∧ IsGram w' (gv sa pa sc pc) awakeG ∧ Below w.heap.size w w')
    (first
      | exact awKeep c0 c1 c2 hg hB (Below.refl _ _).drew
      | (go_split_ands; exact awKeep (by assumption) (by assumption) (by assumption) (by assumption) (by assumption) hbm)
      | (go_split_ands; exact awKeep (by assumption) (by assumption) (by assumption) (by assumption) (by assumption) hbr))
    (first
      | (go_at_call 8; go_split_ands; refine (makes_lit _ _ _ _ _ (by assumption)).mono ?_; rintro e wm ⟨bm, rfl, hmo, hbm⟩)
      | (go_at_call 9; go_split_ands; refine (reach_lit _ _ _ _ _ (by assumption)).mono ?_; rintro e wr ⟨br, rfl, hro, hbr⟩))
  all_goals
    first
      | (have hX := ((HA.out.keep (Below.refl _ _).drew).keep hbm).keep hbr; have hm' := (Fr.new hbr).obj hmo (fun e => e); have hr' := hro; clear hbm hbr hmo hro)
      | (have hX := ((HA.out.keep (Below.refl _ _).drew).keep hbr).keep hbm; have hr' := (Fr.new hbm).obj hro (fun e => e); have hm' := hmo; clear hbm hbr hmo hro)
    clear HA
    obtain ⟨⟨x0, x1, x2⟩, hgX, hBX⟩ := id hX
    have HFL := Lib.hid (find_lit _ _ _ _ _ hgX)
    have HX := Lib.hid (And.intro hX (And.intro hm' hr'))
    clear hgX hX hm' hr' hBX
    go_wp2_with (first
      | (go_at_call 10; refine HFL.out.mono ?_; rintro e w4 ⟨a, c, rfl, hi, hb4⟩)
      | (go_at_call 14; refine (sameInts_one _ _ [7, 8] _ (hi.fr (Fr.alloc _ _)) (row_ints (alloc_obj w4 _) (by decide) (by decide))).mono ?_; rintro e w5 ⟨rfl, hb5'⟩; have hb5 := hb4.trans ((((Below.refl _ w4).alloc (Nat.le_refl _) _).trans (hb5'.mono (by simp))).mono hb4.size); have hm5 := (Fr.new hb5).obj HX.out.2.1 (fun e => e); have hr5 := (Fr.new hb5).obj HX.out.2.2 (fun e => e); have m6 : w5.cell? ⟨bm, 6, none⟩ = some (.bool true) := obj_cell hm5 6 rfl; have m7 : w5.cell? ⟨bm, 7, none⟩ = some (.bool false) := obj_cell hm5 7 rfl; have m8 : w5.cell? ⟨bm, 8, none⟩ = some (.bool true) := obj_cell hm5 8 rfl; have n7 : w5.cell? ⟨br, 7, none⟩ = some (.bool true) := obj_cell hr5 7 rfl; have n8 : w5.cell? ⟨br, 8, none⟩ = some (.bool false) := obj_cell hr5 8 rfl; have HB5 := Lib.hid hb5; clear hb5' hb5 hm5 hr5 hb4)
      | (go_at_call 8; refine (makes_none _).mono ?_; rintro e w6 ⟨rfl, hb6⟩))
    go_ret
    exact ⟨rfl, ((HX.out.1.keep HB5.out).keep hb6).2.2⟩
end Go.Proofs.YtiiceickjaeehaaGreat
