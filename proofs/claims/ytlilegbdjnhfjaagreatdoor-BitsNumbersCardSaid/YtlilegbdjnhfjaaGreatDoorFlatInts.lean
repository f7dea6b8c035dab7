/-
  The statements' own helper on what lies apart: lists of numbers that do.
-/
import Derived.Test.YtlilegbdjnhfjaaGreatDoorOwnRows
import Derived.Deep.RegionHeld3
import Derived.Deep.OwnRows
namespace Go.Proofs.YtlilegbdjnhfjaaGreatDoor
open Go.RowKit
set_option maxHeartbeats 400000

def ORow (w : World) (B : Nat) (v : Value) (n : Nat) (xs : List Int) : Prop := xs.length = n ∧ w.ownsRow B 3 1 v n (xs.map (Value.int .i64))
theorem ORow.fr {ch : Nat → Prop} {w w' : World} {B n : Nat} {v : Value} {xs : List Int} (h : ORow w B v n xs) (k : Fr ch w w') (hc : ∀ g, v.ownBlock = some g → ¬ ch g) : ORow w' B v n xs := ⟨h.1, own_fr h.2 k hc⟩
/-- Lists that lie apart. -/
structure FlatS (K : Nat) (V : Nat → Value) (n : Nat → Nat) : Prop where
  k : K ≤ 1000
  len : ∀ j, j < K → n j ≤ 1000000
  apart : ∀ i, i < K → ∀ j, j < K → i ≠ j → ∀ g, (V i).ownBlock = some g → (V j).ownBlock = some g → False
def Ls (w : World) (B : Nat) (ls : Value) (K : Nat) (V : Nat → Value) : Prop := w.ownsRow B 35 1 ls K ((List.range K).map V)
theorem Ls.cell {w : World} {B K bl c : Nat} {V : Nat → Value} (h : Ls w B (.slice (some ⟨bl, 0, none⟩) K c) K V) (k : Nat) (hk : k < K) : w.cell? ⟨bl, k, none⟩ = some (V k) := by
  have := World.ownsRow.cellAt h k (by omega)
  rw [this]
  simp [hk]
theorem ORow.cell {w : World} {B n g c : Nat} {xs : List Int} (h : ORow w B (.slice (some ⟨g, 0, none⟩) n c) n xs) (i : Nat) (hi : i < n) : ∃ x, w.cell? ⟨g, i, none⟩ = some (.int .i64 x) ∧ xs[i]? = some x := by
  have := World.ownsRow.cellAt h.2 i (by omega)
  have hl : i < xs.length := by rw [h.1]; exact hi
  exact ⟨xs[i], by rw [this]; simp [hl], by simp [hl]⟩
theorem ORow.set {w : World} {B n g c : Nat} {xs : List Int} (h : ORow w B (.slice (some ⟨g, 0, none⟩) n c) n xs) (i : Nat) (x : Int) : ORow (w.setCell ⟨g, i, none⟩ (.int .i64 x)) B (.slice (some ⟨g, 0, none⟩) n c) n (xs.set i x) := by
  refine ⟨by rw [List.length_set]; exact h.1, ?_⟩
  have := World.ownsRow.stored h.2 i (.int .i64 x)
  rw [List.map_set]
  exact this.1
theorem take_set {α : Type} (y : List α) (i : Nat) (a : α) (h : i < y.length) : (y.set i a).take (i + 1) = y.take i ++ [a] := by
  rw [List.take_add_one, List.getElem?_eq_getElem (by rw [List.length_set]; exact h), List.getElem_set_self, List.take_set_of_le (Nat.le_refl _)]
  rfl
theorem slice_of {w : World} {B e size n : Nat} {v : Value} {xs : List Value} (h : w.ownsRow B e size v n xs) (hn : 0 < n) : ∃ g c, v = .slice (some ⟨g, 0, none⟩) n c ∧ c ≤ maxLen ∧ g < w.heap.size ∧ B ≤ g := by
  have h' := h
  obtain ⟨_, h2⟩ := h
  rcases h2 with ⟨_, h2⟩ | ⟨g, cap, cur, rfl, hb, hg, r1, r2, _⟩
  · omega
  · exact ⟨g, cap, rfl, r2, (h'.lt g rfl).2, hb⟩

theorem Tryz.infoInts : (Tryz.prog.info? 35).map (fun i => (i.zero, i.size, i.bytes)) = some (some (.slice none 0 0), 1, 24) := by kernel_rfl
def rowsO (K : Nat) : Obj := .cells (List.replicate K (Value.slice none 0 0)).toArray 35 (0, 0)
theorem make_rows (K : Nat) (hK : K ≤ 100000) (w : World) : (Instr.makeSlice 40 (.int .i64 (K : Int)) (.int .i64 (K : Int))).run Tryz.prog w = .ok (.slice (some ⟨w.heap.size, 0, none⟩) K K) (w.alloc (rowsO K)) := by
  have h := run_make_row' (P := Tryz.prog) 40 35 (.slice none 0 0) 24 Tryz.underlying40 Tryz.infoInts rfl .i64 .i64 K (by omega) (by omega) w
  have e : madeCells #[Value.slice none 0 0] K = (List.replicate K (Value.slice none 0 0)).toArray := by
    have h2 : (madeCells #[Value.slice none 0 0] K).toList = List.replicate K (.slice none 0 0) := toList_madeCells_one _ _
    rw [← Array.toArray_toList (xs := madeCells #[Value.slice none 0 0] K), h2]
  rw [e] at h
  exact h
def numsO (n : Nat) : Obj := .cells (List.replicate n (Value.int .i64 0)).toArray 3 (0, 0)
theorem make_nums (w : World) : (Instr.makeSlice 35 (.int .i64 64) (.int .i64 64)).run Tryz.prog w = .ok (.slice (some ⟨w.heap.size, 0, none⟩) 64 64) (w.alloc (numsO 64)) := by
  have h := run_make_row' (P := Tryz.prog) 35 3 (.int .i64 0) 8 Tryz.underlying35 Tryz.infoInt' rfl .i64 .i64 64 (by omega) (by omega) w
  have e : madeCells #[Value.int .i64 0] 64 = (List.replicate 64 (Value.int .i64 0)).toArray := by
    have h2 : (madeCells #[Value.int .i64 0] 64).toList = List.replicate 64 (.int .i64 0) := toList_madeCells_one _ _
    rw [← Array.toArray_toList (xs := madeCells #[Value.int .i64 0] 64), h2]
  rw [e] at h
  exact h
theorem make_numsL (L : Nat) (hL : L = 64) (w : World) : (Instr.makeSlice 35 (.int .i64 64) (.int .i64 64)).run Tryz.prog w = .ok (.slice (some ⟨w.heap.size, 0, none⟩) L L) (w.alloc (numsO L)) := by
  subst hL
  exact make_nums w
/-- A row of rows: the first k as told, the others nil. -/
def gRow (K : Nat) (G G' : Nat → Value) (k : Nat) : List Value := (List.range K).map fun j => if j < k then G j else G' j
theorem gRow_set (K : Nat) (G G' : Nat → Value) (k : Nat) (v : Value) : (gRow K G G' k).set k v = gRow K (fun j => if j = k then v else G j) G' (k + 1) := by
  refine List.ext_getElem (by simp [gRow]) fun i h1 h2 => ?_
  simp only [gRow, List.getElem_set, List.getElem_map, List.getElem_range]
  by_cases e : k = i
  · subst e; simp
  · by_cases e2 : i < k
    · simp only [if_neg e, if_pos e2, if_pos (show i < k + 1 by omega), if_neg (show ¬ i = k by omega)]
    · simp only [if_neg e, if_neg e2, if_neg (show ¬ i < k + 1 by omega)]
theorem gRow_zero (K : Nat) (G G' : Nat → Value) : gRow K G G' 0 = (List.range K).map G' := by simp [gRow]
theorem gRow_all (K : Nat) (G G' : Nat → Value) : gRow K G G' K = (List.range K).map G := by
  unfold gRow
  refine List.map_congr_left fun j hj => ?_
  rw [List.mem_range] at hj
  rw [if_pos hj]

/-- What flatInts may turn: the lists' own blocks. -/
def Ch (w : World) (K : Nat) (V : Nat → Value) : Nat → Prop := fun g => (∃ j, j < K ∧ (V j).ownBlock = some g) ∨ w.heap.size ≤ g

set_option maxRecDepth 100000 in
set_option maxHeartbeats 4000000 in
theorem flatInts_any (B K : Nat) (V : Nat → Value) (n : Nat → Nat) (ls : Value) (w : World) (hS : FlatS K V n) (hB : B ≤ w.heap.size) (hls : Ls w B ls K V) (hrow : ∀ j, j < K → ∃ xs, ORow w B (V j) (n j) xs) :
    Calls Tryz.prog 43 #[ls] w fun e w' => e = .returned (.bool true) ∧ Fr (Ch w K V) w w' := by
  obtain ⟨i0, hi, hz0, hz1, hz2⟩ := info_parts Tryz.infoInt'
  obtain ⟨la, lc, rfl, _⟩ := own_cells hls
  have hK := hS.k
  have HS := Lib.hid hS
  have HLS := Lib.hid hls
  have HR := Lib.hid hrow
  have HM := Lib.hid fun (k i : Nat) (hk : k ≤ 100000) (hi : i ≤ 1000000000) (w : World) => markK_any k i w hk hi
  clear hS hls hrow
  go_enter Tryz.func43, Tryz.ntmps43
  go_wp2
  go_loopw [3, 4] (fun i _ wr => ∃ (k : Nat), k ≤ K ∧ i = .int .i64 k ∧ (∀ j, j < k → ORow wr B (V j) (n j) (mks j (n j))) ∧ (∀ j, j < K → ∃ xs, ORow wr B (V j) (n j) xs) ∧ Ls wr B (.slice la K lc) K V ∧ Fr (Ch w K V) w wr) (fun i _ _ => K - (intOf i).toNat)
  case atStart => exact ⟨0, by omega, rfl, fun j hj => by omega, HR.out, HLS.out, Fr.refl _ _⟩
  case round =>
    obtain ⟨k, hk, rfl, hdone, hall, hls, hBw⟩ := hrel
    clear HR HLS
    by_cases hlt : k < K
    · obtain ⟨bl, lc', hv, _, hbl, hbB⟩ := slice_of hls (by omega)
      simp only [Value.slice.injEq] at hv
      obtain ⟨rfl, -, rfl⟩ := hv
      obtain ⟨xk, hxk⟩ := hall k hlt
      obtain ⟨va, vc, hVk, _⟩ := own_cells hxk.2
      have HA := Lib.hid (And.intro hdone (And.intro hall (And.intro hls (And.intro hBw (And.intro hxk hVk)))))
      have hnk := HS.out.len k hlt
      clear hdone hall hls hBw hxk hVk
      generalize wr = wA at *
      go_wp2
      go_loopw [4] (fun i wq => ∃ (i' : Nat) (y : List Int), i' ≤ n k ∧ i = .int .i64 i' ∧ y.take i' = mks k i' ∧ ORow wq B (V k) (n k) y ∧ (∀ j, j < K → j ≠ k → ∀ xs, ORow wA B (V j) (n j) xs → ORow wq B (V j) (n j) xs) ∧ Ls wq B (.slice (some ⟨bl, 0, none⟩) K lc) K V ∧ Fr (Ch w K V) w wq) (fun i _ => n k - (intOf i).toNat)
      case atStart => exact ⟨0, xk, Nat.zero_le _, rfl, rfl, HA.out.2.2.2.2.1, fun _ _ _ _ h => h, HA.out.2.2.1, HA.out.2.2.2.1⟩
      case round =>
        obtain ⟨i, y, hi', rfl, hy, hrow, hoth, hls, hBw⟩ := hrel
        have c0 := hls.cell k hlt
        rw [HA.out.2.2.2.2.2] at c0 hrow
        have HH := Lib.hid (And.intro hy (And.intro hrow (And.intro hoth (And.intro hls hBw))))
        by_cases hlt2 : i < n k
        · obtain ⟨g, vc', hv, hcm, hgs, hgB⟩ := slice_of hrow.2 (by omega)
          simp only [Value.slice.injEq] at hv
          obtain ⟨rfl, -, rfl⟩ := hv
          obtain ⟨yi, c1, _⟩ := hrow.cell i hlt2
          have f1 := World.ownsRow.frozenAt hrow.2 i
          have hne : bl ≠ g := fun e => own_apart hls hrow.2 (by decide) bl rfl (by rw [e]; rfl)
          have hne' : g ≠ bl := fun e => hne e.symm
          clear hy hrow hoth hls hBw
          have hM1 := HM.out k i (by omega) (by omega)
          generalize n k = N at *
          go_wp2_with fail
          go_region_held3 (fun w' => w'.cell? ⟨bl, k, none⟩ = some (.slice (some ⟨g, 0, none⟩) N vc)) (go_keep)
            (first | (go_at_call 72; refine (hM1 _).mono ?_; rintro e w' ⟨rfl, rfl⟩))
          all_goals
            try go_wp2
            go_roundw
            case rel =>
              obtain ⟨hy, hrow, hoth, hls, hBw⟩ := HH.out
              have hF : Fr (only g) wr (wr.setCell ⟨g, i, none⟩ (.int .i64 (mk k i))).drew := (Fr.setCell wr ⟨g, i, none⟩ (.int .i64 (mk k i))).trans (Fr.drew _)
              refine ⟨i + 1, y.set i (mk k i), by omega, by simp, ?_, ?_, fun j hj hjk xs hxs => ?_, ?_, ?_⟩
              · rw [take_set _ _ _ (by rw [hrow.1]; exact hlt2), hy, mks_succ]
              · rw [HA.out.2.2.2.2.2]
                exact hrow.set i (mk k i)
              · exact (hoth j hj hjk xs hxs).fr hF fun g' e e2 => HS.out.apart j hj k hlt hjk g' e (by rw [HA.out.2.2.2.2.2]; exact congrArg some (show g = g' from (show g' = g from e2).symm))
              · exact own_fr hls hF fun g' e e2 => hne ((by simpa [Value.ownBlock] using e : bl = g').trans (show g' = g from e2))
              · exact hBw.trans (hF.mono fun g' _ e => .inl ⟨k, hlt, by rw [HA.out.2.2.2.2.2]; exact congrArg some (show g = g' from (show g' = g from e).symm)⟩)
            case measure => simp [intOf]; omega
        · obtain rfl : i = n k := by omega
          clear hy hrow hoth hls hBw hlt2
          go_wp2
          go_roundw
          case rel =>
            obtain ⟨hy, hrow, hoth, hls, hBw⟩ := HH.out
            rw [List.take_of_length_le (by rw [hrow.1]; exact Nat.le_refl _)] at hy
            subst hy
            refine ⟨k + 1, by omega, by simp, fun j hj => ?_, fun j hj => ?_, hls, hBw⟩
            · by_cases hjk : j = k
              · subst hjk
                rw [HA.out.2.2.2.2.2]
                exact hrow
              · exact hoth j (by omega) hjk _ (HA.out.1 j (by omega))
            · by_cases hjk : j = k
              · subst hjk
                rw [HA.out.2.2.2.2.2]
                exact ⟨_, hrow⟩
              · obtain ⟨xs, hxs⟩ := HA.out.2.1 j hj
                exact ⟨xs, hoth j hj hjk xs hxs⟩
          case measure => simp [intOf]; omega
    · obtain rfl : k = K := by omega
      have hmk := make_rows k (by omega)
      have hbls : k = 0 ∨ ∃ bl, la = some ⟨bl, 0, none⟩ ∧ bl < wr.heap.size := by
        rcases Nat.eq_zero_or_pos k with h0 | h0
        · exact .inl h0
        · obtain ⟨bl, lc', hv, _, hbl, _⟩ := slice_of hls h0
          simp only [Value.slice.injEq] at hv
          exact .inr ⟨bl, hv.1, hbl⟩
      have H1 := Lib.hid (And.intro hdone (And.intro hls (And.intro hBw hbls)))
      clear hdone hall hls hBw hbls hlt
      go_upto_region 9 with fail
      refine wp_atW (F := fun W => (∀ j, j < k → ORow W B (V j) (n j) (mks j (n j))) ∧ Ls W B (.slice la k lc) k V ∧ W.ownsRow B 35 1 (.slice (some ⟨wr.heap.size, 0, none⟩) k k) k (gRow k V (fun _ => .slice none 0 0) 0) ∧ Fr (Ch w k V) w W) ?_ ?_
      · refine ⟨fun j hj => (H1.out.1 j hj).fr (ch := nothing) (Fr.alloc _ _) fun _ _ e => e, own_fr (ch := nothing) H1.out.2.1 (Fr.alloc _ _) fun _ _ e => e, ?_, H1.out.2.2.1.trans (Fr.alloc _ _)⟩
        have := own_laid (B := B) (n := k) (size := 1) (alloc_obj wr (rowsO k)) (Nat.le_trans hB H1.out.2.2.1.size) (by simp) (by unfold maxLen; omega)
        rw [gRow_zero]
        have e : (List.range k).map (fun _ => Value.slice none 0 0) = (List.replicate k (Value.slice none 0 0)).toArray.toList := by
          refine List.ext_getElem (by simp) fun i h1 h2 => by simp
        rw [e]
        exact this
      intro W ⟨h1, h2, h3, h4⟩
      have hbg : k = 0 ∨ ∃ bl, la = some ⟨bl, 0, none⟩ ∧ bl ≠ wr.heap.size := by
        rcases H1.out.2.2.2 with h | ⟨bl, h, h'⟩
        · exact .inl h
        · exact .inr ⟨bl, h, by omega⟩
      have hbgw : w.heap.size ≤ wr.heap.size := H1.out.2.2.1.size
      generalize wr.heap.size = bg at *
      have HW := Lib.hid (And.intro h1 (And.intro h2 (And.intro h3 h4)))
      have HBG := Lib.hid hbg
      clear h1 h2 h3 h4 hbg H1 hmk
      generalize wr = w1 at *
      go_wp2
      go_loopw [6, 7, 8] (fun i _ _ wq => ∃ (m : Nat) (G : Nat → Value), m ≤ k ∧ i = .int .i64 m ∧ (∀ j, j < k → ORow wq B (V j) (n j) (mks j (n j))) ∧ Ls wq B (.slice la k lc) k V ∧ wq.ownsRow B 35 1 (.slice (some ⟨bg, 0, none⟩) k k) k (gRow k G (fun _ => .slice none 0 0) m) ∧
        (∀ j, j < m → ORow wq B (G j) (n j + 64) (mks j (n j + 64))) ∧ (∀ j, j < m → ∀ i, i < k → i ≠ j → ∀ g, (G j).ownBlock = some g → (V i).ownBlock = some g → False) ∧ Fr (Ch w k V) w wq) (fun i _ _ _ => k - (intOf i).toNat)
      case atStart => exact ⟨0, V, Nat.zero_le _, rfl, HW.out.1, HW.out.2.1, HW.out.2.2.1, fun j hj => by omega, fun j hj => by omega, HW.out.2.2.2⟩
      case round =>
        obtain ⟨m, G, hm, rfl, hv, hls, hgs, hg, hsep, hBw⟩ := hrel
        clear HW
        by_cases hlt : m < k
        · obtain ⟨bl, rfl, hblg⟩ : ∃ bl, la = some ⟨bl, 0, none⟩ ∧ bl ≠ bg := by
            rcases HBG.out with h | h
            · omega
            · exact h
          have c0 := hls.cell m hlt
          have hvm := hv m hlt
          obtain ⟨va, vc, hVk, _⟩ := own_cells hvm.2
          rw [hVk] at c0
          have hnk := HS.out.len m hlt
          have HA := Lib.hid (And.intro hv (And.intro hls (And.intro hgs (And.intro hg (And.intro hsep (And.intro hBw hVk))))))
          have hBA := Nat.le_trans hB hBw.size
          have c1 : ∃ u, wr.cell? ⟨bg, m, none⟩ = some u := ⟨_, by rw [World.ownsRow.cellAt hgs m (by omega)]; simp [gRow, hlt]; rfl⟩
          rw [hVk] at hvm
          have HVM := Lib.hid hvm
          clear hv hls hgs hg hsep hBw c1 hvm hVk
          generalize wr = wA at *
          go_wp2
          go_loopw [7, 8] (fun gv i wq => ∃ i' : Nat, i' ≤ 64 ∧ i = .int .i64 i' ∧ ORow wq B gv (n m + i') (mks m (n m + i')) ∧ ORow wq B (.slice va (n m) vc) (n m) (mks m (n m)) ∧ ((∃ g c, .slice va (n m) vc = Value.slice (some ⟨g, 0, none⟩) (n m) c ∧ gv = .slice (some ⟨g, 0, none⟩) (n m + i') c) ∨ (∀ g, gv.ownBlock = some g → wA.heap.size ≤ g) ∨ (i' = 0 ∧ gv = .slice va (n m) vc)) ∧
            Fr (fun g => (Value.slice va (n m) vc).ownBlock = some g ∨ wA.heap.size ≤ g) wA wq) (fun _ i _ => 64 - (intOf i).toNat)
          case atStart => exact ⟨0, by omega, rfl, HVM.out, HVM.out, .inr (.inr ⟨rfl, rfl⟩), Fr.refl _ _⟩
          case round =>
            obtain ⟨i', hi', rfl, hgv, hvm, hcase, hF⟩ := hrel
            obtain ⟨ga, gc, rfl, _⟩ := own_cells hgv.2
            have hblA := (HA.out.2.1.lt bl rfl).2
            have hch : ∀ b, b < wA.heap.size → (∀ g, (Value.slice va (n m) vc).ownBlock = some g → g ≠ b) → ¬ ((Value.slice va (n m) vc).ownBlock = some b ∨ wA.heap.size ≤ b) := fun b hb hne e => by
              rcases e with e | e
              · exact hne b e rfl
              · omega
            have hls' := own_fr HA.out.2.1 hF fun g e => hch g ((HA.out.2.1.lt g e).2) fun g' e' => fun e2 => own_apart HVM.out.2 HA.out.2.1 (by decide) g' e' (by rw [e2]; exact e)
            have hgs' := own_fr HA.out.2.2.1 hF fun g e => hch g ((HA.out.2.2.1.lt g e).2) fun g' e' => fun e2 => own_apart HVM.out.2 HA.out.2.2.1 (by decide) g' e' (by rw [e2]; exact e)
            have c0' : wr.cell? ⟨bl, m, none⟩ = some (.slice va (n m) vc) := by
              have := Ls.cell (B := B) (V := V) (c := lc) hls' m hlt
              rw [HA.out.2.2.2.2.2.2] at this
              exact this
            have hsz := hF.size
            have HH := Lib.hid (And.intro hgv (And.intro hvm (And.intro hcase (And.intro hF (And.intro hls' hgs')))))
            by_cases hlt2 : i' < 64
            · have hM1 : ∀ w, Calls Tryz.prog 72 #[.int .i64 m, .int .i64 ((n m : Int) + i')] w fun e w' => e = .returned (.int .i64 (mk m (n m + i'))) ∧ w = w' := fun w => by
                have := HM.out m (n m + i') (by omega) (by omega) w
                rwa [Int.natCast_add] at this
              clear hch hgv hvm hcase hF hls' hgs'
              go_wp2_with (first
                | (go_at_call 72; refine (hM1 _).mono ?_; rintro e w' ⟨rfl, rfl⟩)
                | (at_builtin; refine wpList_append_keep rfl _ _ 35 rfl B 3 i0 (.int .i64 0) 1 8 Tryz.underlying35 hi hz0 hz1 hz2 rfl (by decide) _ (n m + i') _ rfl (HH.out.1.2.alloc _) _ 1 1 [.int .i64 (mk m (n m + i'))] rfl (by simp) (cell_one_new _ _ _) (by simp [Value.oneCell']) (by omega) (by unfold maxLen; omega) (by omega) (by simp; omega) ?_; intro v2 w2 hown2 hold hF2 hblk))
              go_roundw
              case rel =>
                obtain ⟨hgv, hvm, hcase, hF, hls', hgs'⟩ := HH.out
                have hFa : Fr (fun g => (Value.slice ga (n m + i') gc).ownBlock = some g) wr w2 := (Fr.alloc wr _).trans hF2
                have hpre : ∀ g c, Value.slice ga (n m + i') gc = .slice (some ⟨g, 0, none⟩) (n m + i') c → Value.slice va (n m) vc = .slice (some ⟨g, 0, none⟩) (n m) c → ORow w2 B (.slice va (n m) vc) (n m) (mks m (n m)) := fun g c e1 e2 => by
                  rw [e1] at hold
                  have := own_pre hold (Nat.le_add_right (n m) i')
                  rw [← List.map_take, mks_take] at this
                  rw [e2]
                  exact ⟨mks_len _ _, this⟩
                refine ⟨i' + 1, by omega, by simp, ⟨mks_len _ _, by rw [← Nat.add_assoc, mks_succ, List.map_append]; exact hown2⟩, ?_, ?_, hF.trans (hFa.mono fun b _ e => ?_)⟩
                · rcases hcase with ⟨g, c, e2, e1⟩ | hnew | ⟨h0, e1⟩
                  · exact hpre g c e1 e2
                  · exact hvm.fr hFa fun b e e2 => by have h1 := hnew b e2; have h2 := (HVM.out.2.lt b e).2; omega
                  · subst h0
                    rcases HVM.out.2.2 with ⟨hnil, _⟩ | ⟨g, cap, cur, hv, _⟩
                    · exact hvm.fr hFa fun b e => by rw [hnil] at e; cases e
                    · exact hpre g cap (e1.trans hv) hv
                · rcases hblk with ⟨g, c, e3, e4⟩ | hnew2
                  · rcases hcase with ⟨g', c', e2, e1⟩ | hnew | ⟨h0, e1⟩
                    · have h5 := e1.symm.trans e3
                      simp only [Value.slice.injEq, Option.some.injEq, Addr.mk.injEq, and_true, true_and] at h5
                      obtain ⟨rfl, rfl⟩ := h5
                      exact .inl ⟨g', c', e2, e4⟩
                    · have e5 : Value.slice ga (n m + i') gc = .slice (some ⟨g, 0, none⟩) (n m + i') c := e3
                      exact .inr (.inl fun b e => hnew b (by rw [e4] at e; rw [e5]; exact e))
                    · subst h0
                      exact .inl ⟨g, c, e1.symm.trans e3, e4⟩
                  · exact .inr (.inl fun b e => by have := hnew2 b e; simp at this; omega)
                · rcases hcase with ⟨g, c, e2, e1⟩ | hnew | ⟨h0, e1⟩
                  · rw [e1] at e
                    rw [e2]
                    exact .inl e
                  · exact .inr (hnew b e)
                  · rw [e1] at e
                    exact .inl e
              case measure => simp [intOf]; omega
            · obtain rfl : i' = 64 := by omega
              have hcm := World.ownsRow.cellAt hgs' m (by omega)
              have hfm := World.ownsRow.frozenAt hgs' m
              obtain ⟨um, hum⟩ : ∃ u, (gRow k G (fun _ => Value.slice none 0 0) m)[m]? = some u := ⟨_, by simp [gRow, hlt]; rfl⟩
              rw [hum] at hcm
              clear hch hgv hvm hcase hF hls' hgs' hum
              go_wp2
              go_roundw
              case rel =>
                obtain ⟨hgv, hvm, hcase, hF, hls', hgs'⟩ := HH.out
                obtain ⟨hv, hls, hgs, hg, hsep, hBw, hVk⟩ := HA.out
                have hS := Fr.setCell wr ⟨bg, m, none⟩ (.slice ga (n m + 64) gc)
                have hint : ∀ {v : Value} {N : Nat} {xs : List Int}, ORow wr B v N xs → ORow (wr.setCell ⟨bg, m, none⟩ (.slice ga (n m + 64) gc)) B v N xs := fun h => h.fr hS fun g e e2 => own_apart h.2 hgs' (by decide) g e (congrArg some (show bg = g from (show g = bg from e2).symm))
                have hbgB := (hgs'.lt bg rfl).1
                refine ⟨m + 1, fun j => if j = m then .slice ga (n m + 64) gc else G j, by omega, by simp, fun j hj => ?_, own_fr hls' hS fun g e e2 => hblg ((by simpa [Value.ownBlock] using e : bl = g).trans (show g = bg from e2)), ?_, fun j hj => ?_, fun j hj i hi hij g e1 e2 => ?_, (hBw.trans (hF.mono fun g _ e => ?_)).trans (hS.mono fun g _ e => .inr (by have e' : g = bg := e; omega))⟩
                · by_cases hjm : j = m
                  · subst hjm
                    rw [hVk]
                    exact hint hvm
                  · refine hint ((hv j hj).fr hF fun g e => ?_)
                    rintro (e2 | e2)
                    · exact HS.out.apart j hj m hlt hjm g e (by rw [hVk]; exact e2)
                    · have := ((hv j hj).2.lt g e).2
                      omega
                · rw [← gRow_set]
                  exact (World.ownsRow.stored hgs' m (.slice ga (n m + 64) gc)).1
                · by_cases hjm : j = m
                  · subst hjm
                    simp only [if_true]
                    exact hint hgv
                  · simp only [if_neg hjm]
                    refine hint ((hg j (by omega)).fr hF fun g e => ?_)
                    rintro (e2 | e2)
                    · exact hsep j (by omega) m hlt (fun e3 => hjm e3.symm) g e (by rw [hVk]; exact e2)
                    · have := ((hg j (by omega)).2.lt g e).2
                      omega
                · by_cases hjm : j = m
                  · subst hjm
                    simp only [if_true] at e1
                    rcases hcase with ⟨g', c, e3, e4⟩ | hnew | ⟨h0, _⟩
                    · refine HS.out.apart j hlt i hi (fun e5 => hij e5.symm) g ?_ e2
                      rw [hVk, e3]
                      rw [e4] at e1
                      exact e1
                    · have h6 := hnew g e1
                      have h7 := ((hv i hi).2.lt g e2).2
                      omega
                    · omega
                  · simp only [if_neg hjm] at e1
                    exact hsep j (by omega) i hi hij g e1 e2
                · rcases e with e | e
                  · exact .inl ⟨m, hlt, by rw [hVk]; exact e⟩
                  · exact .inr (Nat.le_trans hBw.size e)
              case measure => simp [intOf]; omega
        · obtain rfl : m = k := by omega
          rw [gRow_all] at hgs
          have H3 := Lib.hid (And.intro hv (And.intro hls (And.intro hgs (And.intro hg hBw))))
          clear hv hls hgs hg hsep hBw hlt
          generalize wr = wE at *
          go_wp2
          go_loopw [9, 10] (fun i _ wq => ∃ p : Nat, p ≤ m ∧ i = .int .i64 p ∧ Fr nothing wE wq) (fun i _ _ => m - (intOf i).toNat)
          case atStart => exact ⟨0, by omega, rfl, Fr.refl _ _⟩
          case round =>
            obtain ⟨p, hp, rfl, hF⟩ := hrel
            by_cases hlt : p < m
            · obtain ⟨bl, rfl, hblg⟩ : ∃ bl, la = some ⟨bl, 0, none⟩ ∧ bl ≠ bg := by
                rcases HBG.out with h | h
                · omega
                · exact h
              have hnp := HS.out.len p hlt
              have hgp := H3.out.2.2.2.1 p hlt
              have hvp := H3.out.1 p hlt
              have cg : wE.cell? ⟨bg, p, none⟩ = some (G p) := Ls.cell (B := B) (V := G) (c := m) H3.out.2.2.1 p hlt
              have cv := H3.out.2.1.cell p hlt
              obtain ⟨gg, gc, hGp, _⟩ := slice_of hgp.2 (by omega)
              obtain ⟨va, vc, hVp, _⟩ := own_cells hvp.2
              rw [hGp] at cg hgp
              rw [hVp] at cv hvp
              have HP := Lib.hid (And.intro hgp (And.intro hvp (And.intro cg cv)))
              have HF0 := Lib.hid hF
              clear hgp hvp cg cv hF hGp hVp
              generalize wr = wP at *
              go_wp2
              go_loopw [10] (fun i wq => ∃ q : Nat, q ≤ n p + 64 ∧ i = .int .i64 q ∧ Fr nothing wE wq) (fun i _ => n p + 64 - (intOf i).toNat)
              case atStart => exact ⟨0, by omega, rfl, HF0.out⟩
              case round =>
                obtain ⟨q, hq, rfl, hF⟩ := hrel
                have cg := hF.cell HP.out.2.2.1 fun e => e
                have cv := hF.cell HP.out.2.2.2 fun e => e
                have HF1 := Lib.hid hF
                have hM1 := HM.out p q (by omega) (by omega)
                by_cases hlt2 : q < n p + 64
                · obtain ⟨y, cy, hy⟩ := HP.out.1.cell q hlt2
                  have cy' := hF.cell cy fun e => e
                  rw [List.getElem?_eq_getElem (by rw [mks_len]; exact hlt2), mks_get _ _ _ hlt2] at hy
                  simp only [Option.some.injEq] at hy
                  subst hy
                  by_cases hlt3 : q < n p
                  · obtain ⟨gv, vc', hv, _⟩ := slice_of HP.out.2.1.2 (by omega)
                    simp only [Value.slice.injEq] at hv
                    obtain ⟨rfl, -, rfl⟩ := hv
                    obtain ⟨z, cz, hz⟩ := HP.out.2.1.cell q hlt3
                    have cz' := hF.cell cz fun e => e
                    rw [List.getElem?_eq_getElem (by rw [mks_len]; exact hlt3), mks_get _ _ _ hlt3] at hz
                    simp only [Option.some.injEq] at hz
                    subst hz
                    clear cy cz hF
                    generalize mk p q = mm at *
                    generalize n p = N at *
                    go_wp2_with fail
                    go_quiet ((go_at_call 72; exact Calls.quiet_of_same ((hM1 _).mono fun _ _ ⟨he, hw⟩ => ⟨he, hw.symm⟩)))
                    go_wp2
                    go_roundw
                    case rel => exact ⟨q + 1, by omega, by simp, HF1.out.trans (Fr.drewN _ _)⟩
                    case measure => simp [intOf]; omega
                  · clear cy hF
                    generalize mk p q = mm at *
                    generalize n p = N at *
                    go_wp2_with fail
                    go_quiet ((go_at_call 72; exact Calls.quiet_of_same ((hM1 _).mono fun _ _ ⟨he, hw⟩ => ⟨he, hw.symm⟩)))
                    go_wp2
                    go_roundw
                    case rel => exact ⟨q + 1, by omega, by simp, HF1.out.trans (Fr.drewN _ _)⟩
                    case measure => simp [intOf]; omega
                · obtain rfl : q = n p + 64 := by omega
                  clear hF hlt2 hM1
                  go_wp2
                  go_roundw
                  case rel => exact ⟨p + 1, by omega, by simp, HF1.out⟩
                  case measure => simp [intOf]; omega
            · obtain rfl : p = m := by omega
              have H4 := Lib.hid (show (∀ j, j < p → ORow wr B (V j) (n j) (mks j (n j))) ∧ Ls wr B (.slice la p lc) p V ∧ wr.ownsRow B 35 1 (.slice (some ⟨bg, 0, none⟩) p p) p ((List.range p).map G) ∧ Fr (Ch w p V) w wr from
                ⟨fun j hj => (H3.out.1 j hj).fr hF fun _ _ e => e, own_fr H3.out.2.1 hF fun _ _ e => e, own_fr H3.out.2.2.1 hF fun _ _ e => e, H3.out.2.2.2.2.trans hF.wide⟩)
              clear hF hlt H3
              generalize wr = wX at *
              go_wp2
              go_loopw [11, 12, 13] (fun i _ _ wq => ∃ (m : Nat) (H : Nat → Value), m ≤ p ∧ i = .int .i64 m ∧ (∀ j, j < p → ORow wq B (V j) (n j) (mks j (n j))) ∧ Ls wq B (.slice la p lc) p V ∧ wq.ownsRow B 35 1 (.slice (some ⟨bg, 0, none⟩) p p) p (gRow p H G m) ∧
                (∀ j, j < m → ∃ y, ORow wq B (H j) (n j + 64) (mks j (n j) ++ y)) ∧ (∀ j, j < m → ∀ i, i < p → i ≠ j → ∀ g, (H j).ownBlock = some g → (V i).ownBlock = some g → False) ∧ Fr (Ch w p V) w wq) (fun i _ _ _ => p - (intOf i).toNat)
              case atStart => exact ⟨0, V, Nat.zero_le _, rfl, H4.out.1, H4.out.2.1, by rw [gRow_zero]; exact H4.out.2.2.1, fun j hj => by omega, fun j hj => by omega, H4.out.2.2.2⟩
              case round =>
                obtain ⟨m, H, hm, rfl, hv, hls, hgs, hg, hsep, hBw⟩ := hrel
                clear H4
                by_cases hlt : m < p
                · obtain ⟨bl, rfl, hblg⟩ : ∃ bl, la = some ⟨bl, 0, none⟩ ∧ bl ≠ bg := by
                    rcases HBG.out with h | h
                    · omega
                    · exact h
                  obtain ⟨L, hL⟩ : ∃ L : Nat, L = 64 := ⟨64, rfl⟩
                  have hmn := make_numsL L hL
                  have HL64 := Lib.hid hL
                  clear hL
                  have hnm := HS.out.len m hlt
                  have hBA := Nat.le_trans hB hBw.size
                  have HA := Lib.hid (And.intro hv (And.intro hls (And.intro hgs (And.intro hg (And.intro hsep hBw)))))
                  clear hv hls hgs hg hsep hBw
                  generalize wr = wA at *
                  go_upto_region 30 with fail
                  refine wp_atW (F := fun W => ORow W B (.slice (some ⟨wA.heap.size, 0, none⟩) L L) L (List.replicate L 0) ∧ Fr nothing wA W) ?_ ?_
                  · refine ⟨⟨by simp, ?_⟩, Fr.alloc _ _⟩
                    have := own_laid (B := B) (n := L) (size := 1) (alloc_obj wA (numsO L)) hBA (by simp) (by have := HL64.out; unfold maxLen; omega)
                    simpa using this
                  intro W ⟨hmy, hFW⟩
                  have HMY := Lib.hid (And.intro hmy hFW)
                  clear hmy hFW hmn
                  generalize hbm : wA.heap.size = bm at *
                  have HBM := Lib.hid hbm
                  clear hbm
                  go_wp2
                  go_loopw [13] (fun i wq => ∃ (q : Nat) (y : List Int), q ≤ 64 ∧ i = .int .i64 q ∧ ORow wq B (.slice (some ⟨bm, 0, none⟩) L L) L y ∧ Fr (only bm) wA wq) (fun i _ => 64 - (intOf i).toNat)
                  case atStart => exact ⟨0, _, by omega, rfl, HMY.out.1, HMY.out.2.wide⟩
                  case round =>
                    obtain ⟨q, y, hq, rfl, hy, hF⟩ := hrel
                    have hno : ∀ {v : Value} {e N : Nat} {xs : List Value}, wA.ownsRow B e 1 v N xs → wr.ownsRow B e 1 v N xs := fun h => own_fr h hF fun g e e2 => by
                      have h1 := (h.lt g e).2
                      have e' : g = bm := e2
                      rw [HBM.out] at h1
                      omega
                    have hsz := hF.size
                    have HY := Lib.hid (And.intro hy hF)
                    by_cases hlt2 : q < 64
                    · have hqL : q < L := by have := HL64.out; omega
                      obtain ⟨u, cu, _⟩ := hy.cell q hqL
                      have fu := World.ownsRow.frozenAt hy.2 q
                      have hM1 : ∀ w, Calls Tryz.prog 72 #[.int .i64 ((m : Int) + p), .int .i64 q] w fun e w' => e = .returned (.int .i64 (mk (m + p) q)) ∧ w = w' := fun w => by
                        have := HM.out (m + p) q (by omega) (by omega) w
                        rwa [Int.natCast_add] at this
                      clear hy hF hno
                      go_wp2_with (go_at_call 72; refine (hM1 _).mono ?_; rintro e w' ⟨rfl, rfl⟩)
                      go_roundw
                      case rel => exact ⟨q + 1, _, by omega, by simp, HY.out.1.set q _, HY.out.2.trans (Fr.setCell _ ⟨bm, q, none⟩ _)⟩
                      case measure => simp [intOf]; omega
                    · obtain rfl : q = 64 := by omega
                      have hls1 := hno HA.out.2.1
                      have hgs1 := hno HA.out.2.2.1
                      have hvm : ORow wr B (V m) (n m) (mks m (n m)) := ⟨mks_len _ _, hno (HA.out.1 m hlt).2⟩
                      have c0 : wr.cell? ⟨bl, m, none⟩ = some (V m) := Ls.cell (B := B) (V := V) (c := lc) hls1 m hlt
                      obtain ⟨va, vc, hVm, _⟩ := own_cells hvm.2
                      rw [hVm] at c0 hvm
                      have HH := Lib.hid (And.intro hvm (And.intro hls1 (And.intro hgs1 (And.intro hVm hy))))
                      clear hy hF hno hls1 hgs1 hvm hVm hlt2
                      go_wp2_with (at_builtin; refine wpList_append_keep rfl _ _ 35 rfl B 3 i0 (.int .i64 0) 1 8 Tryz.underlying35 hi hz0 hz1 hz2 rfl (by decide) _ (n m) _ rfl HH.out.1.2 ⟨bm, 0, none⟩ L L (y.map (Value.int .i64)) rfl (by simp [HH.out.2.2.2.2.1]) (HH.out.2.2.2.2.2.cells rfl) (by simp [Value.oneCell']) (by have := HL64.out; omega) (by have := HL64.out; unfold maxLen; omega) (by have := HL64.out; omega) (by have := HBM.out; omega) ?_; intro v2 w2 hown2 hold hF2 hblk; obtain ⟨v2a, v2c, rfl, _⟩ := own_cells hown2; have hgs2 := own_fr HH.out.2.2.1 hF2 fun g e e2 => own_apart HH.out.1.2 HH.out.2.2.1 (by decide) g e2 e; obtain ⟨um, hum⟩ : ∃ u, (gRow p H G m)[m]? = some u := ⟨_, by simp [gRow, hlt]; rfl⟩; have cm := World.ownsRow.cellAt hgs2 m (by omega); rw [hum] at cm; have fm := World.ownsRow.frozenAt hgs2 m)
                      go_roundw
                      case rel =>
                        obtain ⟨hv, hls, hgs, hg, hsep, hBw⟩ := HA.out
                        have hL := HL64.out
                        have hyl := HH.out.2.2.2.2.1
                        have hF := HY.out.2
                        have hS := Fr.setCell w2 ⟨bg, m, none⟩ (.slice v2a (n m + L) v2c)
                        have hFX : Fr (fun g => (Value.slice va (n m) vc).ownBlock = some g ∨ g = bm) wA w2 := (hF.mono fun _ _ e => .inr e).trans (hF2.mono fun _ _ e => .inl e)
                        have hint : ∀ {v : Value} {N : Nat} {xs : List Int}, ORow w2 B v N xs → ORow (w2.setCell ⟨bg, m, none⟩ (.slice v2a (n m + L) v2c)) B v N xs := fun h => h.fr hS fun g e e2 => own_apart h.2 hgs2 (by decide) g e (congrArg some (show bg = g from (show g = bg from e2).symm))
                        have hbgB := (hgs2.lt bg rfl).1
                        have hwA := HBM.out
                        refine ⟨m + 1, fun j => if j = m then .slice v2a (n m + L) v2c else H j, by omega, by simp, fun j hj => ?_, own_fr (own_fr hls hFX fun g e => ?_) hS fun g e e2 => hblg ((by simpa [Value.ownBlock] using e : bl = g).trans (show g = bg from e2)), ?_, fun j hj => ?_, fun j hj i hi hij g e1 e2 => ?_, (hBw.trans (hFX.mono fun g _ e => ?_)).trans (hS.mono fun g _ e => .inr (by have e' : g = bg := e; omega))⟩
                        · by_cases hjm : j = m
                          · subst hjm
                            rw [HH.out.2.2.2.1]
                            exact hint ⟨mks_len _ _, hold⟩
                          · refine hint ((hv j hj).fr hFX fun g e => ?_)
                            rintro (e2 | e2)
                            · exact HS.out.apart j hj m hlt hjm g e (by rw [HH.out.2.2.2.1]; exact e2)
                            · have := ((hv j hj).2.lt g e).2
                              omega
                        · rintro (e2 | e2)
                          · exact own_apart HH.out.1.2 HH.out.2.1 (by decide) g e2 e
                          · have := (hls.lt g e).2
                            omega
                        · rw [← gRow_set]
                          exact (World.ownsRow.stored hgs2 m (.slice v2a (n m + L) v2c)).1
                        · by_cases hjm : j = m
                          · subst hjm
                            simp only [if_true]
                            refine ⟨y, hint ⟨by rw [List.length_append, mks_len, hyl, hL], ?_⟩⟩
                            rw [List.map_append, ← hL]
                            exact hown2
                          · simp only [if_neg hjm]
                            obtain ⟨y', hy'⟩ := hg j (by omega)
                            refine ⟨y', hint (hy'.fr hFX fun g e => ?_)⟩
                            rintro (e2 | e2)
                            · exact hsep j (by omega) m hlt (fun e3 => hjm e3.symm) g e (by rw [HH.out.2.2.2.1]; exact e2)
                            · have := (hy'.2.lt g e).2
                              omega
                        · by_cases hjm : j = m
                          · subst hjm
                            simp only [if_true] at e1
                            rcases hblk with ⟨g', c, e3, e4⟩ | hnew
                            · refine HS.out.apart j hlt i hi (fun e5 => hij e5.symm) g ?_ e2
                              have e5 : Value.slice va (n j) vc = .slice (some ⟨g', 0, none⟩) (n j) c := e3
                              rw [HH.out.2.2.2.1, e5]
                              rw [e4] at e1
                              exact e1
                            · have h6 := hnew g e1
                              have h7 := ((hv i hi).2.lt g e2).2
                              omega
                          · simp only [if_neg hjm] at e1
                            exact hsep j (by omega) i hi hij g e1 e2
                        · rcases e with e | e
                          · exact .inl ⟨m, hlt, by rw [HH.out.2.2.2.1]; exact e⟩
                          · exact .inr (by have := hBw.size; omega)
                      case measure => simp [intOf]; omega
                · obtain rfl : m = p := by omega
                  rw [gRow_all] at hgs
                  have H5 := Lib.hid (And.intro hv (And.intro hls (And.intro hgs (And.intro hg hBw))))
                  clear hv hls hgs hg hsep hBw hlt
                  generalize wr = wF at *
                  go_wp2
                  go_loopw [14, 15] (fun i _ wq => ∃ r : Nat, r ≤ m ∧ i = .int .i64 r ∧ Fr nothing wF wq) (fun i _ _ => m - (intOf i).toNat)
                  case atStart => exact ⟨0, by omega, rfl, Fr.refl _ _⟩
                  case round =>
                    obtain ⟨r, hr, rfl, hF⟩ := hrel
                    by_cases hlt : r < m
                    · obtain ⟨bl, rfl, hblg⟩ : ∃ bl, la = some ⟨bl, 0, none⟩ ∧ bl ≠ bg := by
                        rcases HBG.out with h | h
                        · omega
                        · exact h
                      have hnp := HS.out.len r hlt
                      obtain ⟨y, hgp⟩ := H5.out.2.2.2.1 r hlt
                      have hvp := H5.out.1 r hlt
                      have cg : wF.cell? ⟨bg, r, none⟩ = some (H r) := Ls.cell (B := B) (V := H) (c := m) H5.out.2.2.1 r hlt
                      have cv := H5.out.2.1.cell r hlt
                      obtain ⟨gg, gc, hGp, _⟩ := slice_of hgp.2 (by omega)
                      obtain ⟨va, vc, hVp, _⟩ := own_cells hvp.2
                      rw [hGp] at cg hgp
                      rw [hVp] at cv hvp
                      have HP := Lib.hid (And.intro hgp (And.intro hvp (And.intro cg cv)))
                      have HF0 := Lib.hid hF
                      clear hgp hvp cg cv hF hGp hVp
                      generalize wr = wP at *
                      go_wp2
                      go_loopw [15] (fun i wq => ∃ q : Nat, q ≤ n r ∧ i = .int .i64 q ∧ Fr nothing wF wq) (fun i _ => n r - (intOf i).toNat)
                      case atStart => exact ⟨0, by omega, rfl, HF0.out⟩
                      case round =>
                        obtain ⟨q, hq, rfl, hF⟩ := hrel
                        have cg := hF.cell HP.out.2.2.1 fun e => e
                        have cv := hF.cell HP.out.2.2.2 fun e => e
                        have HF1 := Lib.hid hF
                        have hM1 := HM.out r q (by omega) (by omega)
                        by_cases hlt3 : q < n r
                        · obtain ⟨yy, cy, hy⟩ := HP.out.1.cell q (by omega)
                          have cy' := hF.cell cy fun e => e
                          rw [List.getElem?_append_left (by rw [mks_len]; exact hlt3), List.getElem?_eq_getElem (by rw [mks_len]; exact hlt3), mks_get _ _ _ hlt3] at hy
                          simp only [Option.some.injEq] at hy
                          subst hy
                          obtain ⟨gv, vc', hv, _⟩ := slice_of HP.out.2.1.2 (by omega)
                          simp only [Value.slice.injEq] at hv
                          obtain ⟨rfl, -, rfl⟩ := hv
                          obtain ⟨z, cz, hz⟩ := HP.out.2.1.cell q hlt3
                          have cz' := hF.cell cz fun e => e
                          rw [List.getElem?_eq_getElem (by rw [mks_len]; exact hlt3), mks_get _ _ _ hlt3] at hz
                          simp only [Option.some.injEq] at hz
                          subst hz
                          have hq2 : q < n r + 64 := by omega
                          clear cy cz hF
                          generalize mk r q = mm at *
                          generalize n r = N at *
                          go_wp2_with fail
                          go_quiet ((go_at_call 72; exact Calls.quiet_of_same ((hM1 _).mono fun _ _ ⟨he, hw⟩ => ⟨he, hw.symm⟩)))
                          go_wp2
                          go_roundw
                          case rel => exact ⟨q + 1, by omega, by simp, HF1.out.trans (Fr.drewN _ _)⟩
                          case measure => simp [intOf]; omega
                        · obtain rfl : q = n r := by omega
                          clear hF hlt3 hM1
                          go_wp2
                          go_roundw
                          case rel => exact ⟨r + 1, by omega, by simp, HF1.out⟩
                          case measure => simp [intOf]; omega
                    · obtain rfl : r = m := by omega
                      clear hlt
                      go_wp2
                      go_ret
                      exact ⟨rfl, H5.out.2.2.2.2.trans hF.wide⟩
end Go.Proofs.YtlilegbdjnhfjaaGreatDoor
