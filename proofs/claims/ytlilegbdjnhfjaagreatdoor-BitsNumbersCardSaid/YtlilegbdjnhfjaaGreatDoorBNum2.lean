/-
  BitsNumbers: the walk.
-/
import Derived.Test.YtlilegbdjnhfjaaGreatDoorBNum1
import Derived.Deep.DeepAppendRoom
namespace Go.Proofs.YtlilegbdjnhfjaaGreatDoor
open Go.RowKit Go.Shelf
set_option maxHeartbeats 400000

set_option maxRecDepth 100000 in
set_option maxHeartbeats 8000000 in
theorem bitsNumbers_any (w : World) (hT : Tab w) : Calls Tryz.prog 4 #[] w fun e w' => e = .returned (.bool true) ∧ Below w.heap.size w w' := by
  obtain ⟨i0, hi, hz0, hz1, hz2⟩ := info_parts Tryz.infoDo
  have HT := Lib.hid fun W (h : Below w.heap.size w W) => hT.fr (Fr.new h) fun e => e
  have HLV := Lib.hid bitsLives_any
  have HKY := Lib.hid bitsKeys_any
  have HAW := Lib.hid awake_any
  clear hT
  go_enter Tryz.func4, Tryz.ntmps4
  go_upto_region 2 with fail
  refine wp_atW (F := fun W => W.heap[w.heap.size]? = some (.cells (numB.map (Value.int .i64)).toArray 3 (0, 0)) ∧ Below w.heap.size w W) ⟨alloc_obj _ _, (Below.refl _ _).alloc (Nat.le_refl _) _⟩ ?_
  rintro wZ ⟨hnZ, hBZ⟩
  have hnb : ∃ nb, nb = w.heap.size := ⟨_, rfl⟩
  go_wp2
  go_loopw [2] (fun i wr => ∃ j : Nat, j ≤ 19 ∧ i = .int .i64 j ∧ wr.heap[w.heap.size]? = some (.cells (numB.map (Value.int .i64)).toArray 3 (0, 0)) ∧ Below w.heap.size w wr)
    (fun i _ => 19 - (intOf i).toNat)
  case atStart => exact ⟨0, by omega, rfl, hnZ, hBZ⟩
  case round =>
    clear hnZ hBZ
    obtain ⟨j, hj, rfl, hnum, hB⟩ := hrel
    by_cases hlt : j < 19
    · have tj : decide ((j : Int) < 19) = true := decide_eq_true (by omega)
      go_wp2
      go_loopw [3, 4] (fun v i wr => ∃ (m : Nat) (L : List (Int × Int × Int)), m ≤ 19 ∧ i = .int .i64 m ∧ L.length = 2 * m ∧ (∀ x ∈ L, DoOk x) ∧ wr.ownsRow (w.heap.size + 1) 33 3 v L.length (L.flatMap doCells) ∧
          wr.heap[w.heap.size]? = some (.cells (numB.map (Value.int .i64)).toArray 3 (0, 0)) ∧ Below w.heap.size w wr)
        (fun _ i _ => 19 - (intOf i).toNat)
      case atStart => exact ⟨0, [], by omega, rfl, rfl, by simp, ⟨rfl, .inl ⟨rfl, rfl⟩⟩, hnum, hB⟩
      case round =>
        clear hnum hB
        obtain ⟨m, L, hm, rfl, hL, hok, hown, hnum, hB⟩ := hrel
        by_cases hlt2 : m < 19
        · have tm : decide ((m : Int) < 19) = true := decide_eq_true (by omega)
          have hmi : (m : Int) < 19 := by omega
          have hm8 : m < numB.length := hlt2
          have hc : wr.cell? ⟨w.heap.size, m, none⟩ = some (.int .i64 numB[m]) := obj_cell hnum m (by simp [hm8])
          have hbd := numB_all _ (List.getElem_mem hm8)
          generalize numB[m] = x at *
          have HX := Lib.hid (And.intro hok (And.intro hnum hL))
          have hlen : L.length ≤ 40 := by omega
          have hsz : w.heap.size < wr.heap.size := (Array.getElem?_eq_some_iff.1 hnum).1
          have ag : u3.ownBlock ≠ some w.heap.size := fun e => by have := (hown.lt _ e).1; omega
          clear hok hnum hL
          go_wp2_with fail
          go_region_held3 (fun w' => w'.cell? ⟨w.heap.size, m, none⟩ = some (.int .i64 x)) (first | go_keep | (rw [hgrow.cell_far _ (by simp; omega) (Ne.symm ag)]; assumption))
            ((refine step_append_lies _ (by rfl) _ _ _ (by rfl) (w.heap.size + 1) 33 i0 _ 3 24 Tryz.underlying22 hi hz0 hz1 hz2 rfl (by omega) u3 L.length _ (by rfl) ((hown.alloc _).drew)
                ⟨wr.heap.size, 0, none⟩ 2 2 [.int .i64 0, .int .i64 m, .int .i64 x, .int .i64 3, .int .i64 m, .int .i64 x] (by rfl) (by rfl) (World.news_of_block (cs := #[.int .i64 0, .int .i64 m, .int .i64 x, .int .i64 3, .int .i64 m, .int .i64 x]) (t := 33) (fr := (0, 0)) (heap_alloc_new wr _)) (by simp [Value.oneCell'])
                (by omega) (by unfold maxLen; omega) (by omega) (by simp; omega) (wr.heap.size + 1) (by simp) ?_; intro gg cap1 w1 hown1 hgrow hat hlt'))
          go_wp2
          have hge := own_block_ge hown
          have hFg : Fr (fun g => u3.ownBlock = some g) wr w1 := ((Fr.alloc _ _).trans (Fr.drew _)).trans (Fr.grown hgrow)
          go_roundw
          case rel =>
            refine ⟨m + 1, L ++ [(0, (m : Int), x), (3, (m : Int), x)], by omega, by simp, by rw [List.length_append, HX.out.2.2]; simp; omega, ?_, ?_, hFg.obj HX.out.2.1 fun e => by have := hge _ e; omega, hB.trans (hFg.below hB.size fun g e => by have := hge _ e; omega)⟩
            · intro y hy
              rcases List.mem_append.1 hy with hy | hy
              · exact HX.out.1 y hy
              · rcases List.mem_cons.1 hy with rfl | hy
                · exact ⟨by unfold I64; simp, by unfold I64; simp; omega⟩
                · rw [List.mem_singleton.1 hy]
                  exact ⟨by unfold I64; simp, by unfold I64; simp; omega⟩
            · rw [List.length_append, List.flatMap_append]
              exact hown1
          case measure => simp [intOf]; omega
        · obtain rfl : m = 19 := by omega
          have hge := own_block_ge hown
          have hsz : w.heap.size < wr.heap.size := (Array.getElem?_eq_some_iff.1 hnum).1
          have hlen : L.length ≤ 40 := by omega
          have HX := Lib.hid (And.intro hok (And.intro hnum hB))
          clear hok hnum hL hB hlt2 hm
          go_upto_region 11 with (at_builtin; refine wpList_append_own _ rfl _ _ 22 rfl (w.heap.size + 1) 33 i0 _ 3 24 Tryz.underlying22 hi hz0 hz1 hz2 rfl (by decide) _ _ _ rfl (hown.alloc _) ⟨wr.heap.size, 0, none⟩ 4 4 [.int .i64 4, .int .i64 0, .int .i64 0, .int .i64 4, .int .i64 1, .int .i64 0, .int .i64 5, .int .i64 0, .int .i64 7, .int .i64 6, .int .i64 0, .int .i64 0] rfl rfl (cells_add (cells_new_at rfl _ _ rfl _ _)) (by simp [Value.oneCell']) (by unfold maxLen; omega) (by omega) (by simp; omega) ?_; intro v' w2 hown2 hgrow2 _)
          have hFg : Fr (fun g => u3.ownBlock = some g) wr w2 := (Fr.alloc _ _).trans (Fr.grown hgrow2)
          have hnum2 := hFg.obj HX.out.2.1 fun e => by have := hge _ e; omega
          have hB2 : Below w.heap.size w w2 := HX.out.2.2.trans (hFg.below HX.out.2.2.size fun g e => by have := hge _ e; omega)
          have hD : IsDos w2 v' (L ++ [(4, 0, 0), (4, 1, 0), (5, 0, 7), (6, 0, 0)]) := by
            refine dos_row (B := w.heap.size + 1) (e := 33) ?_ ?_ (by rw [List.length_append]; simp; omega)
            · rw [List.length_append, List.flatMap_append]
              exact hown2
            · intro y hy
              rcases List.mem_append.1 hy with hy | hy
              · exact HX.out.1 y hy
              · have hall : ∀ y ∈ [((4 : Int), (0 : Int), (0 : Int)), (4, 1, 0), (5, 0, 7), (6, 0, 0)], DoOk y := by unfold DoOk I64; decide
                exact hall y hy
          have hj8 : j < numB.length := hlt
          have hbd := numB_all _ (List.getElem_mem hj8)
          have HN2 := Lib.hid hnum2
          have HB2 := Lib.hid hB2
          have HD := Lib.hid hD
          have hjc : ∀ W, Fr nothing w2 W → W.cell? ⟨w.heap.size, j, none⟩ = some (.int .i64 numB[j]) := fun W h => obj_cell (h.obj HN2.out fun e => e) j (by simp [hj8])
          have HJC := Lib.hid hjc
          generalize numB[j] = x at *
          generalize L ++ [((4 : Int), (0 : Int), (0 : Int)), (4, 1, 0), (5, 0, 7), (6, 0, 0)] = dl at *
          clear hown2 hgrow2 hFg hnum2 hB2 hD hjc HX hown hge hsz hlen
          generalize hwA : wr = wA at *
          clear hwA
          go_wp2
          go_loopw [5] (fun i wr => ∃ t : Nat, t ≤ 19 ∧ i = .int .i64 t ∧ Fr nothing w2 wr) (fun i _ => 19 - (intOf i).toNat)
          case atStart => exact ⟨0, by omega, rfl, Fr.refl _ _⟩
          case round =>
            obtain ⟨t, ht, rfl, hF⟩ := hrel
            have hji : (j : Int) < 19 := by omega
            have cx : wr.cell? ⟨w.heap.size, j, none⟩ = some (.int .i64 x) := HJC.out _ hF
            by_cases hlt3 : t < 19
            · have tt : decide ((t : Int) < 19) = true := decide_eq_true (by omega)
              have hti : (t : Int) < 19 := by omega
              have ht8 : t < numB.length := hlt3
              have cy : wr.cell? ⟨w.heap.size, t, none⟩ = some (.int .i64 numB[t]) := obj_cell (hF.obj HN2.out fun e => e) t (by simp [ht8])
              generalize numB[t] = y at *
              have HL := Lib.hid fun W (h : Fr nothing wr W) => HLV.out x y v' dl W (HD.out.fr (hF.trans h)) (HT.out W (HB2.out.trans ((hF.trans h).below_new.mono HB2.out.size)))
              have HF := Lib.hid hF
              clear hF
              go_wp2_with fail
              go_region_held3 (fun W => W.cell? ⟨w.heap.size, j, none⟩ = some (.int .i64 x) ∧ W.cell? ⟨w.heap.size, t, none⟩ = some (.int .i64 y) ∧ Fr nothing wr W)
                (first | exact ⟨cx, cy, Fr.drew _⟩ | (go_split_ands; exact keep2 (by assumption) (by assumption) (by assumption) (Fr.new hb1)))
                ((go_at_call 3; go_split_ands; refine (HL.out _ (by assumption)).mono ?_; rintro e w5 ⟨rfl, hb1⟩))
              go_wp2
              go_roundw
              case rel => exact ⟨t + 1, by omega, by simp, HF.out.trans (by go_split_ands; assumption)⟩
              case measure => simp [intOf]; omega
            · obtain rfl : t = 19 := by omega
              have HBW := Lib.hid fun W (h : Fr nothing w2 W) => HB2.out.trans (h.below_new.mono HB2.out.size)
              have HK1 := Lib.hid (HKY.out _ _ _ (ints_two wr 1 x 3 (by unfold I64; decide) hbd) (HT.out _ (HBW.out _ (hF.trans (Fr.alloc _ _)))))
              clear hlt3 ht
              go_wp2_with (first
                | (go_at_call 16; (with_reducible refine HK1.out.mono ?_); clear HK1; rintro e w5 ⟨rfl, hb5⟩; have hF5 : Fr nothing w2 w5 := hF.trans ((Fr.alloc _ _).trans (Fr.new hb5)); have cx5 := HJC.out _ hF5; have HK2 := Lib.hid (HKY.out _ _ _ (ints_two w5 x (-1) 3 hbd (by unfold I64; decide)) (HT.out _ (HBW.out _ (hF5.trans (Fr.alloc _ _))))))
                | (go_at_call 16; (with_reducible refine HK2.out.mono ?_); rintro e w6 ⟨rfl, hb6⟩))
              have hF6 : Fr nothing w2 w6 := hF5.trans ((Fr.alloc _ _).trans (Fr.new hb6))
              go_roundw
              case rel => exact ⟨j + 1, by omega, by simp, hF6.obj HN2.out fun e => e, HBW.out _ hF6⟩
              case measure => simp [intOf]; omega
    · obtain rfl : j = 19 := by omega
      have HK1 := Lib.hid (HKY.out _ _ _ (Ints.nil wr) (HT.out _ hB))
      clear hlt hj
      go_wp2_with (first
        | (go_at_call 16; refine HK1.out.mono ?_; rintro e w5 ⟨rfl, hb5⟩; have hB5 := hB.trans (hb5.mono hB.size); have HA := Lib.hid (HAW.out _ (HT.out _ hB5)))
        | (go_at_call 7; refine HA.out.mono ?_; rintro e w6 ⟨rfl, hb6⟩))
      go_ret
      exact ⟨rfl, hB5.trans (hb6.mono hB5.size)⟩
end Go.Proofs.YtlilegbdjnhfjaaGreatDoor
