/-
  UselessNumbers: the walk.
-/
import Derived.Test.YtiiceickjaeehaaGreatUNum1
namespace Go.Proofs.YtiiceickjaeehaaGreat
open Go.RowKit
set_option maxHeartbeats 400000

theorem src_of {w : World} {B n : Nat} {a : Option Addr} {c : Nat} {xs : List Value} (h : w.ownsRow B 31 1 (.slice a n c) n xs) : (a = none ∧ n = 0) ∨ ∃ ad, a = some ad ∧ ∀ j u, xs[j]? = some u → w.cell? (ad.add j) = some u := by
  have h' := h
  obtain ⟨_, h2⟩ := h
  rcases h2 with ⟨h2, h0⟩ | ⟨g, cap, cur, h2, _⟩
  · simp only [Value.slice.injEq] at h2
    exact .inl ⟨h2.1, h0⟩
  · simp only [Value.slice.injEq] at h2
    obtain ⟨rfl, -, rfl⟩ := h2
    exact .inr ⟨_, rfl, h'.cells rfl⟩

set_option maxRecDepth 100000 in
set_option maxHeartbeats 4000000 in
theorem numbers_any (w : World) : Calls Tryz.prog 4 #[] w fun e w' => e = .returned (.bool true) ∧ Below w.heap.size w w' := by
  obtain ⟨k0, ki, kz0, kz1, kz2⟩ := info_parts Tryz.infoInts
  go_enter Tryz.func4, Tryz.ntmps4
  go_wp2
  go_loopw [1, 2, 3, 4, 5] (fun i _ _ _ _ wq => ∃ m : Nat, m ≤ 9 ∧ i = .int .i64 (7 * m + 1 : Nat) ∧ Below w.heap.size w wq) (fun i _ _ _ _ _ => 64 - (intOf i).toNat)
  case atStart => exact ⟨0, by omega, rfl, Below.refl _ _⟩
  case round =>
    obtain ⟨m, hm, rfl, hB⟩ := hrel
    by_cases hlt : m < 9
    · obtain ⟨nn, hnn⟩ : ∃ nn, nn = 7 * m + 1 := ⟨_, rfl⟩
      rw [← hnn]
      have hn1 : 1 ≤ nn := by omega
      have hn2 : nn ≤ 57 := by omega
      have hn3 : decide ((nn : Int) < 60) = true := decide_eq_true (by omega)
      have HN := Lib.hid hnn
      have HB := Lib.hid hB
      clear hnn hB
      generalize wr = wA at *
      go_wp2
      go_loopw [2, 3, 4, 5] (fun u2 u3 u4 i wq => ∃ (i' : Nat) (r2 r3 r4 : List (Value × List Int)), i' ≤ nn ∧ i = .int .i64 i' ∧ r2.length = i' ∧ r3.length = i' ∧ r4.length = 2 * i' ∧ T3 w wq u2 u3 u4 r2 r3 r4) (fun _ _ _ i _ => nn - (intOf i).toNat)
      case atStart => exact ⟨0, [], [], [], Nat.zero_le _, rfl, rfl, rfl, rfl, ⟨⟨World.ownsRow_nil _ _ _ _, by simp⟩, ⟨World.ownsRow_nil _ _ _ _, by simp⟩, ⟨World.ownsRow_nil _ _ _ _, by simp⟩, fun g e _ => (by cases e), fun g e _ => (by cases e), fun g e _ => (by cases e), HB.out⟩⟩
      case round =>
        obtain ⟨i', r2, r3, r4, hi', rfl, l2, l3, l4, hT⟩ := hrel
        obtain ⟨a2, c2, rfl, _⟩ := own_cells hT.a.1
        obtain ⟨a3, c3, rfl, _⟩ := own_cells hT.b.1
        obtain ⟨a4, c4, rfl, _⟩ := own_cells hT.c.1
        have HT := Lib.hid hT
        have hsw := hT.below.size
        clear hT
        by_cases hlt2 : i' < nn
        · go_upto_region 9 with (at_builtin; refine wpList_append_keep rfl _ _ 37 rfl w.heap.size 31 k0 _ 1 24 Tryz.underlying37 ki kz0 kz1 kz2 rfl (by decide) _ r2.length _ rfl ((HT.out.a.1.alloc _).alloc _) _ 1 1 [.slice (some ⟨wr.heap.size, 0, none⟩) 3 3] rfl rfl (cells_add (cells_new_at (by simp) _ _ rfl _ _)) (by simp [Value.oneCell']) (by omega) (by unfold maxLen; omega) (by omega) (by simp; omega) ?_; intro v2 w2 hown2 hold2 hF2 hblk2)
          have hT1 := HT.out.still ((Fr.alloc wr (rowO [(i' : Int), (i' : Int) + 1, -1])).trans (Fr.alloc _ (.cells #[.slice (some ⟨wr.heap.size, 0, none⟩) 3 3] 31)))
          have hn1' : INum ((wr.alloc (rowO [(i' : Int), (i' : Int) + 1, -1])).alloc (.cells #[.slice (some ⟨wr.heap.size, 0, none⟩) 3 3] 31)) (.slice (some ⟨wr.heap.size, 0, none⟩) 3 3, [(i' : Int), (i' : Int) + 1, -1]) := num_laid [(i' : Int), (i' : Int) + 1, -1] (alloc_older (alloc_obj wr _)) ⟨by simp, by simp, fun x hx => by simp only [List.mem_cons, List.not_mem_nil, or_false] at hx; omega⟩
          have hr2 := RowsL.push (news := [(.slice (some ⟨wr.heap.size, 0, none⟩) 3 3, [(i' : Int), (i' : Int) + 1, -1])]) hT1.a hF2 hown2 (fun r hr => by rw [List.mem_singleton.1 hr]; exact hn1')
          have hT2 := hT1.new2 hF2 hr2 hblk2
          obtain ⟨v2a, v2c, rfl, _⟩ := own_cells hown2
          have HT2 := Lib.hid hT2
          have hsw2 := hT2.below.size
          have hb3 : w2.ownsRow w.heap.size 31 1 (.slice a3 i' c3) i' (r3.map Prod.fst) := by have := hT2.b.1; rw [l3] at this; exact this
          clear hT1 hn1' hr2 hT2 hown2 hold2 hF2 hblk2
          go_upto_region 10 with (at_builtin; refine wpList_append_any rfl _ _ 37 rfl w2.heap.size 31 k0 _ 1 24 Tryz.underlying37 ki kz0 kz1 kz2 rfl (by decide) _ 1 [.slice (some ⟨w2.heap.size, 0, none⟩) 2 2] rfl (own_laid (cs := #[.slice (some ⟨w2.heap.size, 0, none⟩) 2 2]) (alloc_at (by simp)) (Nat.le_succ _) rfl (by unfold maxLen; omega)) a3 i' c3 (r3.map Prod.fst) rfl (by simp [l3]) (src_of ((hb3.alloc _).alloc _)) HT2.out.b.one (by unfold maxLen; omega) (by omega) (by simp; omega) ?_; intro v3 w3 hown3 hgrow3)
          have hG3 : Fr (fun g => w2.heap.size + 1 = g) ((w2.alloc (rowO [(i' : Int), (i' : Int) + 1])).alloc (.cells #[.slice (some ⟨w2.heap.size, 0, none⟩) 2 2] 31)) w3 := (Fr.grown hgrow3).mono fun g _ e => Option.some.inj (show some (w2.heap.size + 1) = some g from e)
          have hF3 : Fr nothing w2 w3 := ⟨hG3.os, hG3.tape, hG3.output, by have := hG3.size; simp at this; omega, fun g hg _ => (hG3.block g (by simp; omega) (fun e => by omega)).trans (((Fr.alloc (ch := nothing) w2 _).trans (Fr.alloc _ _)).block g hg fun e => e)⟩
          have hr3 : RowsL w3 w2.heap.size v3 ((.slice (some ⟨w2.heap.size, 0, none⟩) 2 2, [(i' : Int), (i' : Int) + 1]) :: r3) := by
            refine ⟨?_, fun r hr => ?_⟩
            · rw [List.length_cons, l3, Nat.add_comm i' 1]
              exact hown3
            · rcases List.mem_cons.1 hr with rfl | hr
              · have hn : INum ((w2.alloc (rowO [(i' : Int), (i' : Int) + 1])).alloc (.cells #[.slice (some ⟨w2.heap.size, 0, none⟩) 2 2] 31)) (.slice (some ⟨w2.heap.size, 0, none⟩) 2 2, [(i' : Int), (i' : Int) + 1]) := num_laid [(i' : Int), (i' : Int) + 1] (alloc_older (alloc_obj w2 _)) ⟨by simp, by simp, fun x hx => by simp only [List.mem_cons, List.not_mem_nil, or_false] at hx; omega⟩
                exact hn.fr hG3 fun g e e2 => by
                  have e' : w2.heap.size = g := by simpa [Value.ownBlock] using e
                  omega
              · exact (HT2.out.b.2 r hr).fr hF3 fun _ _ e => e
          have hT3 := HT2.out.new3 hF3 (⟨own_base hr3.1 hsw2, hr3.2⟩ : RowsL w3 w.heap.size v3 _) (fun g e => (hr3.1.lt g e).1)
          obtain ⟨v3a, v3c, rfl, _⟩ := own_cells hown3
          have HT3 := Lib.hid hT3
          have hsw3 := hT3.below.size
          have hc4 : w3.ownsRow w.heap.size 31 1 (.slice a4 (2 * i') c4) (2 * i') (r4.map Prod.fst) := by have := hT3.c.1; rw [l4] at this; exact this
          clear hr3 hT3 hown3 hF3 hG3 hgrow3 hb3
          go_wp2_with (at_builtin; refine wpList_append_keep rfl _ _ 37 rfl w.heap.size 31 k0 _ 1 24 Tryz.underlying37 ki kz0 kz1 kz2 rfl (by decide) _ (2 * i') _ rfl (((hc4.alloc _).alloc _).alloc _) _ 2 2 [.slice (some ⟨w3.heap.size, 0, none⟩) 2 2, .slice (some ⟨w3.heap.size + 1, 0, none⟩) 1 1] rfl rfl (cells_add (cells_new_at (by simp) _ _ rfl _ _)) (by simp [Value.oneCell']) (by omega) (by unfold maxLen; omega) (by omega) (by simp; omega) ?_; intro v4 w4 hown4 hold4 hF4 hblk4; obtain ⟨v4a, v4c, rfl, _⟩ := own_cells hown4)
          go_roundw
          case rel =>
            have hX4 : Fr nothing w3 (((w3.alloc (rowO [(i' : Int), ((i' : Int) + 2) % ((nn : Int) + 1)])).alloc (rowO [(i' : Int)])).alloc (.cells #[.slice (some ⟨w3.heap.size, 0, none⟩) 2 2, .slice (some ⟨w3.heap.size + 1, 0, none⟩) 1 1] 31)) := ((Fr.alloc _ _).trans (Fr.alloc _ _)).trans (Fr.alloc _ _)
            have hT4 := HT3.out.still hX4
            have hmod : 0 ≤ ((i' : Int) + 2) % ((nn : Int) + 1) ∧ ((i' : Int) + 2) % ((nn : Int) + 1) ≤ 57 := ⟨Int.emod_nonneg _ (by omega), by have := Int.emod_lt_of_pos ((i' : Int) + 2) (show (0 : Int) < (nn : Int) + 1 by omega); omega⟩
            have hn5 := num_laid (w := ((w3.alloc (rowO [(i' : Int), ((i' : Int) + 2) % ((nn : Int) + 1)])).alloc (rowO [(i' : Int)])).alloc (.cells #[.slice (some ⟨w3.heap.size, 0, none⟩) 2 2, .slice (some ⟨w3.heap.size + 1, 0, none⟩) 1 1] 31)) (b := w3.heap.size) [(i' : Int), ((i' : Int) + 2) % ((nn : Int) + 1)] (alloc_older (alloc_older (alloc_obj w3 _))) ⟨by simp, by simp, fun x hx => by simp only [List.mem_cons, List.not_mem_nil, or_false] at hx; omega⟩
            have hn6 := num_laid (w := ((w3.alloc (rowO [(i' : Int), ((i' : Int) + 2) % ((nn : Int) + 1)])).alloc (rowO [(i' : Int)])).alloc (.cells #[.slice (some ⟨w3.heap.size, 0, none⟩) 2 2, .slice (some ⟨w3.heap.size + 1, 0, none⟩) 1 1] 31)) (b := w3.heap.size + 1) [(i' : Int)] (alloc_older (alloc_at (by simp))) ⟨by simp, by simp, fun x hx => by simp only [List.mem_cons, List.not_mem_nil, or_false] at hx; omega⟩
            have hF4' : Fr (fun g => (Value.slice a4 r4.length c4).ownBlock = some g) _ w4 := hF4.mono fun g _ e => by rw [l4]; exact e
            have hr4 := RowsL.push (v2 := .slice v4a (2 * i' + 2) v4c) (news := [(.slice (some ⟨w3.heap.size, 0, none⟩) 2 2, [(i' : Int), ((i' : Int) + 2) % ((nn : Int) + 1)]), (.slice (some ⟨w3.heap.size + 1, 0, none⟩) 1 1, [(i' : Int)])]) hT4.c hF4' (by rw [l4]; exact hown4) (fun r hr => by
              rcases List.mem_cons.1 hr with rfl | hr
              · exact hn5
              · rw [List.mem_singleton.1 hr]
                exact hn6)
            have hT5 := hT4.new4 (n := 2 * i') (m := 2 * i' + 2) hF4' hr4 (by rw [l4]; exact hblk4)
            rw [l2] at hT5
            exact ⟨i' + 1, _, _, _, by omega, by simp, by simp [l2], by simp [l3], by simp [l4]; omega, hT5⟩
          case measure => simp [intOf]; omega
        · obtain rfl : i' = nn := by omega
          have hT := HT.out
          rw [l2, l3, l4] at hT
          have HTw0 := Lib.hid hT
          have HG1 := Lib.hid (gramV i' _ wr w.heap.size i' (by omega) (by omega) ⟨_, hT.a, l2⟩)
          clear hT HT hlt2
          go_wp2_with (first
          | (go_at_call 18; (with_reducible refine HG1.out.mono ?_); rintro e p1 ⟨g1, rfl, hg1, hp1⟩; have HE1 := Lib.hid (tellsE g1 p1 hg1); have HP1 := Lib.hid hp1; clear hg1 hp1)
          | (go_at_call 3; (with_reducible refine HE1.out.mono ?_); rintro e q1 ⟨rfl, hq1⟩; have hTq1 := HTw0.out.still ((Fr.new HP1.out).trans (Fr.new hq1)); have ha1 : q1.ownsRow w.heap.size 31 1 (.slice a2 i' c2) i' (r2.map Prod.fst) := (by have := hTq1.a.1; rw [l2] at this; exact this); have hs1 := hTq1.below.size; have HTq1 := Lib.hid hTq1; clear hq1 hTq1)
          | (at_builtin; refine wpList_append_keepG (by rfl) _ _ 37 rfl w.heap.size 31 k0 _ 1 24 Tryz.underlying37 ki kz0 kz1 kz2 rfl (by decide) _ i' _ rfl ((ha1.alloc _).alloc _) _ 1 1 [.slice (some ⟨q1.heap.size, 0, none⟩) 1 1] rfl rfl (cells_add (cells_new_at (by simp) _ _ rfl _ _)) (by simp [Value.oneCell']) (by omega) (by unfold maxLen; omega) (by omega) (by simp; omega) ?_; intro v1 z1 hown1 hold1 hF1 hblk1; obtain ⟨hTz1, hV1⟩ := app2 [(i' : Int)] ⟨by simp, by simp, fun x hx => by simp only [List.mem_cons, List.not_mem_nil, or_false] at hx; omega⟩ HTq1.out l2 hF1 hold1 hown1; have HTw1 := Lib.hid hTz1; have HG2 := Lib.hid (gramV i' v1 z1 w.heap.size (i' + 1) (by omega) (by omega) hV1); clear hown1 hold1 hF1 hblk1 hTz1 hV1)
          | (go_at_call 18; (with_reducible refine HG2.out.mono ?_); rintro e p2 ⟨g2, rfl, hg2, hp2⟩; have HE2 := Lib.hid (tellsE g2 p2 hg2); have HP2 := Lib.hid hp2; clear hg2 hp2)
          | (go_at_call 3; (with_reducible refine HE2.out.mono ?_); rintro e q2 ⟨rfl, hq2⟩; have hTq2 := HTw1.out.still ((Fr.new HP2.out).trans (Fr.new hq2)); have ha2 : q2.ownsRow w.heap.size 31 1 (.slice a3 i' c3) i' (r3.map Prod.fst) := (by have := hTq2.b.1; rw [l3] at this; exact this); have hs2 := hTq2.below.size; have HTq2 := Lib.hid hTq2; clear hq2 hTq2)
          | (at_builtin; refine wpList_append_keepG (by rfl) _ _ 37 rfl w.heap.size 31 k0 _ 1 24 Tryz.underlying37 ki kz0 kz1 kz2 rfl (by decide) _ i' _ rfl ((ha2.alloc _).alloc _) _ 1 1 [.slice (some ⟨q2.heap.size, 0, none⟩) 2 2] rfl rfl (cells_add (cells_new_at (by simp) _ _ rfl _ _)) (by simp [Value.oneCell']) (by omega) (by unfold maxLen; omega) (by omega) (by simp; omega) ?_; intro v2 z2 hown2 hold2 hF2 hblk2; obtain ⟨hTz2, hV2⟩ := app3 [(i' : Int), -2] ⟨by simp, by simp, fun x hx => by simp only [List.mem_cons, List.not_mem_nil, or_false] at hx; omega⟩ HTq2.out l3 hF2 hold2 hown2; have HTw2 := Lib.hid hTz2; have HG3 := Lib.hid (gramV i' v2 z2 w.heap.size (i' + 1) (by omega) (by omega) hV2); clear hown2 hold2 hF2 hblk2 hTz2 hV2)
          | (go_at_call 18; (with_reducible refine HG3.out.mono ?_); rintro e p3 ⟨g3, rfl, hg3, hp3⟩; have HE3 := Lib.hid (tellsE g3 p3 hg3); have HP3 := Lib.hid hp3; clear hg3 hp3)
          | (go_at_call 3; (with_reducible refine HE3.out.mono ?_); rintro e q3 ⟨rfl, hq3⟩; have hTq3 := HTw2.out.still ((Fr.new HP3.out).trans (Fr.new hq3)); have HTw3 := Lib.hid hTq3; have HG4 := Lib.hid (gramV i' _ q3 w.heap.size (2 * i') (by omega) (by omega) ⟨_, hTq3.c, l4⟩); have HTq3 := Lib.hid hTq3; clear hq3 hTq3)
          | (go_at_call 18; (with_reducible refine HG4.out.mono ?_); rintro e p4 ⟨g4, rfl, hg4, hp4⟩; have HE4 := Lib.hid (tellsE g4 p4 hg4); have HP4 := Lib.hid hp4; clear hg4 hp4)
          | (go_at_call 3; (with_reducible refine HE4.out.mono ?_); rintro e q4 ⟨rfl, hq4⟩; have hTq4 := HTw3.out.still ((Fr.new HP4.out).trans (Fr.new hq4)); have ha4 : q4.ownsRow w.heap.size 31 1 (.slice a2 i' c2) i' (r2.map Prod.fst) := (by have := hTq4.a.1; rw [l2] at this; exact this); have hs4 := hTq4.below.size; have HTq4 := Lib.hid hTq4; clear hq4 hTq4)
          | (at_builtin; refine wpList_append_keepG (by rfl) _ _ 37 rfl w.heap.size 31 k0 _ 1 24 Tryz.underlying37 ki kz0 kz1 kz2 rfl (by decide) _ i' _ rfl ((ha4.alloc _).alloc _) _ 1 1 [.slice (some ⟨q4.heap.size, 0, none⟩) 2 2] rfl rfl (cells_add (cells_new_at (by simp) _ _ rfl _ _)) (by simp [Value.oneCell']) (by omega) (by unfold maxLen; omega) (by omega) (by simp; omega) ?_; intro v4 z4 hown4 hold4 hF4 hblk4; obtain ⟨hTz4, hV4⟩ := app2 [(i' : Int), 0] ⟨by simp, by simp, fun x hx => by simp only [List.mem_cons, List.not_mem_nil, or_false] at hx; omega⟩ HTq4.out l2 hF4 hold4 hown4; have HTw4 := Lib.hid hTz4; have HG5 := Lib.hid (gramV i' v4 z4 w.heap.size (i' + 1) (by omega) (by omega) hV4); clear hown4 hold4 hF4 hblk4 hTz4 hV4)
          | (go_at_call 18; (with_reducible refine HG5.out.mono ?_); rintro e p5 ⟨g5, rfl, hg5, hp5⟩; have HE5 := Lib.hid (tellsE g5 p5 hg5); have HP5 := Lib.hid hp5; clear hg5 hp5)
          | (go_at_call 3; (with_reducible refine HE5.out.mono ?_); rintro e q5 ⟨rfl, hq5⟩; have hTq5 := HTw4.out.still ((Fr.new HP5.out).trans (Fr.new hq5)); skip; have HTq5 := Lib.hid hTq5; clear hq5 hTq5))
          go_roundw
          case rel => exact ⟨m + 1, by omega, by have := HN.out; simp; omega, HTq5.out.below⟩
          case measure => simp [intOf]; omega
    · obtain rfl : m = 9 := by omega
      have HB := Lib.hid hB
      have HE1 := Lib.hid (tellsE _ wr (any_empty wr))
      clear hB hlt
      go_wp2_with (first
        | (go_at_call 3; (with_reducible refine HE1.out.mono ?_); rintro e q1 ⟨rfl, hq1⟩; have hB1 := HB.out.trans (hq1.mono HB.out.size); have HB1 := Lib.hid hB1; have HG2 := Lib.hid (gramNil q1); clear hq1 hB1)
        | (go_at_call 18; (with_reducible refine HG2.out.mono ?_); rintro e p2 ⟨g2, rfl, hg2, hp2⟩; have HE2 := Lib.hid (tellsE g2 p2 hg2); have hB2 := HB1.out.trans (hp2.mono HB1.out.size); have HB2 := Lib.hid hB2; clear hp2 hB2 hg2)
        | (go_at_call 3; (with_reducible refine HE2.out.mono ?_); rintro e q2 ⟨rfl, hq2⟩; have hB3 := HB2.out.trans (hq2.mono HB2.out.size); have HB3 := Lib.hid hB3; have HG3 := Lib.hid (gram0 q2); clear hq2 hB3)
        | (go_at_call 18; (with_reducible refine HG3.out.mono ?_); rintro e p3 ⟨g3, rfl, hg3, hp3⟩; have HE3 := Lib.hid (tellsE g3 p3 hg3); have hB4 := HB3.out.trans (hp3.mono HB3.out.size); have HB4 := Lib.hid hB4; clear hp3 hB4 hg3)
        | (go_at_call 3; (with_reducible refine HE3.out.mono ?_); rintro e q3 ⟨rfl, hq3⟩; have hB5 := HB4.out.trans (hq3.mono HB4.out.size); have HB5 := Lib.hid hB5; clear hq3 hB5)
        | (go_at_call 6; refine (awake_any _).mono ?_; rintro e q4 ⟨rfl, hq4⟩))
      go_ret
      exact ⟨rfl, HB5.out.trans (hq4.mono HB5.out.size)⟩
end Go.Proofs.YtiiceickjaeehaaGreat
