/-
  Chapter 06's statements: ScopeHides.
-/
import Derived.Test.YticdoccaabfjaaaSc24
namespace Go.Proofs.Yticdoccaabfjaaa
open Go.RowKit Go.MapKept Go.ChangeMaps
set_option maxHeartbeats 400000

set_option maxRecDepth 100000 in
set_option maxHeartbeats 8000000 in
theorem scopeHides_any (w : World) (vl vm vn : Value) (l m : List DoV) (names : List ByteArray) (hl : IsDos w w.heap.size vl l) (hm : IsDos w w.heap.size vm m) (hn : Texts w vn names) (hnl : names.length ≤ 17592186044416) :
    Calls Try.prog 4 #[vl, vm, vn] w fun e w' => e = .returned (.bool true) ∧ Below w.heap.size w w' := by
  obtain ⟨n0, hn0⟩ : ∃ n0, n0 = w.heap.size := ⟨_, rfl⟩
  rw [← hn0] at hl hm ⊢
  obtain ⟨hl0, la, lc, rfl, hlc, hlm, hlx⟩ := hl
  obtain ⟨hm0, ma, mc, rfl, hmc, hmm, hmx⟩ := hm
  have hN := hn
  obtain ⟨na, nc, rfl, hnc, hnm, _⟩ := hn
  have HA := Lib.hid (awake_any w)
  have HN0 := Lib.hid hn0
  have HL := Lib.hid hlx
  have HM := Lib.hid hmx
  have HN := Lib.hid hN
  have hlm' : lc ≤ 9223372036854775807 := hlm
  have hmm' : mc ≤ 9223372036854775807 := hmm
  have hnm' : nc ≤ 9223372036854775807 := hnm
  clear hlx hmx hN hn0 hlm hmm hnm
  obtain ⟨NN, hNN⟩ : ∃ NN, NN = names.length := ⟨_, rfl⟩
  rw [← hNN] at hnl hnc
  have HNN := Lib.hid hNN
  rw [← HNN.out]
  clear hNN
  go_enter Try.func4, Try.ntmps4
  by_cases h50 : (50 : Int) < NN
  · go_wp2_with (go_at_call 5; refine HA.out.mono ?_; rintro e w1 ⟨rfl, hb1⟩)
    go_ret
    exact ⟨rfl, by rw [HN0.out]; exact hb1⟩
  · go_upto_region 5 with (go_at_call 5; refine HA.out.mono ?_; rintro e w1 ⟨rfl, hb1⟩)
    go_upto_region 6 with (go_at_call 14; refine (sNew _).mono ?_; rintro e w2 ⟨rfl, hs2, hb2⟩)
    have hB2 : Below n0 w w2 := by
      rw [HN0.out]
      exact hb1.trans (hb2.mono hb1.size)
    obtain ⟨p, hp⟩ : ∃ p, p = w1.heap.size := ⟨_, rfl⟩
    rw [← hp] at hs2 ⊢
    have HO := Lib.hid (sOpen hs2.restrict ⟨by simp, by simp⟩)
    have HP := Lib.hid hp
    have hz1 : n0 ≤ w1.heap.size := by rw [HN0.out]; exact hb1.size
    clear hp
    go_upto_block 0 with (go_at_call 6; refine HO.out.mono ?_; rintro e w3 ⟨rfl, hs3, hf3⟩)
    have hF3 : ∀ g, grow (fun g => Rng p w2.heap.size g ∧ g < w2.heap.size) w2 w3 g → n0 ≤ g := fun g hg => by
      have := hB2.size
      rcases hg with hg | hg
      · have := hg.1.1
        have := HP.out
        omega
      · have := hb2.size
        omega
    have hB3 : Below n0 w w3 := hB2.trans (hf3.below (by rw [HN0.out]; exact hB2.size) fun g hg => by have := hg.1.1; have := HP.out; omega)
    have hs3' : Held w n0 p 1 w3 := ⟨⟨_, _, hs3, ⟨by simp, by simp⟩, hF3⟩, hB3⟩
    have HS3 := Lib.hid hs3'
    clear hs3' hB3 hs3 hF3 hf3 HO hs2 hb2 hB2 hb1 hz1
    go_cut [] (fun wx => Held w n0 p 202 wx)
    case first =>
      go_wp2_with fail
      go_loopw [8] (fun i wr => ∃ k : Nat, k ≤ l.length ∧ k ≤ 200 ∧ i = .int .i64 k ∧ Held w n0 p (k + 1) wr) (fun i _ => 200 - (intOf i).toNat)
      case atStart => exact ⟨0, by omega, by omega, rfl, HS3.out⟩
      case round =>
        obtain ⟨k, hk, hk2, rfl, hh⟩ := hrel
        have HH := Lib.hid hh
        clear hh
        by_cases hlt : k < l.length
        · by_cases hlt2 : (k : Int) < 200
          · obtain ⟨b, o, ki, nn, a', c', len, rfl, hop, hty, x0, x1, x2, x3, x4⟩ := IsDos.get HL.out hlt
            have hwn : n0 ≤ w.heap.size := by rw [HN0.out]; exact Nat.le_refl _
            have hfr : Fr (from_ n0) w wr := Fr.of_below HH.out.2
            have hbl := World.block_lt_of_cell? w _ x0
            have hbn : ¬ from_ n0 b := fun e => by have e' : n0 ≤ b := e; have := HN0.out; simp only at hbl; omega
            have y0 := hfr.cell x0 hbn
            have y1 := hfr.cell x1 hbn
            have y2 := hfr.cell x2 hbn
            have y3 := hfr.cell x3 hbn
            have y4 := hfr.cell x4 hbn
            have hty' : IsTy wr (fun g => g < n0) l[k].t (.agg #[.int .u8 ki, .string nn, .slice a' len c']) := hty.keep hfr fun g hg e => by have e' : n0 ≤ g := e; omega
            have HTY := Lib.hid hty'
            have HOP := Lib.hid hop
            have hT := Lib.hid (typesOf_at hty' 50)
            generalize l[k].op = op at y0 HOP
            generalize l[k].s = s at y1
            generalize l[k].t = t at HTY hT
            clear x0 x1 x2 x3 x4 hty hty' hop hfr hbl hbn
            go_wp2_with (first | (go_at_call 15; refine hT.out.mono ?_; rintro e w4 ⟨⟨z, rfl⟩, hb4⟩; have f4 := Fr.new hb4; have z0 := f4.cell y0 (fun e => e); have z1 := f4.cell y1 (fun e => e); have z2 := f4.cell y2 (fun e => e); have z3 := f4.cell y3 (fun e => e); have z4 := f4.cell y4 (fun e => e); have HD4 := Lib.hid (held_do (HH.out.new hb4 hwn) hwn (by omega) HOP.out s (HTY.out.new f4)); clear f4) | (go_at_call 16; refine HD4.out.mono ?_; rintro e w5 ⟨⟨z5, rfl⟩, h5⟩))
            · go_ret
              exact ⟨rfl, (HH.out.new hb4 hwn).2⟩
            · have H5 := Lib.hid h5
              clear h5
              go_roundw
              case rel => exact ⟨k + 1, by omega, by omega, by simp, H5.out⟩
              case measure => simp [intOf]; omega
          · go_wp2_with fail
            go_meet
            exact HH.out.mono (by omega)
        · go_wp2_with fail
          go_meet
          exact HH.out.mono (by omega)
    case rest =>
    have HC := Lib.hid hcut
    clear hcut HS3
    obtain ⟨⟨σ, F, hsc, hfit, hF⟩, hB⟩ := HC.out
    have hwn : n0 ≤ w.heap.size := by rw [HN0.out]; exact Nat.le_refl _
    have HDP := Lib.hid (sDeep hsc)
    have HOP := Lib.hid (sOpen hsc.restrict (hfit.fit (by omega)))
    have HR := Lib.hid (And.intro hfit (And.intro hF hB))
    clear hsc hfit hF hB
    go_upto_if 58 with (go_at_call 10; refine HDP.out.mono ?_; rintro e w' ⟨rfl, rfl⟩)
    go_cut [] (fun wx => Held w n0 p 203 wx)
    case first =>
      by_cases h0 : σ.length = 0
      · have ht : ((σ.length : Int) == 0) = true := by simp [h0]
        go_wp2_with (go_at_call 6; refine HOP.out.mono ?_; rintro e w5 ⟨rfl, hs5, hf5⟩)
        go_meet
        obtain ⟨hfit, hF, hB⟩ := HR.out
        have hfs : FitN (σ ++ [[]]) 203 := fitN_snoc (by have : σ.length ≤ 202 := hfit.1; omega) (fun l hl => (hfit.mono (Nat.le_succ _)).2 l hl) (by simp)
        refine ⟨⟨_, _, hs5, hfs, fun g hg => ?_⟩, hB.trans (hf5.below (Nat.le_trans hwn hB.size) fun g hg => hF g hg.1)⟩
        rcases hg with hg | hg
        · exact hF g hg.1
        · have := hB.size
          omega
      · have ht : ((σ.length : Int) == 0) = false := by rw [beq_eq_false_iff_ne]; omega
        go_wp2_with fail
        go_meet
        exact HC.out.mono (by omega)
    case rest =>
    have HC2 := Lib.hid hcut
    clear hcut HC HDP HOP HR σ F
    obtain ⟨⟨σ0, F, hsc, hfit, hF⟩, hB⟩ := HC2.out
    have hNT : Texts wc (.slice na NN nc) names := by
      have := HN.out
      rw [← HNN.out] at this
      obtain ⟨a, c, e, q1, q2, q3⟩ := this
      refine ⟨a, c, e, q1, q2, q3.imp id fun ⟨b, o, e2, hc⟩ => ⟨b, o, e2, ?_⟩⟩
      intro i hi
      have hbl := World.block_lt_of_cell? w _ (hc i hi)
      exact (hB.cell (p := ⟨b, o + i, none⟩) (by rw [HN0.out]; exact hbl)).trans (hc i hi)
    have hnF : names ≠ [] → ∀ b o, (∃ n c, Value.slice na NN nc = .slice (some ⟨b, o, none⟩) n c) → ¬ (F b ∧ b < wc.heap.size) := by
      rintro hne b o ⟨n, c, e⟩ ⟨hb, _⟩
      have := HN.out
      rw [← HNN.out] at this
      obtain ⟨a, c', e', q1, q2, q3⟩ := this
      simp only [Value.slice.injEq] at e e'
      obtain ⟨rfl, -⟩ := e
      rcases q3 with q3 | ⟨b', o', e2, hc⟩
      · exact hne q3
      · rw [← e'.1] at e2
        simp only [Option.some.injEq, Addr.mk.injEq] at e2
        obtain ⟨rfl, -⟩ := e2
        have hbl := World.block_lt_of_cell? w _ (hc 0 (by simp [strs]; exact List.length_pos_iff.2 hne))
        have := hF b hb
        rw [HN0.out] at this
        simp only at hbl
        omega
    have HLK := Lib.hid (looked_any hsc.restrict (fun g hg => hg.2) (.slice na NN nc) names hNT hnF (by rw [← HNN.out]; omega))
    have HR := Lib.hid (And.intro hfit (And.intro hF hB))
    have hwc : n0 ≤ wc.heap.size := Nat.le_trans hwn hB.size
    clear hsc hfit hF hB hNT hnF HC2
    go_upto_region 16 with (go_at_call 17; refine HLK.out.mono ?_; rintro e w6 ⟨⟨r, rfl, hty6⟩, hs6, hf6⟩)
    obtain ⟨ra, rc, rfl⟩ : ∃ ra rc, r = .slice ra (names.map (standS σ0)).length rc := by
      obtain ⟨vs, h1, _⟩ := hty6
      obtain ⟨a, c, e, _⟩ := own_cells h1
      exact ⟨a, c, e⟩
    have hln : (names.map (standS σ0)).length = NN := by rw [List.length_map, ← HNN.out]
    rw [hln] at hty6 ⊢
    have HLN := Lib.hid hln
    have HDP := Lib.hid (sDeep hs6)
    have HOP := Lib.hid (sOpen hs6 (HR.out.1.fit (by omega)))
    have HTY := Lib.hid hty6
    have HF6 := Lib.hid hf6
    have hz6 := hf6.size
    clear hln hty6 hf6 hs6
    go_upto_region 18 with (first | (go_at_call 10; refine HDP.out.mono ?_; rintro e w' ⟨rfl, rfl⟩) | (go_at_call 6; refine HOP.out.mono ?_; rintro e w7 ⟨rfl, hs7, hf7⟩))
    have hmm2 := @run_makeMap Try.prog
    have HS7 := Lib.hid hs7
    have HF7 := Lib.hid hf7
    have hz7 := hf7.size
    clear hs7 hf7 HDP HOP HLK
    go_upto_block 2 with fail
    obtain ⟨ub, hub⟩ : ∃ ub, ub = w7.heap.size := ⟨_, rfl⟩
    obtain ⟨w8, hw8⟩ : ∃ w8, w8 = w7.alloc (.map #[] 0) := ⟨_, rfl⟩
    have hf8 : Fr nothing w7 w8 := by rw [hw8]; exact Fr.alloc _ _
    have hmap : MapIs w8 .string ub (fun _ => none) := by rw [hw8, hub]; exact mapIs_new w7 _
    have hz8 : w8.heap.size = ub + 1 := by rw [hw8, hub]; simp
    have hlay : Lay w n0 ub (ub + 1) (Rng wc.heap.size w6.heap.size) := ⟨hwn, by omega, by omega, fun g hg => by have := hg.2; omega, by omega, fun e => by have := e.2; omega⟩
    have hF67 : ∀ g, F g ∧ g < wc.heap.size → ¬ Rng wc.heap.size w6.heap.size g := fun g hg e => by have := hg.2; have := e.1; omega
    have hst : St2 w n0 p ub (ub + 1) (Rng wc.heap.size w6.heap.size) (.slice ra NN rc) (names.map (standS σ0)) σ0 204 [] [] [] none (grow (fun g => F g ∧ g < wc.heap.size) w6 w7) (.slice none 0 0) w8 := by
      obtain ⟨hfit, hF, hB⟩ := HR.out
      refine ⟨⟨σ0, [], _, ?_, rfl, ?_, fun g hg => ⟨?_, ?_, (fun e => by cases e), ?_⟩, fun g hg => ?_, ⟨hmap, World.ownsRow_nil _ _ _ _, ?_⟩, fun x hx => by simp at hx, rfl⟩, ?_, by omega⟩
      · rw [List.append_nil]
        exact HS7.out.new hf8
      · rw [List.append_nil]
        exact fitN_snoc (by have : σ0.length ≤ 203 := hfit.1; omega) (fun l hl => (hfit.mono (Nat.le_succ _)).2 l hl) (by simp)
      · rcases hg with hg | hg
        · exact hF g hg.1
        · omega
      · rcases hg with hg | hg
        · have := hg.2; omega
        · have := hg.2; omega
      · rcases hg with hg | hg
        · exact hF67 g hg
        · intro e
          have := e.2
          omega
      · rcases hg with hg | hg
        · have := hg.2; omega
        · have := hg.2; omega
      · exact ((HTY.out.keep HF7.out fun g hg e => hF67 g e hg).keep (ch := nothing) hf8 fun _ _ e => e)
      · refine (hB.trans (HF6.out.below hwc fun g hg => hF g hg.1)).trans ((HF7.out.below (by omega) fun g hg => hF g hg.1).trans (hf8.below (by omega) fun g e => e.elim))
    rw [← hub, ← hw8]
    have HST := Lib.hid hst
    have HLAY := Lib.hid hlay
    clear hst hlay hmap hF67 hf8 hub hw8 hz8 HS7 HF7 HTY HF6 HR hmm2 hz6 hz7
    obtain ⟨S6, hS6⟩ : ∃ S6, S6 = Rng wc.heap.size w6.heap.size := ⟨_, rfl⟩
    obtain ⟨B, hBB⟩ : ∃ B, B = ub + 1 := ⟨_, rfl⟩
    obtain ⟨r, hr⟩ : ∃ r, r = Value.slice ra NN rc := ⟨_, rfl⟩
    obtain ⟨ts, hts⟩ : ∃ ts, ts = names.map (standS σ0) := ⟨_, rfl⟩
    rw [← hS6, ← hBB, ← hr, ← hts] at HST
    rw [← hS6, ← hBB] at HLAY
    have HDEF := Lib.hid (And.intro hr hts)
    clear hS6 hBB hr hts hwc
    go_cut [12] (fun v wx => ∃ rn F', St2 w n0 p ub B S6 r ts σ0 405 [] rn rn none F' v wx)
    case first =>
      go_wp2_with fail
      go_loopw [12, 13] (fun v i wr => ∃ (k : Nat) (rn : List ByteArray) (F' : Nat → Prop), k ≤ m.length ∧ k ≤ 200 ∧ i = .int .i64 k ∧ St2 w n0 p ub B S6 r ts σ0 (204 + k) [] rn rn none F' v wr) (fun _ i _ => 200 - (intOf i).toNat)
      case atStart => exact ⟨0, _, _, by omega, by omega, rfl, HST.out⟩
      case round =>
        obtain ⟨k, rn, F', hk, hk2, rfl, hh⟩ := hrel
        have HH := Lib.hid hh
        clear hh
        by_cases hlt : k < m.length
        · by_cases hlt2 : (k : Int) < 200
          · obtain ⟨b, o, ki, nn, a', c', len, rfl, hop, hty, x0, x1, x2, x3, x4⟩ := IsDos.get HM.out hlt
            have hfr : Fr (from_ n0) w wr := Fr.of_below HH.out.below
            have hbl := World.block_lt_of_cell? w _ x0
            have hbn : ¬ from_ n0 b := fun e => by have e' : n0 ≤ b := e; have := HN0.out; simp only at hbl; omega
            have y0 := hfr.cell x0 hbn
            have y1 := hfr.cell x1 hbn
            have y2 := hfr.cell x2 hbn
            have y3 := hfr.cell x3 hbn
            have y4 := hfr.cell x4 hbn
            have hty' : IsTy wr (fun g => g < n0) m[k].t (.agg #[.int .u8 ki, .string nn, .slice a' len c']) := hty.keep hfr fun g hg e => by have e' : n0 ≤ g := e; omega
            have HTY := Lib.hid hty'
            have HOP := Lib.hid hop
            have hT := Lib.hid (typesOf_at hty' 50)
            generalize m[k].op = op at y0 HOP
            generalize m[k].s = s at y1
            generalize m[k].t = t at HTY hT
            clear x0 x1 x2 x3 x4 hty hty' hop hfr hbl hbn
            go_upto_region 26 with (go_at_call 15; refine hT.out.mono ?_; rintro e w4 ⟨⟨z, rfl⟩, hb4⟩; have f4 := Fr.new hb4; have z0 := f4.cell y0 (fun e => e); have z1 := f4.cell y1 (fun e => e); have z2 := f4.cell y2 (fun e => e); have z3 := f4.cell y3 (fun e => e); have z4 := f4.cell y4 (fun e => e); have H4 := Lib.hid (HH.out.new HLAY.out hb4); have HTY4 := Lib.hid (HTY.out.new f4); clear f4)
            · go_wp2_with fail
              go_ret
              exact ⟨rfl, H4.out.below⟩
            · obtain ⟨xb, hxb⟩ : ∃ xb, xb = w4.heap.size := ⟨_, rfl⟩
              obtain ⟨w5, hw5⟩ : ∃ w5, w5 = w4.alloc (.cells #[.int .i64 op, .string s, .int .u8 ki, .string nn, .slice a' len c'] 49 (0, 0)) := ⟨_, rfl⟩
              have hf5 : Fr nothing w4 w5 := by rw [hw5]; exact Fr.alloc _ _
              have hx5 : w5.heap[xb]? = some (.cells #[.int .i64 op, .string s, .int .u8 ki, .string nn, .slice a' len c'] 49 (0, 0)) := by rw [hw5, hxb]; exact alloc_obj w4 _
              have hnx : ¬ F' xb := fun e => by have := H4.out.lt xb e; omega
              have H5 := Lib.hid (H4.out.new HLAY.out hf5.below_new)
              have HTY5 := Lib.hid (HTY4.out.new hf5)
              have HX5 := Lib.hid hx5
              have HP5 := Lib.hid (pick_any op 8 (by omega) (by omega) w5 HOP.out)
              rw [← hxb, ← hw5]
              have e0 := obj_cell hx5 0 rfl
              have e1 := obj_cell hx5 1 rfl
              have e2 := obj_cell hx5 2 rfl
              have e3 := obj_cell hx5 3 rfl
              have e4 := obj_cell hx5 4 rfl
              clear hxb hw5 hf5 hx5 z0 z1 z2 z3 z4 y0 y1 y2 y3 y4 hT hb4 H4 HTY4 HTY
              have hlt8 := pickN_lt 8 op (by omega)
              by_cases hq : pickN 8 op ≤ 2
              · generalize pickN 8 op = q at HP5 hq hlt8
                have hq' : q = 0 ∨ q = 1 ∨ q = 2 := by omega
                have HO := Lib.hid (st2_open HLAY.out H5.out (by omega))
                clear hq hlt8
                rcases hq' with rfl | rfl | rfl
                all_goals
                  go_upto_region 29 with (first | (go_at_call 18; refine HP5.out.mono ?_; rintro e w' ⟨rfl, rfl⟩) | (go_at_call 6; refine HO.out.mono ?_; rintro e wa ⟨rfl, Fa, hsa, h6⟩))
                  obtain ⟨hxa, hna⟩ := hsa.box HX5.out hnx
                  have b1 := obj_cell hxa 1 rfl
                  have b2 := obj_cell hxa 2 rfl
                  have b3 := obj_cell hxa 3 rfl
                  have b4 := obj_cell hxa 4 rfl
                  have HDa := Lib.hid (st2_decl HLAY.out h6 (by omega) s (HTY5.out.keep hsa.2 fun g hg e => by have := H5.out.ge g e; omega))
                  have HXa := Lib.hid hxa
                  clear e0 e1 e2 e3 e4 hsa h6 hxa
                  go_upto_region 30 with (go_at_call 12; refine HDa.out.mono ?_; rintro e wb ⟨rfl, Fb, hsb, h7⟩)
                  obtain ⟨hxb, hnb⟩ := hsb.box HXa.out hna
                  have d1 := obj_cell hxb 1 rfl
                  have HUb := Lib.hid (st2_use HLAY.out s t h7)
                  clear b1 b2 b3 b4 hsb h7 hxb
                  go_upto_region 31 with (go_at_call 9; refine HUb.out.mono ?_; rintro e wc2 ⟨⟨x, rfl⟩, Fc, hsc, h8⟩)
                  have HCc := Lib.hid (st2_close HLAY.out s t h8 (by omega))
                  clear d1 hsc h8
                  go_wp2_with (go_at_call 7; refine HCc.out.mono ?_; rintro e wd ⟨⟨a9, c9, rfl⟩, Fd, hsd, h9⟩)
                  have H9 := Lib.hid h9
                  clear hsd h9
                  go_roundw
                  case rel => exact ⟨k + 1, rn, Fd, by omega, by omega, by simp, H9.out⟩
                  case measure => simp [intOf]; omega
              · have HD5 := Lib.hid (st2_do HLAY.out H5.out (by omega) HOP.out (by omega) s HTY5.out)
                generalize pickN 8 op = q at HP5 hq hlt8 HD5
                have hq' : q = 3 ∨ q = 4 ∨ q = 5 ∨ q = 6 ∨ q = 7 := by omega
                clear hq hlt8
                rcases hq' with rfl | rfl | rfl | rfl | rfl
                all_goals
                  go_upto_region 35 with (first | (go_at_call 18; refine HP5.out.mono ?_; rintro e w' ⟨rfl, rfl⟩) | (go_at_call 16; refine HD5.out.mono ?_; rintro e wa ⟨z, iN', hole, Fa, rfl, hans, hsa, h6⟩))
                  obtain ⟨hxa, hna⟩ := hsa.box HX5.out hnx
                  have b1 := obj_cell hxa 1 rfl
                  have HXA := Lib.hid hxa
                  clear e0 e1 e2 e3 e4 hsa hxa
                  have H6 := Lib.hid h6
                  clear h6
                  rcases hans with ⟨hk3⟩ | ⟨hk3⟩ | ⟨hk3⟩ | ⟨hk3⟩
                all_goals first
                  | (exfalso; omega)
                  | (clear hk3
                     obtain ⟨w7', hrun, hfm, h8⟩ := st2_mark HLAY.out H6.out
                     go_wp2
                     have H8 := Lib.hid h8
                     clear h8 hrun hfm
                     go_roundw
                     case rel => exact ⟨k + 1, rn, Fa, by omega, by omega, by simp, H8.out⟩
                     case measure => simp [intOf]; omega)
                  | (clear hk3
                     go_wp2
                     go_roundw
                     case rel => exact ⟨k + 1, rn, Fa, by omega, by omega, by simp, H6.out⟩
                     case measure => simp [intOf]; omega)
                  | skip
                all_goals
                  clear hk3
                  have hrow := H6.out.row
                  have hlen : (rn ++ [s]).length ≤ 204 + k + 1 := H6.out.iNle
                  rw [List.length_append, List.length_singleton] at hlen
                  have hBa := H6.out.hB
                  obtain ⟨i0, hi, hz0, hz1, hz2⟩ := info_parts Try.infoStr
                  go_upto_region 37 with (at_builtin; refine wpList_append_keep rfl _ _ 30 rfl B 9 i0 _ 1 16 Try.underlying30 hi hz0 hz1 hz2 rfl (by decide) u12 rn.length (strs rn) rfl (hrow.alloc _) ⟨wa.heap.size, 0, none⟩ 1 1 [.string s] rfl rfl (cells_add (cells_new' _ _ _ rfl _ _ _ rfl)) (by simp [Value.oneCell']) (by decide) (by unfold maxLen; omega) (by omega) (by simp; omega) ?_; intro v2 w9 hown2 hold2 hgrow2 hsame2)
                  have hf9 : Fr nothing wa (wa.alloc (.cells #[.string s] 9 (0, 0))) := Fr.alloc _ _
                  have hx9 := (hf9.wide.trans hgrow2).obj HXA.out (own_ne hrow HXA.out (by decide))
                  have c1 := obj_cell hx9 1 rfl
                  have hv2 : ∀ g, v2.ownBlock = some g → u12.ownBlock = some g ∨ wa.heap.size ≤ g := by
                    intro g hg
                    rcases hsame2 with ⟨g', c', e1, e2⟩ | h
                    · rw [e2] at hg
                      rw [e1]
                      exact .inl hg
                    · have := h g hg
                      simp at this
                      exact .inr (by omega)
                  obtain ⟨w10, hrun, hfm, h10⟩ := st2_mark HLAY.out (st2_app HLAY.out H6.out hf9 hown2 hgrow2 hv2)
                  have H10 := Lib.hid h10
                  clear h10 hfm hv2 hx9 hf9 hown2 hold2 hgrow2 hsame2 hrow b1
                  go_wp2
                  go_roundw
                  case rel => exact ⟨k + 1, rn ++ [s], Fa, by omega, by omega, by simp, H10.out⟩
                  case measure => simp [intOf]; omega
          · go_wp2_with fail
            go_meet
            exact ⟨rn, F', HH.out.mono (by omega)⟩
        · go_wp2_with fail
          go_meet
          exact ⟨rn, F', HH.out.mono (by omega)⟩
    case rest =>
    obtain ⟨rn, F9, hh⟩ := hcut
    have hrow := hh.row
    obtain ⟨va, vc, rfl, hvc, hvm, -⟩ := own_cells hrow
    have hlen := hh.iNle
    have HCL := Lib.hid (st2_last HLAY.out hh (by omega))
    have hvm' : vc ≤ 9223372036854775807 := hvm
    clear hh hrow hvm HST
    go_upto_region 41 with (go_at_call 7; refine HCL.out.mono ?_; rintro e w9 ⟨qa, qn, qc, σ, inner, f, rfl, h4⟩)
    have hvl : ∀ k, k < rn.length → ∃ g, va = some ⟨g, 0, none⟩ ∧ Cells w9 g 0 (strs rn) := by
      intro k hk
      obtain ⟨a, c, e, _, _, q⟩ := own_cells h4.side.row
      simp only [Value.slice.injEq] at e
      obtain ⟨rfl, -⟩ := e
      rcases q with q | ⟨g, e, _, hc⟩
      · have : rn.length = 0 := by have := congrArg List.length q; simpa [strs] using this
        omega
      · exact ⟨g, e, hc⟩
    have hin : inner.length = rn.length := by rw [← h4.names, List.length_map]
    obtain ⟨i0, hi, hz0, hz1, hz2⟩ := info_parts Try.infoStr
    have HVL := Lib.hid hvl
    have HIN := Lib.hid hin
    have H4 := Lib.hid h4
    clear hvl hin h4 HCL
    go_wp2_with fail
    go_loopw [21, 22] (fun v i wr => ∃ k : Nat, k ≤ rn.length ∧ i = .int .i64 k ∧ wr.ownsRow w9.heap.size 9 1 v (wantTo inner k).length (strs (wantTo inner k)) ∧ Below w9.heap.size w9 wr) (fun _ i _ => rn.length - (intOf i).toNat)
    case atStart => exact ⟨0, by omega, rfl, World.ownsRow_nil _ _ _ _, Below.refl _ _⟩
    case round =>
      obtain ⟨k, hk, rfl, hown, hB⟩ := hrel
      have HBB := Lib.hid hB
      by_cases hlt : k < rn.length
      · have hki : k < inner.length := by rw [HIN.out]; exact hlt
        obtain ⟨g, rfl, hc⟩ := HVL.out k hlt
        have hs : rn[k] = inner[k].s := by
          have := H4.out.names
          simp only [← this, List.getElem_map]
        have hck := (Fr.new hB).cell (hc k (by simpa [strs] using hlt)) fun e => e
        simp only [strs, List.getElem_map, hs, Nat.zero_add] at hck
        have hlk := flag_look (H4.out.side.map.fr (Fr.new hB) fun e => e) (H4.out.flags _ (List.getElem_mem hki))
        have hnx := wantTo_next hki
        have hle := wantTo_le inner k
        generalize inner[k].s = s at hck hlk hnx
        generalize inner[k].used = u at hlk hnx
        have HNX := Lib.hid hnx
        have HOW := Lib.hid hown
        clear hc hs hnx hB
        cases u with
        | true =>
          go_wp2_with fail
          go_roundw
          case rel => exact ⟨k + 1, by omega, by simp, by rw [HNX.out]; exact HOW.out, HBB.out⟩
          case measure => simp [intOf]; omega
        | false =>
          generalize wantTo inner k = ys at hle hown HNX HOW
          go_wp2_with (at_builtin; refine wpList_append_keep rfl _ _ 30 rfl w9.heap.size 9 i0 _ 1 16 Try.underlying30 hi hz0 hz1 hz2 rfl (by decide) u21 ys.length (strs ys) rfl (hown.alloc _) ⟨wr.heap.size, 0, none⟩ 1 1 [.string s] rfl rfl (cells_add (cells_new' _ _ _ rfl _ _ _ rfl)) (by simp [Value.oneCell']) (by decide) (by unfold maxLen; omega) (by omega) (by have := HBB.out.size; simp; omega) ?_; intro v2 w10 hown2 hold2 hgrow2 hsame2)
          have hb10 : Below w9.heap.size w9 w10 := (HBB.out.alloc HBB.out.size _).trans (hgrow2.below (by have := HBB.out.size; simp; omega) fun g hg => (HOW.out.lt g hg).1)
          have HB10 := Lib.hid hb10
          have HO2 := Lib.hid hown2
          clear hb10 hown2 hold2 hgrow2 hsame2
          go_roundw
          case rel => exact ⟨k + 1, by omega, by simp, by rw [HNX.out]; simpa [strs] using HO2.out, HB10.out⟩
          case measure => simp [intOf]; omega
      · obtain rfl : k = rn.length := by omega
        clear hlt
        have hwant : wantTo inner rn.length = unusedS inner := wantTo_all _ (by rw [HIN.out]; exact Nat.le_refl _)
        rw [hwant] at hown
        have hfr := Fr.new hB
        have HST := Lib.hid (sameTexts_any _ _ (unusedS inner) wr (H4.out.left.fr hfr) (own_texts hown))
        have hdp := sDeep (H4.out.sc.new hfr)
        rw [tysS_len H4.out.ty] at hdp
        have HDP := Lib.hid hdp
        have hB9 : Below n0 w w9 := H4.out.below
        have hz9 : n0 ≤ w9.heap.size := Nat.le_trans hwn hB9.size
        have HLK := Lib.hid fun (W : World) (hW : Fr nothing w9 W) => looked_any (H4.out.sc.new hW) (fun g hg => Nat.lt_of_lt_of_le (H4.out.lt g hg) hW.size) (.slice na NN nc) names
          (by
            have hBw : Below w.heap.size w W := by rw [← HN0.out]; exact hB9.trans (hW.below hz9 fun g e => e.elim)
            have := HN.out.fr (Fr.new hBw)
            rw [← HNN.out] at this
            exact this)
          (by
            rintro hne b o ⟨n, c, e⟩ hb
            have := HN.out
            rw [← HNN.out] at this
            obtain ⟨a, c', e', q1, q2, q3⟩ := this
            simp only [Value.slice.injEq] at e e'
            obtain ⟨rfl, -⟩ := e
            rcases q3 with q3 | ⟨b', o', e2, hc⟩
            · exact hne q3
            · rw [← e'.1] at e2
              simp only [Option.some.injEq, Addr.mk.injEq] at e2
              obtain ⟨rfl, -⟩ := e2
              have hbl := World.block_lt_of_cell? w _ (hc 0 (by simp [strs]; exact List.length_pos_iff.2 hne))
              have := (H4.out.off b hb).1
              rw [HN0.out] at this
              simp only at hbl
              omega) (by rw [← HNN.out]; omega)
        clear hwant hown hfr hdp hB
        go_upto_region 49 with (first | (go_at_call 10; refine HDP.out.mono ?_; rintro e w' ⟨rfl, rfl⟩) | (go_at_call 19; refine HST.out.mono ?_; rintro e w11 ⟨rfl, n11, rfl⟩))
        have hf11 : Fr nothing w9 (wr.drewN n11) := (Fr.new HBB.out).trans (Fr.drewN _ _)
        have HL11 := Lib.hid (HLK.out _ hf11)
        have HF11 := Lib.hid hf11
        clear hf11 HLK HDP HST
        go_upto_region 50 with (go_at_call 17; refine HL11.out.mono ?_; rintro e w12 ⟨⟨r2, rfl, hty2⟩, hs12, hf12⟩)
        have hts : names.map (standS σ) = ts := by rw [HDEF.out.2, standS_tysS H4.out.ty]
        rw [hts] at hty2
        have htl : NN = ts.length := by rw [HDEF.out.2]; exact HLN.out.symm
        obtain ⟨ra2, rc2, rfl⟩ : ∃ ra2 rc2, r2 = .slice ra2 NN rc2 := by
          obtain ⟨vs, h1, _⟩ := hty2
          obtain ⟨a, c, e, _⟩ := own_cells h1
          exact ⟨a, c, by rw [e, htl]⟩
        have hty1 : TyRow w12 S6 (.slice ra NN rc) ts := by
          have h1 := H4.out.side.ty
          rw [HDEF.out.1] at h1
          exact (h1.keep HF11.out fun _ _ e => e).keep hf12 fun g hg e => (H4.out.off g e).2.2.2 hg
        obtain ⟨vs1, b1, o1, p1, p2, p3, p4, p5⟩ := hty1.cells htl
        obtain ⟨vs2, b2, o2, q1, q2, q3, q4, q5⟩ := hty2.cells htl
        have HP := Lib.hid (And.intro p3 (And.intro q3 (And.intro p4 (And.intro q4 (And.intro p5 q5)))))
        have hz9' : n0 ≤ w9.heap.size := hz9
        have hBl : Below n0 w w12 := (hB9.trans (HF11.out.below hz9 fun g e => e.elim)).trans (hf12.below (Nat.le_trans hz9 HF11.out.size) fun g hg => (H4.out.off g hg).1)
        have hz12 : n0 ≤ w12.heap.size := Nat.le_trans hwn hBl.size
        have HBL := Lib.hid hBl
        have HTL := Lib.hid htl
        have hrc : rc ≤ 9223372036854775807 := p2
        have hrc2 : rc2 ≤ 9223372036854775807 := q2
        clear hts hty1 hty2 p2 q2 p3 q3 p4 q4 p5 q5 hf12 hs12 hBl HL11 htl hB9 hz9 hz9'
        go_wp2_with fail
        obtain ⟨wA, rfl⟩ : ∃ wA : World, wA = wr := ⟨_, rfl⟩
        go_loopw [24] (fun i wx => ∃ k : Nat, k ≤ NN ∧ i = .int .i64 k ∧ Below w12.heap.size w12 wx) (fun i _ => NN - (intOf i).toNat)
        case atStart => exact ⟨0, by omega, rfl, Below.refl _ _⟩
        case round =>
          obtain ⟨j, hj, rfl, hBx⟩ := hrel
          have hne := after_ne wr
          by_cases hlt : j < NN
          · obtain ⟨p3, q3, p4, q4, p5, q5⟩ := HP.out
            obtain rfl := p3.resolve_left (by omega)
            obtain rfl := q3.resolve_left (by omega)
            have hjt : j < ts.length := by rw [← HTL.out]; exact hlt
            have hc1 := p4 j hlt
            have hc2 := q4 j hlt
            have ht1 := p5 j hjt
            have ht2 := q5 j hjt
            obtain ⟨k1, n1, a1, l1, c1, e1, _⟩ := ht1.parts
            obtain ⟨k2, n2, a2, l2, c2, e2, _⟩ := ht2.parts
            rw [e1] at hc1 ht1
            rw [e2] at hc2 ht2
            rw [tyCells_agg] at hc1 hc2
            have x0 := after_cell ((Fr.new hBx).cell (hc1 0 (by simp)) fun e => e)
            have x1 := after_cell ((Fr.new hBx).cell (hc1 1 (by simp)) fun e => e)
            have x2 := after_cell ((Fr.new hBx).cell (hc1 2 (by simp)) fun e => e)
            have y0 := after_cell ((Fr.new hBx).cell (hc2 0 (by simp)) fun e => e)
            have y1 := after_cell ((Fr.new hBx).cell (hc2 1 (by simp)) fun e => e)
            have y2 := after_cell ((Fr.new hBx).cell (hc2 2 (by simp)) fun e => e)
            simp only [List.getElem_cons_zero, List.getElem_cons_succ, Nat.add_zero] at x0 x1 x2 y0 y1 y2
            have hm := fun p : After wr => after_call p (sameType_any ht1 w12 _ _ ht2 p.w ((Fr.new hBx).trans (Fr.new p.ok)) ((Fr.new hBx).trans (Fr.new p.ok)))
            have HM' := Lib.hid hm
            have HBX := Lib.hid hBx
            have hl1 : j < rc := by omega
            have hl2 : j < rc2 := by omega
            clear hBx hc1 hc2 ht1 ht2 hm p3 q3 p4 q4 p5 q5 e1 e2
            go_wp2_with fail
            refine wp_region_after wr (by kernel_rfl) (by kernel_rfl) (Below.refl _ _) ?_
            repeat (go_big_quiet_step (exact HM'.out _))
            refine wpQuiet_nil ?_
            intro _ hw'
            obtain ⟨q, hw''⟩ := hw'
            subst hw''
            go_wp2
            go_roundw
            case rel => exact ⟨j + 1, by omega, by simp, HBX.out.trans (q.ok.mono HBX.out.size)⟩
            case measure => simp [intOf]; omega
          · obtain rfl : j = NN := by omega
            clear hlt
            go_wp2
            go_ret
            exact ⟨rfl, HBL.out.trans (hBx.mono hz12)⟩
end Go.Proofs.Yticdoccaabfjaaa
