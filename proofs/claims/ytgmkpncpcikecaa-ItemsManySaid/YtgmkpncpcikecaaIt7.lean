/-
  Package items: over.
-/
import Derived.Test.YtgmkpncpcikecaaIt6
import Derived.Test.YtgmkpncpcikecaaFacts
namespace Go.Proofs.Ytgmkpncpcikecaa
open Go.RowKit Go.MapKept Go.ChangeMaps
set_option maxHeartbeats 400000

theorem wp_at {P : Program} {c : Code} {Q : Exit → Act → World → Prop} {a : Act} {w : World} (F : World → Prop) (hF : F w) (h : ∀ W, F W → c.wp P Q a W) : c.wp P Q a w := h w hF
theorem one_news {w : World} {b : Nat} {x : Value} {t : TypeId} {f : Nat × Nat} (h : w.heap[b]? = some (.cells #[x] t f)) : ∀ j u, [x][j]? = some u → w.cell? ((⟨b, 0, none⟩ : Addr).add j) = some u := fun j u hj => by
  cases j with
  | zero =>
    simp only [List.getElem?_cons_zero, Option.some.injEq] at hj
    subst hj
    exact obj_cell h 0 rfl
  | succ j => simp at hj
theorem Try.infoIntI : (Try.prog.info? 3).map (fun i => (i.zero, i.size, i.bytes)) = some (some (.int .i64 0), 1, 8) := by kernel_rfl
theorem zInts (w : World) : (zeroValue 46).run Try.prog w = .ok (.slice none 0 0) w := by kernel_rfl

/-- What over answers. -/
def OverP (G : Gram) (w : World) (e : Ending) (w' : World) : Prop := ∃ bp mb vs vp f, e = .returned (.pointer (some ⟨bp, 0, none⟩)) ∧ IsBld w' bp mb vs vp G ∧ GrpM w' w.heap.size 3 1 mb f (ownL G G.prods.length) ∧ w.heap.size ≤ bp ∧ Below w.heap.size w w'
set_option maxRecDepth 100000 in
set_option maxHeartbeats 4000000 in
theorem over_any (G : Gram) (v : Value) (w : World) (h : IsGram w v G) (hm0 : G.prods.length ≤ 100000) :
    Calls Try.prog 17 #[v] w (OverP G w) := by
  have hG := h
  obtain ⟨hterms, vs, vp, rfl, hs, hp⟩ := h
  have hmm := @run_makeMap Try.prog
  obtain ⟨i0, hi, hz0, hz1, hz2⟩ := info_parts Try.infoIntI
  obtain ⟨-, sa, sc, rfl, -, -, -⟩ := id hs
  obtain ⟨-, pa, pc, rfl, -, -, -⟩ := id hp
  have HG := Lib.hid hG
  have HP := Lib.hid hp
  clear hG hs hp
  obtain ⟨terms, syms, prods⟩ := G
  simp only at HP hm0 hterms HG ⊢
  obtain ⟨m, hm⟩ : ∃ m, prods.length = m := ⟨_, rfl⟩
  rw [hm] at hm0 HP HG ⊢
  have HM := Lib.hid hm
  clear hm
  generalize syms.length = sn at *
  go_enter Try.func17, Try.ntmps17
  go_upto_region 2 with fail
  refine wp_at (F := fun W => W.heap[w.heap.size]? = some (.cells #[.int .i64 terms, .slice sa sn sc, .slice pa m pc] 25 (0, 0)) ∧ GrpM W w.heap.size 3 1 (w.heap.size + 1) (fun _ => none) (fun _ => (0, [])) ∧
      W.heap[w.heap.size + 1 + 1]? = some (.cells #[.int .i64 terms, .slice sa sn sc, .slice pa m pc, .map (some (w.heap.size + 1))] 79 (0, 0)) ∧ Below w.heap.size w W) ?_ ?_
  · have g1 := GrpM.new (w.alloc (.cells #[.int .i64 terms, .slice sa sn sc, .slice pa m pc] 25 (0, 0))) (B := w.heap.size) (by simp) 3 1
    simp only [World.size_alloc] at g1
    refine ⟨alloc_older (alloc_older (alloc_obj _ _)), g1.fr (ch := nothing) (Fr.alloc _ _) fun _ _ => id, alloc_at (by simp), (((Below.refl _ w).alloc (Nat.le_refl _) _).alloc (by simp) _).alloc (by simp; omega) _⟩
  intro W0 ⟨hgb, hgr, hbp, hB0⟩
  have hne1 : w.heap.size + 1 + 1 ≠ w.heap.size + 1 := by omega
  have hne0 : w.heap.size ≠ w.heap.size + 1 := by omega
  generalize hmb : w.heap.size + 1 = mb at *
  generalize hbpe : mb + 1 = bp at *
  have c2 := obj_cell hgb 2 (v := .slice pa m pc) rfl
  have H0 := Lib.hid (And.intro hgr (And.intro hbp hB0))
  have HNE := Lib.hid hne1
  have HE := Lib.hid (And.intro hmb hbpe)
  clear hgr hbp hB0 hgb hne1 hne0 hmb hbpe
  go_wp2
  go_loopw [13] (fun i wr => ∃ (k : Nat) (f : Value → Option Value), k ≤ m ∧ i = .int .i64 k ∧ GrpM wr w.heap.size 3 1 mb f (ownL ⟨terms, syms, prods⟩ k) ∧
      wr.heap[bp]? = some (.cells #[.int .i64 terms, .slice sa sn sc, .slice pa m pc, .map (some mb)] 79 (0, 0)) ∧ Below w.heap.size w wr) (fun i _ => m - (intOf i).toNat)
  case atStart => exact ⟨0, _, Nat.zero_le _, rfl, H0.out.1, H0.out.2.1, H0.out.2.2⟩
  case round =>
    obtain ⟨k, f, hk, rfl, hgr, hbp, hB⟩ := hrel
    by_cases hlt : k < m
    · have hkp : k < prods.length := by rw [HM.out]; exact hlt
      have hLs := ownL_succ ⟨terms, syms, prods⟩ (k := k) hkp
      simp only at hLs
      have hlen := ownN_len ⟨terms, syms, prods⟩ k prods[k].left
      obtain ⟨pg, po, ra, rc, hpa, hprd, hcs⟩ := (HP.out.fr (Fr.new hB)).get k hkp
      have hil : i64 prods[k].left := hprd.1.left
      generalize prods[k] = p at hcs hprd hLs hil hlen
      obtain ⟨left, right, prec, has, action, whr⟩ := p
      simp only at hLs hil hlen
      subst hpa
      have s0' := hcs 0 (by simp [prdCells])
      have s1' := hcs 1 (by simp [prdCells])
      have s2' := hcs 2 (by simp [prdCells])
      have s3' := hcs 3 (by simp [prdCells])
      have s4' := hcs 4 (by simp [prdCells])
      have s5' := hcs 5 (by simp [prdCells])
      simp only [prdCells, List.getElem_cons_zero, List.getElem_cons_succ, Nat.add_zero] at s0' s1' s2' s3' s4' s5'
      have hown := hgr.own left
      have hL1 : (ownL ⟨terms, syms, prods⟩ k left).1 ≤ k := hlen
      have HGR := Lib.hid (And.intro hgr (And.intro hbp hB))
      have HOW := Lib.hid (And.intro hown (And.intro hLs hL1))
      clear hgr hbp hB hcs hprd hown hLs hL1 hlen hkp c2
      go_upto_region 5 with fail
      have hk1 := Fr.alloc (ch := nothing) wr (Obj.cells #[.int .i64 left, .slice ra right.length rc, .int .i64 prec, .bool has, .string action, .int .i64 whr] 48 (0, 0))
      have hpb := alloc_obj wr (Obj.cells #[.int .i64 left, .slice ra right.length rc, .int .i64 prec, .bool has, .string action, .int .i64 whr] 48 (0, 0))
      generalize hW1e : wr.alloc (Obj.cells #[.int .i64 left, .slice ra right.length rc, .int .i64 prec, .bool has, .string action, .int .i64 whr] 48 (0, 0)) = W1 at *
      have HW1 := Lib.hid hW1e
      clear hW1e s0' s1' s2' s3' s4' s5'
      generalize hpbe : wr.heap.size = pb at *
      obtain ⟨wq, hq⟩ : ∃ wq, wq = W1.drew := ⟨_, rfl⟩
      have kq : Fr nothing W1 wq := by rw [hq]; exact Fr.drew _
      have hgrq := HGR.out.1.fr (hk1.trans kq) fun _ _ => id
      have cbq := (hk1.trans kq).obj HGR.out.2.1 id
      have cpq := kq.obj hpb id
      obtain ⟨vold, hvold⟩ : ∃ vold, vold = (f (.int .i64 left)).getD (.slice none 0 0) := ⟨_, rfl⟩
      have hob := ownObj (hgrq.own left)
      rw [← hvold] at hob
      have hlook : ∀ W, Fr (fun g => vold.ownBlock = some g) wq W → (Instr.lookup 77 (.map (some mb)) (.int .i64 left) false).run Try.prog W = .ok vold W := fun W k => by
        have hmW := hgrq.map.fr k fun e => by
          obtain ⟨_, cs, hc⟩ := hob _ e
          obtain ⟨es, c, hes⟩ := hgrq.map.obj
          rw [hc] at hes
          cases hes
        have := hmW.look (P := Try.prog) (t := 77) (kt := 3) (et := 46) (k := .int .i64 left) (by kernel_rfl) (by kernel_rfl) rfl (zInts W) false
        rw [this, hvold]
        rfl
      have hbne : vold.ownBlock ≠ some bp := fun e => by
        obtain ⟨_, cs, hc⟩ := hob _ e
        rw [hc] at cbq
        simp only [Option.some.injEq, Obj.cells.injEq] at cbq
        exact absurd cbq.2.1 (by decide)
      have hpne : vold.ownBlock ≠ some pb := fun e => by
        obtain ⟨_, cs, hc⟩ := hob _ e
        rw [hc] at cpq
        simp only [Option.some.injEq, Obj.cells.injEq] at cpq
        exact absurd cpq.2.1 (by decide)
      have hR : ∀ W, Fr (fun g => vold.ownBlock = some g) wq W → W.cell? ⟨bp, 3, none⟩ = some (.map (some mb)) ∧ W.cell? ⟨pb, 0, none⟩ = some (.int .i64 left) ∧ (Instr.lookup 77 (.map (some mb)) (.int .i64 left) false).run Try.prog W = .ok vold W := fun W k =>
        ⟨obj_cell (k.obj cbq hbne) 3 rfl, obj_cell (k.obj cpq hpne) 0 rfl, hlook W k⟩
      have HR := Lib.hid hR
      have hS0 := hR wq (Fr.refl _ _)
      have HQ := Lib.hid (And.intro hgrq (And.intro cbq (And.intro kq hvold)))
      clear hgrq cbq cpq hvold hlook hbne hpne hR hob
      refine wp_region_anyT (fun j W => j < 16 → W.cell? ⟨bp, 3, none⟩ = some (.map (some mb)) ∧ W.cell? ⟨pb, 0, none⟩ = some (.int .i64 left) ∧ (Instr.lookup 77 (.map (some mb)) (.int .i64 left) false).run Try.prog W = .ok vold W) (by kernel_rfl) ?_
      rw [← hq]
      clear hq kq
      refine anyT_take (R := _) (i := 0) (v := ?_) (fun j => decide (j < 16)) (fun j w h k => k (of_decide_eq_true h)) (fun w h _ => h) rfl (by kernel_rfl) (fun _ _ _ h => h) _ _ _ _ (by kernel_rfl) (by kernel_rfl) (by kernel_rfl) (by kernel_rfl) (Or.inl ⟨by rfl, ?_⟩) (by assumption) ?_
      rotate_left
      · (intro w hSw; (try dsimp only at hSw); go_simp)
        try with_reducible rfl
      refine anyT_take (R := _) (i := 1) (v := ?_) (fun j => decide (j < 16)) (fun j w h k => k (of_decide_eq_true h)) (fun w h _ => h) rfl (by kernel_rfl) (fun _ _ _ h => h) _ _ _ _ (by kernel_rfl) (by kernel_rfl) (by kernel_rfl) (by kernel_rfl) (Or.inl ⟨by rfl, ?_⟩) (by assumption) ?_
      rotate_left
      · (intro w hSw; (try dsimp only at hSw); go_simp)
        try with_reducible rfl
      refine anyT_take (R := _) (i := 2) (v := ?_) (fun j => decide (j < 16)) (fun j w h k => k (of_decide_eq_true h)) (fun w h _ => h) rfl (by kernel_rfl) (fun _ _ _ h => h) _ _ _ _ (by kernel_rfl) (by kernel_rfl) (by kernel_rfl) (by kernel_rfl) (Or.inl ⟨by rfl, ?_⟩) (by assumption) ?_
      rotate_left
      · (intro w hSw; (try dsimp only at hSw); go_simp)
        try with_reducible rfl
      refine anyT_take (R := _) (i := 3) (v := ?_) (fun j => decide (j < 16)) (fun j w h k => k (of_decide_eq_true h)) (fun w h _ => h) rfl (by kernel_rfl) (fun _ _ _ h => h) _ _ _ _ (by kernel_rfl) (by kernel_rfl) (by kernel_rfl) (by kernel_rfl) (Or.inl ⟨by rfl, ?_⟩) (by assumption) ?_
      rotate_left
      · (intro w hSw; (try dsimp only at hSw); go_simp)
        try with_reducible rfl
      refine anyT_take (R := _) (i := 4) (v := ?_) (fun j => decide (j < 16)) (fun j w h k => k (of_decide_eq_true h)) (fun w h _ => h) rfl (by kernel_rfl) (fun _ _ _ h => h) _ _ _ _ (by kernel_rfl) (by kernel_rfl) (by kernel_rfl) (by kernel_rfl) (Or.inl ⟨by rfl, ?_⟩) (by assumption) ?_
      rotate_left
      · (intro w hSw; (try dsimp only at hSw); go_simp)
        try with_reducible rfl
      refine anyT_take (R := _) (i := 5) (v := ?_) (fun j => decide (j < 16)) (fun j w h k => k (of_decide_eq_true h)) (fun w h _ => h) rfl (by kernel_rfl) (fun _ _ _ h => h) _ _ _ _ (by kernel_rfl) (by kernel_rfl) (by kernel_rfl) (by kernel_rfl) (Or.inl ⟨by rfl, ?_⟩) (by assumption) ?_
      rotate_left
      · (intro w hSw; (try dsimp only at hSw); go_simp)
        try with_reducible rfl
      refine anyT_take (R := _) (i := 6) (v := ?_) (fun j => decide (j < 16)) (fun j w h k => k (of_decide_eq_true h)) (fun w h _ => h) rfl (by kernel_rfl) (fun _ _ _ h => h) _ _ _ _ (by kernel_rfl) (by kernel_rfl) (by kernel_rfl) (by kernel_rfl) (Or.inl ⟨by rfl, ?_⟩) (by assumption) ?_
      rotate_left
      · (intro w hSw; (try dsimp only at hSw); go_simp)
        try with_reducible rfl
      refine anyT_take (R := _) (i := 7) (v := ?_) (fun j => decide (j < 16)) (fun j w h k => k (of_decide_eq_true h)) (fun w h _ => h) rfl (by kernel_rfl) (fun _ _ _ h => h) _ _ _ _ (by kernel_rfl) (by kernel_rfl) (by kernel_rfl) (by kernel_rfl) (Or.inl ⟨by rfl, ?_⟩) (by assumption) ?_
      rotate_left
      · (intro w hSw; (try dsimp only at hSw); go_simp)
        try with_reducible rfl
      refine anyT_take (R := _) (i := 8) (v := ?_) (fun j => decide (j < 16)) (fun j w h k => k (of_decide_eq_true h)) (fun w h _ => h) rfl (by kernel_rfl) (fun _ _ _ h => h) _ _ _ _ (by kernel_rfl) (by kernel_rfl) (by kernel_rfl) (by kernel_rfl) (Or.inl ⟨by rfl, ?_⟩) (by assumption) ?_
      rotate_left
      · (intro w hSw; (try dsimp only at hSw); go_simp)
        try with_reducible rfl
      refine anyT_take (R := _) (i := 9) (v := ?_) (fun j => decide (j < 16)) (fun j w h k => k (of_decide_eq_true h)) (fun w h _ => h) rfl (by kernel_rfl) (fun _ _ _ h => h) _ _ _ _ (by kernel_rfl) (by kernel_rfl) (by kernel_rfl) (by kernel_rfl) (Or.inl ⟨by rfl, ?_⟩) (by assumption) ?_
      rotate_left
      · (intro w hSw; (try dsimp only at hSw); go_simp)
        try with_reducible rfl
      refine anyT_take (R := _) (i := 10) (v := ?_) (fun j => decide (j < 16)) (fun j w h k => k (of_decide_eq_true h)) (fun w h _ => h) rfl (by kernel_rfl) (fun _ _ _ h => h) _ _ _ _ (by kernel_rfl) (by kernel_rfl) (by kernel_rfl) (by kernel_rfl) (Or.inl ⟨by rfl, ?_⟩) (by assumption) ?_
      rotate_left
      · (intro w hSw; (try dsimp only at hSw); go_simp)
        try with_reducible rfl
      refine anyT_take (R := _) (i := 11) (v := ?_) (fun j => decide (j < 16)) (fun j w h k => k (of_decide_eq_true h)) (fun w h _ => h) rfl (by kernel_rfl) (fun _ _ _ h => h) _ _ _ _ (by kernel_rfl) (by kernel_rfl) (by kernel_rfl) (by kernel_rfl) (Or.inl ⟨by rfl, ?_⟩) (by assumption) ?_
      rotate_left
      · (intro w hSw; (try dsimp only at hSw); go_simp)
        try with_reducible rfl
      refine anyT_take (R := _) (i := 12) (v := ?_) (fun j => decide (j < 16)) (fun j w h k => k (of_decide_eq_true h)) (fun w h _ => h) rfl (by kernel_rfl) (fun _ _ _ h => h) _ _ _ _ (by kernel_rfl) (by kernel_rfl) (by kernel_rfl) (by kernel_rfl) (Or.inl ⟨by rfl, ?_⟩) (by assumption) ?_
      rotate_left
      · (intro w hSw; (try dsimp only at hSw); go_simp)
        try with_reducible rfl
      refine anyT_take (R := _) (i := 13) (v := ?_) (fun j => decide (j < 16)) (fun j w h k => k (of_decide_eq_true h)) (fun w h _ => h) rfl (by kernel_rfl) (fun _ _ _ h => h) _ _ _ _ (by kernel_rfl) (by kernel_rfl) (by kernel_rfl) (by kernel_rfl) (Or.inl ⟨by rfl, ?_⟩) (by assumption) ?_
      rotate_left
      · (intro w hSw; (try dsimp only at hSw); go_simp)
        try with_reducible rfl
      refine anyT_ready (rs := [14]) (by kernel_rfl) (by simp) ?_
      intro j hj
      obtain rfl := List.mem_singleton.1 hj
      clear hj
      refine wpOp_plain rfl rfl ?_
      go_simp
      refine ⟨HR.out _ (Fr.alloc _ _), ?_⟩
      have hga := HQ.out.1.fr (ch := nothing) (Fr.alloc wq (Obj.cells #[.int .i64 k] 3 (0, 0))) fun _ _ => id
      have hka := Fr.alloc (ch := nothing) wq (Obj.cells #[.int .i64 k] 3 (0, 0))
      have hnk := one_news (alloc_obj wq (Obj.cells #[.int .i64 k] 3 (0, 0)))
      have hzq : w.heap.size ≤ (wq.alloc (Obj.cells #[.int .i64 k] 3 (0, 0))).heap.size := by
        have h1 := HGR.out.2.2.size
        have h2 := hk1.size
        have h3 := HQ.out.2.2.1.size
        simp only [World.size_alloc]
        omega
      have hoa := hga.own left
      rw [← HQ.out.2.2.2] at hoa
      have hL1 := HOW.out.2.2
      have HA := Lib.hid (And.intro hga (And.intro hka hoa))
      clear hga hka hoa hS0
      refine anyT_ready (rs := [15]) (by kernel_rfl) (by simp) ?_
      intro j hj
      obtain rfl := List.mem_singleton.1 hj
      clear hj
      refine wpOp_plain rfl rfl ?_
      generalize wq.alloc (Obj.cells #[.int .i64 k] 3 (0, 0)) = wa at *
      refine wp_append_lies _ _ _ 46 rfl w.heap.size 3 i0 _ 1 8 Try.underlying46 hi hz0 hz1 hz2 (by rfl) (by decide) vold _ _ (by rfl) HA.out.2.2 ⟨wq.heap.size, 0, none⟩ 1 1 [.int .i64 k] (by rfl) (by rfl) hnk (by simp [Value.oneCell']) (by omega) (by unfold maxLen; omega) (by omega) hzq _ rfl ?_
      intro g cap w1 hown1 hgrow1 hat1 hlt1
      have hF1 : Fr (fun g => vold.ownBlock = some g) wq w1 := HA.out.2.1.wide.trans (Fr.grown hgrow1)
      refine ⟨fun _ => HR.out _ hF1, ?_⟩
      have hm1 := HQ.out.1.map.fr hF1 fun e => by
        obtain ⟨_, cs, hc⟩ := ownObj (HQ.out.1.own left) mb (by rw [← HQ.out.2.2.2]; exact e)
        obtain ⟨es, c, hes⟩ := HQ.out.1.map.obj
        rw [hc] at hes
        cases hes
      refine anyT_ready (rs := [16]) (by kernel_rfl) (by simp) ?_
      intro j hj
      obtain rfl := List.mem_singleton.1 hj
      clear hj
      refine wpOp_plain rfl rfl ?_
      refine wp_store_map _ _ _ _ 77 rfl 3 46 (.int .i64) (by kernel_rfl) (by kernel_rfl) mb f (updF f left (.slice (some ⟨g, 0, none⟩) ((ownL ⟨terms, syms, prods⟩ k left).1 + 1) cap)) (by rfl) hm1 (.int .i64 left) _ (by rfl) (by rfl) rfl (updF_same _ _ _) (updF_key _ _ _) ?_
      intro w2 hm2 hF2
      refine ⟨fun h => absurd h (by decide), ?_⟩
      refine anyT_done (by kernel_rfl) ?_ _
      rw [HQ.out.2.2.2] at hgrow1 hat1
      have hadd := HA.out.1.add (Nat.succ_pos _) hown1 hgrow1 (hat1.imp id fun e => by omega) hm2 hF2
      have hbp1 := (hF1.obj HQ.out.2.1 fun e => by
        obtain ⟨_, cs, hc⟩ := ownObj (HQ.out.1.own left) bp (by rw [← HQ.out.2.2.2]; exact e)
        have hb := HQ.out.2.1
        rw [hc] at hb
        simp only [Option.some.injEq, Obj.cells.injEq] at hb
        exact absurd hb.2.1 (by decide))
      have hbp2 := hF2.obj hbp1 HNE.out
      have hBq : Below w.heap.size w wq := HGR.out.2.2.trans ((hk1.trans HQ.out.2.2.1).below_new.mono HGR.out.2.2.size)
      have hB1 : Below w.heap.size w w1 := hBq.trans (hF1.below hBq.size fun g e => (ownObj (HQ.out.1.own left) g (by rw [← HQ.out.2.2.2]; exact e)).1)
      have hB2 : Below w.heap.size w w2 := hB1.trans (hF2.below hB1.size fun g e => by have e' : g = mb := e; rw [e']; exact HGR.out.1.hB)
      have HEND := Lib.hid (And.intro hadd (And.intro hbp2 hB2))
      clear hadd hbp1 hbp2 hBq hB1 hB2 hF1 hF2 hm1 hm2 hown1 hgrow1 hat1 hnk hzq hk1 hpb
      go_wp2
      go_roundw
      case rel => exact ⟨k + 1, _, by omega, by simp, by rw [HOW.out.2.1]; exact HEND.out.1, HEND.out.2.1, HEND.out.2.2⟩
      case measure => simp [intOf]; omega
    · obtain rfl : k = m := by omega
      have HX := Lib.hid (And.intro hgr (And.intro hbp hB))
      clear hgr hbp hB hlt c2
      go_wp2
      go_ret
      obtain ⟨hgr, hbp, hB⟩ := HX.out
      refine ⟨bp, mb, _, _, f, rfl, ⟨?_, HG.out.fr (Fr.new hB)⟩, ?_, ?_, hB⟩
      · exact hbp
      · rw [HM.out]; exact hgr
      · have := HE.out; omega
end Go.Proofs.Ytgmkpncpcikecaa
