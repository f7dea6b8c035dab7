/-
  gristmillref21: Aheads.
-/
import Derived.Test.YtpnihegmhalcfaaRunG24
import Derived.StillTailTactics
namespace Go.Proofs.Ytpnihegmhalcfaa
open Go.RowKit Go.MapKept Go.ChangeMaps
set_option maxHeartbeats 400000

theorem closeL_at {G : Gram} {ks : List (List It)} {k : Nat} (hk : k < ks.length) : itsAt (closeL G ks) k = cloL G ks[k] := by
  unfold itsAt closeL
  rw [List.getD_eq_getElem?_getD, List.getElem?_map, List.getElem?_eq_getElem hk]
  rfl
theorem take_concat {α : Type} {l : List α} {k : Nat} (hk : k < l.length) : l.take (k + 1) = l.take k ++ [l[k]] := by
  rw [List.take_add_one, List.getElem?_eq_getElem hk]
  rfl
theorem replicate_snoc {α : Type} (n : Nat) (x : α) : List.replicate n x ++ [x] = List.replicate (n + 1) x := List.replicate_succ'.symm
theorem outP_len (G : Gram) (Ls : List (List It)) (A : Tabs) (s : Nat) (o : List Ah) : ∀ n : Nat, (outP G Ls A s n o).length ≤ o.length + n
  | 0 => Nat.le_refl _
  | n + 1 => by
    have := outP_len G Ls A s o n
    rw [outP_succ]
    unfold outStep
    split
    · omega
    · split
      · omega
      · simp only [List.length_append, List.length_singleton]; omega
theorem outA_len (G : Gram) (Ls : List (List It)) (A : Tabs) : ∀ n : Nat, (outA G Ls A n).length ≤ n * G.prods.length
  | 0 => Nat.zero_le _
  | n + 1 => by
    have h1 := outA_len G Ls A n
    have h2 := outP_len G Ls A n (outA G Ls A n) G.prods.length
    rw [outA_succ, Nat.succ_mul]
    omega
theorem outP_one (G : Gram) (Ls : List (List It)) (A : Tabs) (s : Nat) (o : List Ah) : outP G Ls A s 1 o = o := by
  rw [outP_succ]
  simp [outStep, outP]
theorem three_news {w : World} {b : Nat} {x y z : Value} {t : TypeId} {f : Nat × Nat} (h : w.heap[b]? = some (.cells #[x, y, z] t f)) : ∀ j u, [x, y, z][j]? = some u → w.cell? ((⟨b, 0, none⟩ : Addr).add j) = some u := fun j u hj => by
  have h1 : j < 3 := (List.getElem?_eq_some_iff.1 hj).1
  unfold Addr.add
  rcases j with _ | _ | _ | j
  · simp at hj; subst hj; simpa using obj_cell h 0 rfl
  · simp at hj; subst hj; simpa using obj_cell h 1 rfl
  · simp at hj; subst hj; simpa using obj_cell h 2 rfl
  · omega
theorem ris_i64 {G : Gram} (hr : rightG G = true) {L : List It} (h : ∀ x ∈ L, InI G x) : ∀ x ∈ L, i64 x.1 ∧ i64 x.2 := fun x hx => smallI_i64 (inI_small hr (h x hx))

set_option maxRecDepth 100000 in
set_option maxHeartbeats 16000000 in
theorem aheads21_any (G : Gram) (v : Value) (sa' : Option Addr) (n c' : Nat) (ks : List (List It)) (gs : List (List (Int × Int))) (w : World) (h : IsGram w v G) (hr : rightG G = true) (hc : colI G = some (ks, gs)) (hst : IsStates w (.slice sa' n c') (ks.zip gs)) (hn : ks.length = n) (hu : usedG G = true) :
    Calls Try.prog 28 #[v, .slice sa' n c'] w fun e w' => ∃ B r vs, e = .returned (.tuple #[r, .int .i64 0]) ∧ w.heap.size ≤ B ∧ AhM w' B r vs (aheadL G ks gs) ∧ Below w.heap.size w w' := by
  have hG := h
  obtain ⟨hterms, vs, vp, rfl, hs, hp⟩ := h
  obtain ⟨-, sa, sc, rfl, -, -, -⟩ := id hs
  obtain ⟨-, pa, pc, rfl, -, -, -⟩ := id hp
  have hS0 : Stands w.heap.size w G sa pa sc pc (w.alloc (grO G sa pa sc pc)) := ⟨alloc_obj _ _, hG.fr (Fr.alloc _ _), (Below.refl _ w).alloc (Nat.le_refl _) _⟩
  have HS0 := Lib.hid hS0
  have hn1 := (rightG_parts hr).1
  obtain ⟨tn, htn⟩ : ∃ tn : Nat, G.terms = (tn : Int) := ⟨G.terms.toNat, by omega⟩
  have htn' : G.terms.toNat = tn := by omega
  have hok := colI_ok hc
  have hkok := colI_kok hr hc
  have hgl : gs.length = n := by rw [hok.len, hn]
  have hnle : n ≤ 256 := by rw [← hn]; exact hok.le
  have hn0 : 0 < n := by
    rw [← hn]
    rcases Nat.eq_zero_or_pos ks.length with h | h
    · have := hok.first
      rw [List.eq_nil_of_length_eq_zero h] at this
      cases this
    · exact h
  have hedge : edgesTo n gs := fun s hs x hx => by
    have hsg : s < gs.length := by rw [hgl]; exact hs
    obtain ⟨k, hk, he⟩ := hok.edges s hsg
    have := (edgesIs_in he).2 x (by rw [List.getD_eq_getElem?_getD, List.getElem?_eq_getElem hsg] at hx; exact hx)
    rw [hn] at this
    exact this.2
  have hclo : ∀ L ∈ closeL G ks, L.length ≤ 1000000 ∧ ∀ x ∈ L, InI G x := fun L hL => by
    unfold closeL at hL
    obtain ⟨K, hK, rfl⟩ := List.mem_map.1 hL
    obtain ⟨j, hj, rfl⟩ := List.getElem_of_mem hK
    obtain ⟨h1, h2⟩ := hkok j hj
    have h3 := cloL_len G ks[j]
    exact ⟨by omega, fun x hx => inClo_in h2 (cloL_mem.1 hx)⟩
  have HC := Lib.hid hclo
  have HKOK := Lib.hid (fun j (hj : j < ks.length) => And.intro (show ks[j].length ≤ 90000 by have := (hkok j hj).1; omega) (hkok j hj).2)
  have HED := Lib.hid hedge
  have HGL := Lib.hid (And.intro hgl hn)
  have HG := Lib.hid (And.intro hG hst)
  have HR := Lib.hid hr
  have HU := Lib.hid hu
  have HTN := Lib.hid (And.intro htn htn')
  have HCOL := Lib.hid hc
  have htn1 : tn ≤ 64 := by omega
  have htn0 : 0 < tn := by omega
  have hpn1 : G.prods.length ≤ 128 := by omega
  obtain ⟨i0, hi, hz0, hz1, hz2⟩ := info_parts Try.infoBool
  obtain ⟨j0, hj, hy0, hy1, hy2⟩ := info_parts Try.infoBools
  obtain ⟨k0, hk, hx0, hx1, hx2⟩ := info_parts Try.infoItP
  clear hclo hkok hedge hgl hn hG hst hr hu htn hok hc hS0 hs hp htn' hn1
  go_enter Try.func28, Try.ntmps28
  go_upto_region 1 with fail
  unfold grO at HS0
  generalize hw1 : w.alloc (Obj.cells #[.int .i64 G.terms, .slice sa G.syms.length sc, .slice pa G.prods.length pc] 25 (0, 0)) = W1 at *
  clear hw1
  have HRT := Lib.hid (right14_gram G _ W1 HS0.out.gram)
  unfold grV at HRT
  rw [HR.out] at HRT
  have d0 := HS0.out.d0
  have d1 := HS0.out.d1
  have d2 := HS0.out.d2
  go_upto_region 3 with (go_at_call 48; refine HRT.out.mono ?_; rintro e w2 ⟨rfl, hb2⟩)
  have hS2 := HS0.out.keep hb2
  have HS2 := Lib.hid hS2
  clear d0 d1 d2 HRT HS0 hb2
  have d0 := hS2.d0
  have d1 := hS2.d1
  have d2 := hS2.d2
  have HCO := Lib.hid (col19_good HR.out HCOL.out _ w2 hS2.gram)
  unfold grV at HCO
  rw [HGL.out.2] at HCO
  clear hS2
  go_upto_region 4 with (go_at_call 27; refine HCO.out.mono ?_; rintro e w3 ⟨ca, cc, rfl, hst3, hb3⟩)
  have hS3 := HS2.out.keep hb3
  have HS3 := Lib.hid hS3
  have HSS := Lib.hid (sameStates_any _ _ _ _ w3 (HG.out.2.fr (Fr.new hS3.below)) hst3)
  clear d0 d1 d2 HCO HS2 hb3 hS3 hst3
  rw [decide_eq_true rfl] at HSS
  go_upto_region 6 with (go_at_call 52; refine HSS.out.mono ?_; rintro e w4 ⟨rfl, hb4⟩)
  have hS4 := HS3.out.keep hb4
  have HS4 := Lib.hid hS4
  have HUS := Lib.hid (used20_any G _ w4 hS4.gram HR.out)
  unfold grV at HUS
  rw [HU.out] at HUS
  have d0 := hS4.d0
  have d1 := hS4.d1
  have d2 := hS4.d2
  clear HSS HS3 hb4 hS4
  go_upto_region 8 with (go_at_call 53; refine HUS.out.mono ?_; rintro e w5 ⟨rfl, hb5⟩)
  have hS5 := HS4.out.keep hb5
  have HS5 := Lib.hid hS5
  have hw5 := hS5.below.size
  obtain ⟨B, hBe⟩ : ∃ B, w5.heap.size = B := ⟨_, rfl⟩
  rw [hBe] at hw5
  have HB := Lib.hid hBe
  clear d0 d1 d2 HUS HS4 hb5 hS5 hBe
  go_wp2
  go_loopw [8, 9, 10, 11, 12] (fun o i _ _ _ wr => ∃ (k : Nat) (ps : List ItP), k ≤ n ∧ i = .int .i64 (k : Int) ∧ ps.length = k ∧ AllM wr B o tn ps (closeL G (ks.take k)) ((closeL G (ks.take k)).map (noTab tn)) ∧ Below B w5 wr) (fun _ i _ _ _ _ => n - (intOf i).toNat)
  case atStart => exact ⟨0, [], Nat.zero_le _, rfl, rfl, by rw [List.take_zero]; exact AllM.nil _ _ _, Below.refl _ _⟩
  case round =>
    obtain ⟨k, ps, hkn, rfl, hpk, hM, hbel⟩ := hrel
    have hS := HS5.out.keep (by rw [HB.out]; exact hbel)
    have d0 := hS.d0
    have d1 := hS.d1
    have d2 := hS.d2
    rw [HTN.out.1] at d0
    by_cases hlt : k < n
    ·
      -- <X>
      have hkk : k < ks.length := by rw [HGL.out.2]; exact hlt
      have hkg : k < gs.length := by rw [HGL.out.1]; exact hlt
      obtain ⟨sb, so, ka, kc, ga, gc, rfl, hk0, hg0, s0, s1⟩ := HG.out.2.get hkk hkg
      have hbw : ∀ W, Fr nothing wr W → Below w.heap.size w W := fun W k => hS.below.trans (k.below_new.mono hS.below.size)
      have HCL := Lib.hid fun (W : World) (k' : Fr nothing wr W) => closure19_any G _ _ ks[k] W (HG.out.1.fr (Fr.new (hbw W k'))) HR.out (hk0.fr (Fr.new (hbw W k'))) (HKOK.out k hkk).2 (HKOK.out k hkk).1
      rw [HTN.out.1] at HCL
      have hcl := closeL_at (G := G) hkk
      have htk := take_concat hkk
      have HM := Lib.hid (And.intro hM (And.intro hbel (And.intro hS htk)))
      have hclm : cloL G ks[k] ∈ closeL G ks := List.mem_map_of_mem (List.getElem_mem hkk)
      have hclo := HC.out _ hclm
      have hkd : ∀ {W : World}, Fr nothing wr W → Fr nothing wr W ∧ W.cell? ⟨w.heap.size, 0, none⟩ = some (.int .i64 (tn : Int)) ∧ W.cell? ⟨w.heap.size, 1, none⟩ = some (.slice sa G.syms.length sc) ∧ W.cell? ⟨w.heap.size, 2, none⟩ = some (.slice pa G.prods.length pc) ∧ W.cell? ⟨sb, so + k * 2, none⟩ = some (.slice ka ks[k].length kc) :=
        fun k' => ⟨k', k'.cell d0 id, k'.cell d1 id, k'.cell d2 id, (Fr.new (hbw _ k')).cell s0 id⟩
      have hS0 := hkd (Fr.drew wr)
      have HSE := Lib.hid hS.below.size
      clear hM hS d0 d1 d2 s0 s1 hbw hg0 hk0 htk hcl hclm hbel hkd
      generalize hK : ks[k] = K at *
      go_upto_region 12 with fail
      refine wp_region_anyT (fun j W => j < 6 → Fr nothing wr W ∧ W.cell? ⟨w.heap.size, 0, none⟩ = some (.int .i64 (tn : Int)) ∧ W.cell? ⟨w.heap.size, 1, none⟩ = some (.slice sa G.syms.length sc) ∧ W.cell? ⟨w.heap.size, 2, none⟩ = some (.slice pa G.prods.length pc) ∧ W.cell? ⟨sb, so + k * 2, none⟩ = some (.slice ka K.length kc)) (by kernel_rfl) ?_
      refine anyT_take (R := _) (i := 0) (v := ?_) (fun j => decide (j < 6)) (fun j w h k => k (of_decide_eq_true h)) (fun w h _ => h) rfl (by kernel_rfl) (fun _ _ _ h => h) _ _ _ _ (by kernel_rfl) (by kernel_rfl) (by kernel_rfl) (by kernel_rfl) (Or.inl ⟨by rfl, ?_⟩) (by assumption) ?_
      rotate_left
      · (intro w hSw; (try dsimp only at hSw); go_simp)
        try with_reducible rfl
      refine anyT_take (R := _) (i := 1) (v := ?_) (fun j => decide (j < 6)) (fun j w h k => k (of_decide_eq_true h)) (fun w h _ => h) rfl (by kernel_rfl) (fun _ _ _ h => h) _ _ _ _ (by kernel_rfl) (by kernel_rfl) (by kernel_rfl) (by kernel_rfl) (Or.inl ⟨by rfl, ?_⟩) (by assumption) ?_
      rotate_left
      · (intro w hSw; (try dsimp only at hSw); go_simp)
        try with_reducible rfl
      refine anyT_take (R := _) (i := 2) (v := ?_) (fun j => decide (j < 6)) (fun j w h k => k (of_decide_eq_true h)) (fun w h _ => h) rfl (by kernel_rfl) (fun _ _ _ h => h) _ _ _ _ (by kernel_rfl) (by kernel_rfl) (by kernel_rfl) (by kernel_rfl) (Or.inl ⟨by rfl, ?_⟩) (by assumption) ?_
      rotate_left
      · (intro w hSw; (try dsimp only at hSw); go_simp)
        try with_reducible rfl
      refine anyT_take (R := _) (i := 3) (v := ?_) (fun j => decide (j < 6)) (fun j w h k => k (of_decide_eq_true h)) (fun w h _ => h) rfl (by kernel_rfl) (fun _ _ _ h => h) _ _ _ _ (by kernel_rfl) (by kernel_rfl) (by kernel_rfl) (by kernel_rfl) (Or.inl ⟨by rfl, ?_⟩) (by assumption) ?_
      rotate_left
      · (intro w hSw; (try dsimp only at hSw); go_simp)
        try with_reducible rfl
      refine anyT_take (R := _) (i := 4) (v := ?_) (fun j => decide (j < 6)) (fun j w h k => k (of_decide_eq_true h)) (fun w h _ => h) rfl (by kernel_rfl) (fun _ _ _ h => h) _ _ _ _ (by kernel_rfl) (by kernel_rfl) (by kernel_rfl) (by kernel_rfl) (Or.inl ⟨by rfl, ?_⟩) (by assumption) ?_
      rotate_left
      · (intro w hSw; (try dsimp only at hSw); go_simp)
        try with_reducible rfl
      refine anyT_take (R := _) (i := 5) (v := ?_) (fun j => decide (j < 6)) (fun j w h k => k (of_decide_eq_true h)) (fun w h _ => h) rfl (by kernel_rfl) (fun _ _ _ h => h) _ _ _ _ (by kernel_rfl) (by kernel_rfl) (by kernel_rfl) (by kernel_rfl) (Or.inl ⟨by rfl, ?_⟩) (by assumption) ?_
      rotate_left
      · (intro w hSw; (try dsimp only at hSw); go_simp)
        try with_reducible rfl
      refine anyT_ready (rs := [6]) (by kernel_rfl) (by simp) ?_
      intro j hj
      obtain rfl := List.mem_singleton.1 hj
      clear hj
      refine wpOp_plain rfl rfl ?_
      go_simp
      refine (HCL.out _ hS0.1).mono ?_
      rintro e w6 ⟨u, rfl, hown, hb6⟩
      generalize hL : cloL G K = L at *
      have hBr : B ≤ wr.heap.size := by have := HM.out.2.1.size; have := HB.out; omega
      have hown := own_base hown (show B ≤ wr.heap.size from hBr)
      obtain ⟨la, lc, rfl, -, -, -⟩ := own_as_cells2 hown
      dsimp only
      try refine ⟨fun h => absurd h (by decide), ?_⟩
      refine anyT_take (R := fun _ => True) (i := 7) (v := ?_) (fun _ => true) (fun _ _ _ _ => trivial) (fun _ _ h => absurd h (by decide)) rfl (by kernel_rfl) (fun _ _ _ h => h) _ _ _ _ (by kernel_rfl) (by kernel_rfl) (by kernel_rfl) (by kernel_rfl) (Or.inl ⟨by rfl, ?_⟩) trivial ?_
      rotate_left
      · (intro w hSw; (try dsimp only at hSw); go_simp)
        try with_reducible rfl
      refine anyT_ready (rs := [8]) (by kernel_rfl) (by simp) ?_
      intro j hj
      obtain rfl := List.mem_singleton.1 hj
      clear hj
      refine wpOp_plain rfl rfl ?_
      go_simp
      try refine ⟨fun h => absurd h (by decide), ?_⟩
      refine anyT_ready (rs := [9]) (by kernel_rfl) (by simp) ?_
      intro j hj
      obtain rfl := List.mem_singleton.1 hj
      clear hj
      refine wpOp_plain rfl rfl ?_
      go_simp
      refine anyT_done (by kernel_rfl) ?_ _
      have hk6 : Fr nothing wr w6 := hS0.1.trans (Fr.new hb6)
      have hM6 := HM.out.1.keep hk6
      have hBb6 : Below B w5 w6 := HM.out.2.1.trans (hk6.below hBr fun _ e => e.elim)
      have hB6 : B ≤ w6.heap.size := Nat.le_trans hBr hk6.size
      have hpo := alloc_obj w6 (Obj.cells #[.slice la L.length lc, .slice none 0 0] 117 (0, 0))
      have hk67 := Fr.alloc (ch := nothing) w6 (Obj.cells #[.slice la L.length lc, .slice none 0 0] 117 (0, 0))
      have hold : ∀ b, inB ps b → b < w6.heap.size := fun b hb => by
        rcases Nat.lt_or_ge b w6.heap.size with h | h
        · exact h
        · exact absurd hb (inB_old hM6 h)
      have hS6 := HM.out.2.2.1.keep hk6.below_new
      have hL6 : L.length ≤ 1000000 := hclo.1
      have H6 := Lib.hid (And.intro hM6 (And.intro hown (And.intro hBb6 (And.intro hold (And.intro hclo (And.intro hB6 hS6))))))
      have HPO := Lib.hid (And.intro hpo hk67)
      clear hS0 HCL hb6 hk6 hown hM6 hBb6 hold hclo hpo hB6 hk67 hS6
      generalize w6.alloc (Obj.cells #[.slice la L.length lc, .slice none 0 0] 117 (0, 0)) = w7 at *
      generalize hpe : w6.heap.size = p at *
      have HPE := Lib.hid hpe
      clear hpe
      go_wp2
      go_loopw [11, 12] (fun iv _ wq => ∃ (i : Nat) (bs : List Nat) (sv : Value), i ≤ L.length ∧ iv = .int .i64 (i : Int) ∧ bs.length = i ∧ wq.heap[p]? = some (.cells #[.slice la L.length lc, sv] 117 (0, 0)) ∧ TabM wq p sv tn bs (List.replicate i (List.replicate tn false)) ∧ Fr nothing w6 wq) (fun iv _ _ => L.length - (intOf iv).toNat)
      case atStart => exact ⟨0, [], _, Nat.zero_le _, rfl, rfl, HPO.out.1, TabM.nil _ _ _, HPO.out.2⟩
      case round =>
        obtain ⟨i, bs, sv, hiL, rfl, hbi, hob, hT, hk⟩ := hrel
        have hSq := H6.out.2.2.2.2.2.2.keep hk.below_new
        have d0 := hSq.d0
        rw [HTN.out.1] at d0
        have c0 := obj_cell hob 0 (v := .slice la L.length lc) rfl
        have c1 := obj_cell hob 1 (v := sv) rfl
        by_cases hlti : i < L.length
        · obtain ⟨qa, qc, rfl, -, -, -⟩ := own_as_cells hT.own
          rw [hbi] at hT c1 hob
          have HT := Lib.hid (And.intro hT (And.intro hk (And.intro hob hbi)))
          have hpsz : p < wr.heap.size := (Array.getElem?_eq_some_iff.1 hob).1
          clear hT hk hob hSq
          go_upto_region 17 with (at_make; refine wpList_make_full _ rfl _ _ 118 rfl wr.heap.size 4 i0 (.bool false) 1 Try.underlying118 hi hz0 hz1 .i64 .i64 _ _ tn rfl rfl rfl rfl (by rw [hz2]; omega) (by unfold maxLen; omega) (Nat.le_refl _) ?_; intro W hown hgrow)
          have hb := made_bools hown
          have kW : Fr nothing wr W := (Fr.grown hgrow).mono fun _ _ e => by cases e
          have hTW := HT.out.1.keep kW
          have hltT := HT.out.1.lt
          have c1 := kW.cell c1 id
          have hobW := kW.obj HT.out.2.2.1 id
          obtain ⟨rb, hrbe⟩ : ∃ rb, wr.heap.size = rb := ⟨_, rfl⟩
          rw [hrbe] at hb hltT hpsz
          rw [hrbe]
          have hown2 := hTW.own.alloc (Obj.cells #[.slice (some ⟨rb, 0, none⟩) tn tn] 118 (0, 0))
          rw [HT.out.2.2.2] at hown2
          have hna := one_news (alloc_obj W (Obj.cells #[.slice (some ⟨rb, 0, none⟩) tn tn] 118 (0, 0)))
          have hrbW : rb < W.heap.size := (Array.getElem?_eq_some_iff.1 hb).1
          have hBa : p ≤ (W.alloc (Obj.cells #[.slice (some ⟨rb, 0, none⟩) tn tn] 118 (0, 0))).heap.size := by simp; omega
          have c1a := (Fr.alloc (ch := nothing) W (Obj.cells #[.slice (some ⟨rb, 0, none⟩) tn tn] 118 (0, 0))).cell c1 id
          have hnp : ∀ {w : World}, w.ownsRow p 118 1 (.slice qa i qc) i (rowV tn bs) → w.heap[p]? = some (.cells #[.slice la L.length lc, .slice qa i qc] 117 (0, 0)) → (Value.slice qa i qc).ownBlock ≠ some p := fun h1 h2 => own_ne h1 h2 (by decide)
          have HW := Lib.hid (And.intro hb (And.intro hTW (And.intro hltT (And.intro hobW (And.intro kW (And.intro (by omega : p ≤ rb) @hnp))))))
          clear hb hTW hltT hobW kW hown hgrow d0 hnp
          go_wp2_with (at_builtin; refine wpList_append_lies _ rfl _ _ 115 rfl p 118 j0 _ 1 24 Try.underlying115 hj hy0 hy1 hy2 rfl (by decide) (.slice qa i qc) _ _ rfl hown2 ⟨W.heap.size, 0, none⟩ 1 1 [.slice (some ⟨rb, 0, none⟩) tn tn] rfl rfl hna (by simp [Value.oneCell']) (by omega) (by unfold maxLen; omega) (by omega) hBa _ rfl ?_
                       intro g cap w4 hown4 hgrow4 hat4 hlt4
                       have k4 : Fr (fun b => (Value.slice qa i qc).ownBlock = some b) W w4 := (Fr.alloc _ _).trans (Fr.grown hgrow4)
                       have hob4 := k4.obj HW.out.2.2.2.1 (by have h1 := HW.out.2.1.own; rw [HT.out.2.2.2] at h1; exact HW.out.2.2.2.2.2.2 h1 HW.out.2.2.2.1)
                       have x1 := obj_cell hob4 1 (v := .slice qa i qc) rfl
                       have f1 := obj_frozen hob4 1
                       have HK4 := Lib.hid (And.intro k4 (And.intro hob4 hown4))
                       clear k4 hob4 hgrow4 hown4)
          go_roundw
          case rel =>
            obtain ⟨hb, hTW, hltT, hobW, kW, hprb, -⟩ := HW.out
            obtain ⟨k4, hob4, hown4⟩ := HK4.out
            obtain ⟨-, hk, -, hbi⟩ := HT.out
            have h1 := hTW.snoc (r := List.replicate tn false) hb (by simp) hprb (fun e => by have := hltT.2 rb e; omega) (by rw [hbi]; exact hown4) k4
            rw [replicate_snoc] at h1
            have hsc := Fr.setCell w4 ⟨p, 1, none⟩ (.slice (some ⟨g, 0, none⟩) (i + 1) cap)
            have hpg : ∀ b, (Value.slice (some ⟨g, 0, none⟩) (i + 1) cap).ownBlock = some b → b ≠ p := fun b e e' => by
              subst e'
              exact own_ne hown4 hob4 (by decide) e
            have hpb : ∀ b ∈ bs ++ [rb], b ≠ p := fun b e e' => by
              subst e'
              obtain ⟨x, hx, hxe⟩ := List.getElem_of_mem e
              have := h1.row x hx
              rw [hxe, hob4] at this
              unfold boolsObj at this
              simp at this
            have h2 := h1.off hsc (fun b e e' => hpg b e e') (fun b e e' => hpb b e e')
            refine ⟨i + 1, bs ++ [rb], _, by omega, by simp, by simp [hbi], ?_, h2, ?_⟩
            · have := setCell_obj hob4 (i := 1) (.slice (some ⟨g, 0, none⟩) (i + 1) cap)
              simpa using this
            · have hkk : Fr (fun b => (Value.slice qa i qc).ownBlock = some b) w6 w4 := hk.wide.trans (kW.wide.trans k4)
              have hall : Fr (fun b => (Value.slice qa i qc).ownBlock = some b ∨ b = p) w6 _ := (hkk.mono fun _ _ e => .inl e).trans (hsc.mono fun _ _ e => .inr e)
              refine hall.mono fun b hb1 hb2 => ?_
              have hpe := HPE.out
              rcases hb2 with hb2 | hb2
              · have := (ownObj hTW.own b hb2).1
                omega
              · omega
          case measure => simp [intOf]; omega
        · obtain rfl : i = L.length := by omega
          obtain ⟨hM6, hown, hBb6, hold, hclo, hB6, hS6⟩ := H6.out
          have hMq := hM6.keep hk
          have hownq : OwnI wr B (.slice la L.length lc) L := own_fr hown hk fun _ _ => id
          have hpB : B ≤ p := hB6
          have hTq : TabM wr B sv tn bs (noTab tn L) := ⟨own_base hT.own hpB, hT.fits, hT.row, hT.apart, fun b hb => Nat.le_trans hpB (hT.low b hb)⟩
          have hone : OneM wr B tn ⟨p, .slice la L.length lc, sv, bs⟩ L (noTab tn L) := ⟨hob, hownq, hTq, hbi, hpB⟩
          have hap : ∀ b, inB ps b → b ∉ bs := fun b hb hc => by
            have h1 := hold b hb
            have h2 := hT.low b hc
            have h3 := HPE.out
            omega
          obtain ⟨oa, oc, rfl, -, -, -⟩ := own_as_cells hMq.own
          have hBq : Below B w5 wr := hBb6.trans (hk.below (by rw [HPE.out]; exact hB6) fun _ e => e.elim)
          have hBwr : B ≤ wr.heap.size := Nat.le_trans hB6 (by rw [← HPE.out]; exact hk.size)
          have hown2 := hMq.own.alloc (Obj.cells #[.pointer (some ⟨p, 0, none⟩)] 114 (0, 0))
          rw [hpk] at hown2
          have hna := one_news (alloc_obj wr (Obj.cells #[.pointer (some ⟨p, 0, none⟩)] 114 (0, 0)))
          have hBa : B ≤ (wr.alloc (Obj.cells #[.pointer (some ⟨p, 0, none⟩)] 114 (0, 0))).heap.size := by simp; omega
          have HQ := Lib.hid (And.intro hMq (And.intro hone (And.intro hap (And.intro hBq hBwr))))
          clear hM6 hown hBb6 hold hclo hB6 hS6 hMq hownq hTq hone hap hBq hBwr hSq hT hk hob d0
          have HPK := Lib.hid hpk
          rw [hpk]
          go_wp2_with (at_builtin; refine wpList_append_lies _ rfl _ _ 113 rfl B 114 k0 _ 1 8 Try.underlying113 hk hx0 hx1 hx2 rfl (by decide) (.slice oa k oc) _ _ rfl hown2 ⟨wr.heap.size, 0, none⟩ 1 1 [.pointer (some ⟨p, 0, none⟩)] rfl rfl hna (by simp [Value.oneCell']) (by omega) (by unfold maxLen; omega) (by omega) hBa _ rfl ?_
                       intro g cap w4 hown4 hgrow4 hat4 hlt4)
          go_roundw
          case rel =>
            obtain ⟨hMq, hone, hap, hBq, hBwr⟩ := HQ.out
            have k4 : Fr (fun b => (Value.slice oa k oc).ownBlock = some b) wr w4 := (Fr.alloc _ _).trans (Fr.grown hgrow4)
            have hLs : closeL G (ks.take (k + 1)) = closeL G (ks.take k) ++ [L] := by
              rw [HM.out.2.2.2, ← hL]
              simp [closeL]
            refine ⟨k + 1, ps ++ [⟨p, .slice la L.length lc, sv, bs⟩], by omega, by simp, by simp [HPK.out], ?_, hBq.trans (k4.below hBwr fun g e => (ownObj hMq.own g (by rw [HPK.out]; exact e)).1)⟩
            rw [hLs, List.map_append]
            exact hMq.snoc hone hap (by rw [HPK.out]; exact hown4) (by rw [HPK.out]; exact k4)
          case measure => simp [intOf]; omega
      -- </X>
    · obtain rfl : k = n := by omega
      have htk : ks.take k = ks := List.take_of_length_le (by rw [HGL.out.2]; omega)
      rw [htk] at hM
      have hnk : k = ps.length := hpk.symm
      have HPK := Lib.hid hpk
      obtain ⟨og, oc, e, a0, -, -⟩ := hM.at (i := 0) (by omega)
      subst e
      rw [hpk] at hM ⊢
      have hi64 : ∀ L ∈ closeL G ks, ∀ x ∈ L, i64 x.1 ∧ i64 x.2 := fun L hL x hx => smallI_i64 (inI_small HR.out ((HC.out L hL).2 x hx))
      have hlen : ∀ L ∈ closeL G ks, L.length ≤ 1000000 := fun L hL => (HC.out L hL).1
      have HIL := Lib.hid (And.intro hi64 hlen)
      have HPU := Lib.hid (put21_any B tn _ ps (closeL G ks) _ 0 0 (0, 0) wr hM (by omega) htn0 hi64 hlen)
      unfold itVal at HPU
      have hsA : (putA (closeL G ks) 0 (0, 0) 0 (false, (closeL G ks).map (noTab tn))).2 = startA G ks := by unfold startA; rw [HTN.out.2]
      rw [hsA] at HPU
      have HM := Lib.hid (And.intro hM (And.intro hbel hS))
      clear hM hbel hi64 hlen hsA hS d0 d1 d2 hnk htk
      go_upto_region 20 with (go_at_call 55; refine HPU.out.mono ?_; rintro e w6 ⟨rfl, hM6, hk6⟩)
      have hgbB : w.heap.size < B := by rw [← HB.out]; exact (Array.getElem?_eq_some_iff.1 HS5.out.obj).1
      have hS6 := HM.out.2.2.wide HG.out.1 hk6 fun g e => by have := HM.out.1.low e; omega
      have HBW := Lib.hid (fun (W : World) (k' : Fr (inB ps) w6 W) => HM.out.2.2.wide HG.out.1 (hk6.trans k') fun g e => by have := HM.out.1.low e; omega)
      have hLl : (closeL G ks).length = k := by unfold closeL; rw [List.length_map]; exact HGL.out.2
      have HDN := Lib.hid (growS_dn (G := G) (Ls := closeL G ks) (gs := gs) (n := k) (by omega) (by rw [hLl]; exact HED.out))
      rw [HTN.out.2] at HDN
      have HAL := Lib.hid (show aheadL G ks gs = outA G (closeL G ks) (untilF (fun A => growS G (closeL G ks) gs k (false, A)) (missA (startA G ks) + 1) (startA G ks)) k by unfold aheadL; rw [HGL.out.2])
      have hU : UntilAt (fun A => growS G (closeL G ks) gs k (false, A)) missA (untilF (fun A => growS G (closeL G ks) gs k (false, A)) (missA (startA G ks) + 1) (startA G ks)) true (startA G ks) := UntilAt.start _ _ _ (Nat.lt_succ_self _)
      generalize untilF (fun A => growS G (closeL G ks) gs k (false, A)) (missA (startA G ks) + 1) (startA G ks) = F at *
      have HM6 := Lib.hid (And.intro hM6 hU)
      have HIN := Lib.hid (fun (s : Nat) (hs : s < ks.length) => HC.out _ (List.mem_map_of_mem (f := cloL G) (List.getElem_mem hs)))
      clear hM6 hU hk6 hS6 HPU a0
      generalize hLs : closeL G ks = Ls at *
      have HLS := Lib.hid hLs
      clear hLs
      go_wp2
      go_loopw [13, 14, 15, 16] (fun g _ _ _ wr => ∃ (gb : Bool) (A : Tabs), g = .bool gb ∧ UntilAt (fun A => growS G Ls gs k (false, A)) missA F gb A ∧ AllM wr B (.slice (some ⟨og, 0, none⟩) k oc) tn ps Ls A ∧ Fr (inB ps) w6 wr) (fun g _ _ _ wr => if boolOf g then outW2 wr ps + 1 else 0)
      case atStart => exact ⟨true, _, rfl, HM6.out.2, HM6.out.1, Fr.refl _ _⟩
      case round =>
        obtain ⟨gb, A, rfl, hU, hM, hF⟩ := hrel
        cases gb with
        | true =>
          -- <Y>
          have hfA : fitsA Ls tn A := hM.fits
          have hnx := UntilAt.next HDN.out hfA hU
          have hcnt := hM.out
          have HNX := Lib.hid (And.intro hnx hcnt)
          have HA := Lib.hid (And.intro hM hF)
          clear hU hM hF hfA hnx hcnt
          generalize wr = wA at *
          go_wp2
          go_loopw [13, 14, 15, 16] (fun g iv _ _ wr => ∃ s : Nat, s ≤ k ∧ iv = .int .i64 (s : Int) ∧ g = .bool (growS G Ls gs s (false, A)).1 ∧ AllM wr B (.slice (some ⟨og, 0, none⟩) k oc) tn ps Ls (growS G Ls gs s (false, A)).2 ∧ Fr (inB ps) w6 wr) (fun _ iv _ _ _ => k - (intOf iv).toNat)
          case atStart => exact ⟨0, Nat.zero_le _, rfl, rfl, HA.out.1, HA.out.2⟩
          case round =>
            obtain ⟨s, hs, rfl, rfl, hM, hF⟩ := hrel
            by_cases hls : s < k
            · have hsu := growS_succ G Ls gs s (false, A)
              generalize growS G Ls gs s (false, A) = Z at *
              obtain ⟨gZ, AZ⟩ := Z
              simp only at hM
              have HZ := Lib.hid (And.intro hsu (And.intro hM hF))
              clear hsu hM hF
              generalize wr = wB at *
              go_wp2
              go_loopw [13, 15, 16] (fun g iv _ wr => ∃ i : Nat, i ≤ (itsAt Ls s).length ∧ iv = .int .i64 (i : Int) ∧ g = .bool (growI G Ls gs s i (gZ, AZ)).1 ∧ AllM wr B (.slice (some ⟨og, 0, none⟩) k oc) tn ps Ls (growI G Ls gs s i (gZ, AZ)).2 ∧ Fr (inB ps) w6 wr) (fun _ iv _ _ => (itsAt Ls s).length - (intOf iv).toNat)
              case atStart => exact ⟨0, Nat.zero_le _, rfl, rfl, HZ.out.2.1, HZ.out.2.2⟩
              case round =>
                obtain ⟨i, hi', rfl, rfl, hM, hF⟩ := hrel
                have hsp : s < ps.length := by rw [HPK.out]; exact hls
                have h1 := hM.one s hsp
                obtain ⟨og', oc', e, a0, -, -⟩ := hM.at hsp
                rw [HPK.out] at e
                simp only [Value.slice.injEq, Option.some.injEq, Addr.mk.injEq, and_true, true_and] at e
                obtain ⟨rfl, rfl⟩ := e
                obtain ⟨la, lc, hlv, -, -, -⟩ := own_as_cells2 h1.its
                have hob := h1.obj
                rw [hlv] at hob
                have p0 := obj_cell hob 0 (v := .slice la (itsAt Ls s).length lc) rfl
                have hL6 : (itsAt Ls s).length ≤ 1000000 := by
                  have h2 := HIL.out.2 (itsAt Ls s) (by unfold itsAt; rw [List.getD_eq_getElem?_getD, List.getElem?_eq_getElem (by rw [hLl]; exact hls)]; exact List.getElem_mem _)
                  exact h2
                by_cases hli : i < (itsAt Ls s).length
                · have hsu2 := growI_succ G Ls gs s i (gZ, AZ)
                  generalize growI G Ls gs s i (gZ, AZ) = Y at *
                  obtain ⟨gY, AY⟩ := Y
                  simp only at hM h1
                  have HY := Lib.hid (And.intro hsu2 (And.intro hM hF))
                  clear hsu2 hM hF hob h1 hlv
                  generalize wr = wC at *
                  go_wp2
                  go_loopw [13, 16] (fun g tv wr => ∃ t : Nat, t ≤ tn ∧ tv = .int .i64 (t : Int) ∧ g = .bool (growT G Ls gs s i t (gY, AY)).1 ∧ AllM wr B (.slice (some ⟨og, 0, none⟩) k oc) tn ps Ls (growT G Ls gs s i t (gY, AY)).2 ∧ Fr (inB ps) w6 wr) (fun _ tv _ => tn - (intOf tv).toNat)
                  case atStart => exact ⟨0, Nat.zero_le _, rfl, rfl, HY.out.2.1, HY.out.2.2⟩
                  case round =>
                    obtain ⟨t, ht, rfl, rfl, hM, hF⟩ := hrel
                    clear a0 p0
                    have hSt := HBW.out _ hF
                    have d0 := hSt.d0
                    have d1 := hSt.d1
                    have d2 := hSt.d2
                    rw [HTN.out.1] at d0
                    by_cases hlt : t < tn
                    · have hst := growT_succ G Ls gs s i t (gY, AY)
                      generalize growT G Ls gs s i t (gY, AY) = X at *
                      obtain ⟨gX, AX⟩ := X
                      simp only at hM
                      unfold growO at hst
                      simp only at hst
                      have h1 := hM.one s hsp
                      have hib : i < ps[s].bs.length := by rw [h1.len]; exact hli
                      obtain ⟨og', oc', e, a0, -, -⟩ := hM.at hsp
                      rw [HPK.out] at e
                      simp only [Value.slice.injEq, Option.some.injEq, Addr.mk.injEq, and_true, true_and] at e
                      obtain ⟨rfl, rfl⟩ := e
                      obtain ⟨la', lc', hlv, -, -, -⟩ := own_as_cells2 h1.its
                      have hLs : itsAt Ls s ∈ Ls := by unfold itsAt; rw [List.getD_eq_getElem?_getD, List.getElem?_eq_getElem (by rw [hLl]; exact hls)]; exact List.getElem_mem _
                      have hits := h1.its.items (HIL.out.1 _ hLs) (by omega)
                      rw [hlv] at hits
                      obtain ⟨ib, io, rfl, e0, e1, -, -⟩ := hits.at hli
                      obtain ⟨sg, sc', hsv, s0, -, -⟩ := h1.tab.at hib
                      have hbit := h1.tab.bit hib hlt
                      have hob := h1.obj
                      rw [hlv, hsv] at hob
                      have p0 := obj_cell hob 0 (v := .slice (some ⟨ib, io, none⟩) (itsAt Ls s).length lc') rfl
                      have p1 := obj_cell hob 1 (v := .slice (some ⟨sg, 0, none⟩) ps[s].bs.length sc') rfl
                      have hxi : InI G (itsAt Ls s)[i] := by
                        have hsk : s < ks.length := by rw [HGL.out.2]; exact hls
                        have h2 := closeL_at (G := G) hsk
                        rw [HLS.out] at h2
                        refine (HIN.out s hsk).2 _ ?_
                        rw [← h2]
                        exact List.getElem_mem hli
                      have hge : (itsAt Ls s).getD i (0, 0) = (itsAt Ls s)[i] := by rw [List.getD_eq_getElem?_getD, List.getElem?_eq_getElem hli]; rfl
                      rw [hge] at hst
                      have hbn := h1.len
                      have HGR := Lib.hid fun (W : World) (k' : Fr nothing wr W) => grow21_any G _ B _ ps Ls ks gs AX s t (itsAt Ls s)[i] _ w W HG.out.1 HR.out HG.out.2 (by rw [HGL.out.2, HPK.out]) (by rw [HGL.out.1, HPK.out]) (Nat.le_of_lt hgbB) (hSt.below.trans (k'.below_new.mono hSt.below.size)) (by rw [HTN.out.2]; exact hM.keep k') hsp (by rw [HPK.out]; omega) (by rw [HTN.out.2]; exact hlt) hxi (by rw [HPK.out]; exact HED.out) HIL.out.1 HIL.out.2
                      rw [HTN.out.2, HTN.out.1] at HGR
                      have HT := Lib.hid (And.intro hst (And.intro hM hF))
                      have hkd : ∀ {W : World}, Fr nothing wr W → Fr nothing wr W ∧ W.cell? ⟨w.heap.size, 0, none⟩ = some (.int .i64 (tn : Int)) ∧ W.cell? ⟨w.heap.size, 1, none⟩ = some (.slice sa G.syms.length sc) ∧ W.cell? ⟨w.heap.size, 2, none⟩ = some (.slice pa G.prods.length pc) ∧ W.cell? ⟨og, s, none⟩ = some (.pointer (some ⟨ps[s].p, 0, none⟩)) ∧
                          W.cell? ⟨ps[s].p, 0, none⟩ = some (.slice (some ⟨ib, io, none⟩) (itsAt Ls s).length lc') ∧ W.cell? ⟨ps[s].p, 1, none⟩ = some (.slice (some ⟨sg, 0, none⟩) ps[s].bs.length sc') ∧ W.cell? ⟨sg, i, none⟩ = some (.slice (some ⟨ps[s].bs[i], 0, none⟩) tn tn) ∧ W.cell? ⟨ps[s].bs[i], t, none⟩ = some (.bool (tt (tabAt AX s) i t)) ∧
                          W.cell? ⟨ib, io + i * 2, none⟩ = some (.int .i64 (itsAt Ls s)[i].1) ∧ W.cell? ⟨ib, io + i * 2 + 1, none⟩ = some (.int .i64 (itsAt Ls s)[i].2) :=
                        fun k' => ⟨k', k'.cell d0 id, k'.cell d1 id, k'.cell d2 id, k'.cell a0 id, k'.cell p0 id, k'.cell p1 id, k'.cell s0 id, k'.cell hbit id, k'.cell e0 id, k'.cell e1 id⟩
                      have hS0 := hkd (Fr.drew wr)
                      clear hkd hst hM hF hSt hob h1 hits hlv hsv hxi hge
                      obtain ⟨bn, hbn2⟩ : ∃ bn, ps[s].bs.length = bn := ⟨_, rfl⟩
                      rw [hbn2] at hS0 p1 hbn
                      generalize hbi : ps[s].bs[i] = bi at *
                      clear hbi hib hbn2
                      unfold itVal at HGR
                      generalize (itsAt Ls s)[i] = x at *
                      obtain ⟨xa, xb⟩ := x
                      simp only at hS0 HGR e0 e1
                      subst hbn
                      generalize ps[s].p = pp at *
                      go_upto_region 32 with fail
                      cases hb : tt (tabAt AX s) i t
                      · rw [hb] at HT hbit
                        have hT := HT.out
                        rw [if_neg (by decide)] at hT
                        have HT2 := Lib.hid hT
                        clear hT hb hS0 HGR
                        go_quiet (fail)
                        go_wp2
                        go_roundw
                        case rel => exact ⟨t + 1, by omega, by simp, by rw [HT2.out.1], by rw [HT2.out.1]; exact HT2.out.2.1.keep (Fr.drewN _ _), HT2.out.2.2.trans (Fr.drewN _ _)⟩
                        case measure => simp [intOf]; omega
                      · rw [hb] at HT hbit hS0
                        have hT := HT.out
                        rw [if_pos rfl] at hT
                        have HT2 := Lib.hid hT
                        clear hT hb
                        clear hS0
                        go_still_tail 29, (by kernel_rfl)
                        change wpList _ _ _ _ _ wr.drew
                        have HD9 := Lib.hid (Fr.drew (ch := nothing) wr)
                        have HGR9 := Lib.hid (HGR.out _ (Fr.drew wr))
                        generalize wr.drew = W9 at *
                        obtain ⟨R, hR⟩ : ∃ R, growA G Ls gs s (xa, xb) t (false, AX) = R := ⟨_, rfl⟩
                        rw [hR] at HT2 HGR9
                        obtain ⟨cR, AR⟩ := R
                        simp only at HT2 HGR9
                        clear hR HT HGR e0 e1 p0 p1 s0 a0 d0 d1 d2 hbit
                        cases cR
                        · go_wp2_with (go_at_call 56; with_reducible refine HGR9.out.mono ?_; rintro e w8 ⟨rfl, hM8, hk8⟩)
                          have hk68 := HT2.out.2.2.trans (HD9.out.wide.trans hk8)
                          have HE := Lib.hid (And.intro HT2.out.1 (And.intro hM8 hk68))
                          go_roundw
                          case rel => exact ⟨t + 1, by omega, by simp, by rw [HE.out.1, Bool.or_false], by rw [HE.out.1]; exact HE.out.2.1, HE.out.2.2⟩
                          case measure => simp [intOf]; omega
                        · go_wp2_with (go_at_call 56; with_reducible refine HGR9.out.mono ?_; rintro e w8 ⟨rfl, hM8, hk8⟩)
                          have hk68 := HT2.out.2.2.trans (HD9.out.wide.trans hk8)
                          have HE := Lib.hid (And.intro HT2.out.1 (And.intro hM8 hk68))
                          go_roundw
                          case rel => exact ⟨t + 1, by omega, by simp, by rw [HE.out.1, Bool.or_true], by rw [HE.out.1]; exact HE.out.2.1, HE.out.2.2⟩
                          case measure => simp [intOf]; omega
                    · obtain rfl : t = tn := by omega
                      have hS := HY.out.1
                      rw [HTN.out.2] at hS
                      have HE := Lib.hid (And.intro hS (And.intro hM hF))
                      clear hS hM hF hSt
                      generalize growT G Ls gs s i t (gY, AY) = X at *
                      obtain ⟨gX, AX⟩ := X
                      simp only at HE
                      go_wp2
                      go_roundw
                      case rel => exact ⟨i + 1, by omega, by simp, by rw [HE.out.1], by rw [HE.out.1]; exact HE.out.2.1, HE.out.2.2⟩
                      case measure => simp [intOf]; omega
                · obtain rfl : i = (itsAt Ls s).length := by omega
                  have HE := Lib.hid (And.intro HZ.out.1 (And.intro hM hF))
                  clear hM hF hob h1 hlv
                  generalize growI G Ls gs s (itsAt Ls s).length (gZ, AZ) = Y at *
                  obtain ⟨gY, AY⟩ := Y
                  simp only at HE
                  go_wp2
                  go_roundw
                  case rel => exact ⟨s + 1, by omega, by simp, by rw [HE.out.1], by rw [HE.out.1]; exact HE.out.2.1, HE.out.2.2⟩
                  case measure => simp [intOf]; omega
            · obtain rfl : s = k := by omega
              have hcnt2 := hM.out
              have HE := Lib.hid (And.intro HNX.out (And.intro hM (And.intro hF hcnt2)))
              clear hM hF hcnt2 HNX
              generalize growS G Ls gs s (false, A) = Z at *
              obtain ⟨gZ, AZ⟩ := Z
              simp only at HE
              go_wp2
              go_roundw
              case rel => exact ⟨gZ, AZ, rfl, HE.out.1.1.1, HE.out.2.1, HE.out.2.2.1⟩
              case measure =>
                have h1 := HE.out.1.1.2
                have h2 := HE.out.1.2
                rw [HE.out.2.2.2, h2]
                simp only [boolOf, if_true]
                cases gZ
                · simp
                · have := h1 rfl
                  simp only [if_true]
                  omega
          -- </Y>
        | false =>
          have hfin : A = F := by
            rcases hU with ⟨h, _⟩ | ⟨_, h⟩
            · cases h
            · exact h
          subst hfin
          have hSF := HBW.out _ hF
          have HFF := Lib.hid (And.intro hM (And.intro hF hSF))
          clear hU hM hF hSF HDN HM6 HM
          generalize wr = wF at *
          obtain ⟨i1, hi1, hv0, hv1, hv2⟩ := info_parts Try.infoInt'
          obtain ⟨j1, hj1, hw0, hw1, hw2⟩ := info_parts Try.infoAhead
          have hpn0 : 1 ≤ G.prods.length := (rightG_parts HR.out).1.2.2.2.2.1
          go_wp2
          go_loopw [17, 18, 19, 20, 21, 22] (fun o sv _ _ _ _ wr => ∃ (s : Nat) (vs : List Value), s ≤ k ∧ sv = .int .i64 (s : Int) ∧ AhM wr wF.heap.size o vs (outA G Ls A s) ∧ Below wF.heap.size wF wr) (fun _ sv _ _ _ _ _ => k - (intOf sv).toNat)
          case atStart => exact ⟨0, [], Nat.zero_le _, rfl, AhM.nil _ _, Below.refl _ _⟩
          case round =>
            obtain ⟨s, vs, hs, rfl, hA, hbel⟩ := hrel
            by_cases hls : s < k
            · have hsu := outA_succ G Ls A s
              have hln := outA_len G Ls A s
              have hln2 : s * G.prods.length ≤ 256 * 128 := Nat.mul_le_mul (by omega) hpn1
              generalize outA G Ls A s = O at *
              have HO := Lib.hid (And.intro hsu (And.intro hA hbel))
              clear hsu hA hbel
              generalize wr = wG at *
              go_wp2
              go_loopw [17, 19, 20, 21, 22] (fun o pv _ _ _ wr => ∃ (p : Nat) (vs : List Value), 1 ≤ p ∧ p ≤ G.prods.length ∧ pv = .int .i64 (p : Int) ∧ AhM wr wF.heap.size o vs (outP G Ls A s p O) ∧ Below wF.heap.size wF wr) (fun _ pv _ _ _ _ => G.prods.length - (intOf pv).toNat)
              case atStart => exact ⟨1, vs, Nat.le_refl _, hpn0, rfl, by rw [outP_one]; exact HO.out.2.1, HO.out.2.2⟩
              case round =>
                obtain ⟨p, vs2, hp1, hpn, rfl, hA, hbel⟩ := hrel
                have hkF : Fr nothing wF wr := Fr.new hbel
                have hS := HFF.out.2.2.keep hbel
                have d0 := hS.d0
                have d2 := hS.d2
                rw [HTN.out.1] at d0
                by_cases hlp : p < G.prods.length
                · have hsu2 := outP_succ G Ls A s p O
                  have hln3 := outP_len G Ls A s O p
                  generalize outP G Ls A s p O = Q at *
                  have hM := HFF.out.1.keep hkF
                  have hsp : s < ps.length := by rw [HPK.out]; exact hls
                  have h1 := hM.one s hsp
                  obtain ⟨og', oc', e, a0, -, -⟩ := hM.at hsp
                  rw [HPK.out] at e
                  simp only [Value.slice.injEq, Option.some.injEq, Addr.mk.injEq, and_true, true_and] at e
                  obtain ⟨rfl, rfl⟩ := e
                  obtain ⟨pb, po, ra, rc, rfl, hri, -, hcx⟩ := IsGram.prd (show IsGram wr (.agg #[.int .i64 G.terms, .slice sa G.syms.length sc, .slice pa G.prods.length pc]) G from hS.gram) p hlp
                  have y1 := hcx 1 (by simp [prdCells])
                  simp only [prdCells, List.getElem_cons_zero, List.getElem_cons_succ] at y1
                  clear hcx
                  have hrl := hri.2.1
                  have hro : rightOf G (p : Int) = G.prods[p].right := by
                    unfold rightOf
                    rw [Int.toNat_natCast, List.getElem?_eq_getElem hlp]
                    rfl
                  have hpr : placeRow G Ls A s p = rowAtI (tabAt A s) tn (placeI (itsAt Ls s) ((p : Int), (G.prods[p].right.length : Int))) := by
                    unfold placeRow
                    rw [hro, HTN.out.2]
                  generalize G.prods[p].right.length = rl at *
                  have hLs : itsAt Ls s ∈ Ls := by unfold itsAt; rw [List.getD_eq_getElem?_getD, List.getElem?_eq_getElem (by rw [hLl]; exact hls)]; exact List.getElem_mem _
                  have hL6 := HIL.out.2 _ hLs
                  have HPL := Lib.hid fun (W : World) (k' : Fr nothing wr W) => place21_any ps[s].p _ _ (itsAt Ls s) ((p : Int), (rl : Int)) W (k'.obj h1.obj id) ((h1.its.items (HIL.out.1 _ hLs) (by omega)).fr k')
                  unfold itVal at HPL
                  simp only at HPL
                  have HQ := Lib.hid (And.intro hsu2 (And.intro hA (And.intro hbel hpr)))
                  clear hsu2 hA hbel hpr hM h1 hro hri hS
                  go_upto_region 41 with fail
                  go_still_tail 13, (by kernel_rfl)
                  change wpList _ _ _ _ _ wr.drew
                  have HD9 := Lib.hid (Fr.drew (ch := nothing) wr)
                  have HP9 := Lib.hid (HPL.out _ (Fr.drew wr))
                  generalize wr.drew = W9 at *
                  go_upto_region 42 with (go_at_call 57; with_reducible refine HP9.out.mono ?_; rintro e w8 ⟨rfl, hb8⟩)
                  have hk9 : Fr nothing wF w8 := hkF.trans (HD9.out.trans (Fr.new hb8))
                  have hA8 := HQ.out.2.1.fr (HD9.out.trans (Fr.new hb8)) fun _ _ => id
                  have hb8' : Below wF.heap.size wF w8 := hk9.below_new
                  clear HP9 HPL hb8 a0 y1 d0 d2
                  cases hpi : placeI (itsAt Ls s) ((p : Int), (rl : Int)) with
                  | none =>
                    have hz : placeZ (itsAt Ls s) ((p : Int), (rl : Int)) = -1 := by unfold placeZ; rw [hpi]
                    have hpr : placeRow G Ls A s p = [] := by rw [HQ.out.2.2.2, hpi]; rfl
                    have hst : outStep G Ls A s Q p = Q := by unfold outStep; rw [hpr]; simp
                    have HE := Lib.hid (And.intro (HQ.out.1.trans hst) (And.intro hA8 hb8'))
                    rw [hz]
                    have hSE := HFF.out.2.2.keep hb8'
                    have d0 := hSE.d0
                    rw [HTN.out.1] at d0
                    clear hst hpr hA8 hb8' hk9 hz hpi hSE
                    go_wp2
                    go_loopw [21, 22] (fun rv tv wr => rv = .slice none 0 0 ∧ tv = .int .i64 0 ∧ w8 = wr) (fun _ _ _ => 0)
                    case atStart => exact ⟨rfl, rfl, rfl⟩
                    case round =>
                      obtain ⟨rfl, rfl, rfl⟩ := hrel
                      go_wp2
                      go_roundw
                      case rel => exact ⟨p + 1, vs2, by omega, by omega, by simp, by rw [HE.out.1]; exact HE.out.2.1, HE.out.2.2⟩
                      case measure => simp [intOf]; omega
                  | some j =>
                    have hz : placeZ (itsAt Ls s) ((p : Int), (rl : Int)) = (j : Int) := by unfold placeZ; rw [hpi]
                    have hpr : placeRow G Ls A s p = trueIx ((tabAt A s).getD j []) tn := by rw [HQ.out.2.2.2, hpi]; rfl
                    have hjl := placeI_lt hpi
                    have HE := Lib.hid (And.intro HQ.out.1 (And.intro hA8 (And.intro hb8' hpr)))
                    have H8 := Lib.hid hk9
                    rw [hz]
                    clear hpr hA8 hb8' hk9 hz hpi HQ
                    go_wp2
                    go_loopw [21, 22] (fun rv tv wr => ∃ t : Nat, t ≤ tn ∧ tv = .int .i64 (t : Int) ∧ wr.ownsRow w8.heap.size 3 1 rv (trueIx ((tabAt A s).getD j []) t).length ((trueIx ((tabAt A s).getD j []) t).map (Value.int .i64)) ∧ Below w8.heap.size w8 wr) (fun _ tv _ => tn - (intOf tv).toNat)
                    case atStart => exact ⟨0, Nat.zero_le _, rfl, World.ownsRow_nil _ _ _ _, Below.refl _ _⟩
                    case round =>
                      obtain ⟨t, ht, rfl, hown, hb9⟩ := hrel
                      have hk9 := H8.out.trans (Fr.new hb9)
                      have hSE := HFF.out.2.2.keep hk9.below_new
                      have d0 := hSE.d0
                      rw [HTN.out.1] at d0
                      have hq0 : (0 : Int) ≤ (j : Int) := by omega
                      by_cases hlt : t < tn
                      · have hM := HFF.out.1.keep hk9
                        have h1 := hM.one s hsp
                        obtain ⟨og', oc', e, a0, -, -⟩ := hM.at hsp
                        rw [HPK.out] at e
                        simp only [Value.slice.injEq, Option.some.injEq, Addr.mk.injEq, and_true, true_and] at e
                        obtain ⟨rfl, rfl⟩ := e
                        have hjb : j < ps[s].bs.length := by rw [h1.len]; exact hjl
                        obtain ⟨sg, sc', hsv, s0, -, -⟩ := h1.tab.at hjb
                        have hbit := h1.tab.bit hjb hlt
                        have hob := h1.obj
                        rw [hsv] at hob
                        have p1 := obj_cell hob 1 (v := .slice (some ⟨sg, 0, none⟩) ps[s].bs.length sc') rfl
                        have hbn := h1.len
                        have hsu3 := trueIx_succ ((tabAt A s).getD j []) t
                        have htt : tt (tabAt A s) j t = ((tabAt A s).getD j []).getD t false := rfl
                        rw [htt] at hbit
                        have hlen := trueIx_len ((tabAt A s).getD j []) t
                        generalize ps[s].bs[j] = bi at *
                        obtain ⟨bn, hbn2⟩ : ∃ bn, ps[s].bs.length = bn := ⟨_, rfl⟩
                        rw [hbn2] at p1 hbn
                        subst hbn
                        generalize ps[s].p = pp at *
                        generalize (tabAt A s).getD j [] = T at *
                        generalize hcb : T.getD t false = c at *
                        cases c
                        · have HK := Lib.hid (And.intro hsu3 (And.intro hown hb9))
                          clear hsu3 hown hb9 hM h1 hk9 hSE hob hsv htt hcb hjb hbn2
                          go_wp2
                          go_roundw
                          case rel => exact ⟨t + 1, by omega, by simp, by rw [HK.out.1]; exact HK.out.2.1, HK.out.2.2⟩
                          case measure => simp [intOf]; omega
                        · rw [if_pos rfl] at hsu3
                          obtain ⟨qa, qc, rfl, -, -, -⟩ := own_as_cells hown
                          generalize hml : (trueIx T t).length = mn at *
                          have hown2 := hown.alloc (Obj.cells #[.int .i64 (t : Int)] 3 (0, 0))
                          have hna := one_news (alloc_obj wr (Obj.cells #[.int .i64 (t : Int)] 3 (0, 0)))
                          have hBa : w8.heap.size ≤ (wr.alloc (Obj.cells #[.int .i64 (t : Int)] 3 (0, 0))).heap.size := by have := hb9.size; simp; omega
                          have HK := Lib.hid (And.intro hsu3 (And.intro hown (And.intro hb9 hml)))
                          clear hsu3 hown hb9 hM h1 hk9 hSE hob hsv htt hcb hjb hml hbn2
                          go_wp2_with (at_builtin; refine wpList_append_lies _ rfl _ _ 30 rfl w8.heap.size 3 i1 _ 1 8 Try.underlying30 hi1 hv0 hv1 hv2 rfl (by decide) (.slice qa mn qc) _ _ rfl hown2 ⟨wr.heap.size, 0, none⟩ 1 1 [.int .i64 (t : Int)] rfl rfl hna (by simp [Value.oneCell']) (by omega) (by unfold maxLen; omega) (by omega) hBa _ rfl ?_
                                       intro g cap w4 hown4 hgrow4 hat4 hlt4)
                          go_roundw
                          case rel =>
                            obtain ⟨hsu3, hown, hb9, hml⟩ := HK.out
                            have k4 : Fr (fun b => (Value.slice qa mn qc).ownBlock = some b) wr w4 := (Fr.alloc _ _).trans (Fr.grown hgrow4)
                            refine ⟨t + 1, by omega, by simp, ?_, hb9.trans (k4.below hb9.size fun g e => (ownObj hown g e).1)⟩
                            rw [hsu3, List.length_append, List.map_append, hml]
                            exact hown4
                          case measure => simp [intOf]; omega
                      · obtain rfl : t = tn := by omega
                        rw [← HE.out.2.2.2] at hown
                        have hown := own_base hown H8.out.size
                        have hA9 := HE.out.2.1.fr (Fr.new hb9) fun _ _ => id
                        have hb29 := hk9.below_new
                        have hlr : (placeRow G Ls A s p).length ≤ t := by rw [HE.out.2.2.2]; exact trueIx_len _ _
                        have hst : outStep G Ls A s Q p = if (placeRow G Ls A s p).isEmpty then Q else Q ++ [((s : Int), (p : Int), placeRow G Ls A s p)] := by unfold outStep; rw [if_neg (by omega)]
                        obtain ⟨qa, qc, rfl, -, -, -⟩ := own_as_cells hown
                        generalize placeRow G Ls A s p = R at *
                        have hQ : Q.length = vs2.length := hA9.len
                        by_cases hR : R = []
                        · subst hR
                          have HK := Lib.hid (And.intro (HE.out.1.trans (hst.trans (if_pos rfl))) (And.intro hA9 hb29))
                          clear hst hA9 hb29 hown hk9 hSE hb9
                          simp only [List.length_nil]
                          go_wp2
                          go_roundw
                          case rel => exact ⟨p + 1, vs2, by omega, by omega, by simp, by rw [HK.out.1]; exact HK.out.2.1, HK.out.2.2⟩
                          case measure => simp [intOf]; omega
                        · have hRl : 0 < R.length := List.length_pos_iff.2 hR
                          have hRe : R.isEmpty = false := by cases R with | nil => exact absurd rfl hR | cons _ _ => rfl
                          rw [hRe, if_neg (by decide)] at hst
                          obtain ⟨za, zc, rfl, -, -, -⟩ := own_as_cells2 hA9.own
                          have hown2 := hA9.own.alloc (Obj.cells #[.int .i64 (s : Int), .int .i64 (p : Int), .slice qa R.length qc] 123 (0, 0))
                          have hna := three_news (alloc_obj wr (Obj.cells #[.int .i64 (s : Int), .int .i64 (p : Int), .slice qa R.length qc] 123 (0, 0)))
                          have hBa : wF.heap.size ≤ (wr.alloc (Obj.cells #[.int .i64 (s : Int), .int .i64 (p : Int), .slice qa R.length qc] 123 (0, 0))).heap.size := by have := hb29.size; simp; omega
                          have hvl : vs2.length ≤ 40000 := by omega
                          have HK := Lib.hid (And.intro (HE.out.1.trans hst) (And.intro hA9 (And.intro hb29 hown)))
                          clear hst hA9 hb29 hown hk9 hSE hb9 hQ hR hRe
                          generalize hvn : vs2.length = vn at *
                          generalize hRn : R.length = rn at *
                          have HVN := Lib.hid (And.intro hvn hRn)
                          clear hvn hRn
                          go_wp2_with (at_builtin; refine wpList_append_lies _ rfl _ _ 68 rfl wF.heap.size 123 j1 _ 3 40 Try.underlying68 hj1 hw0 hw1 hw2 rfl (by decide) (.slice za vn zc) _ _ rfl hown2 ⟨wr.heap.size, 0, none⟩ 1 1 [.int .i64 (s : Int), .int .i64 (p : Int), .slice qa rn qc] rfl rfl hna (by simp [Value.oneCell']) (by omega) (by unfold maxLen; omega) (by omega) hBa _ rfl ?_
                                       intro g cap w4 hown4 hgrow4 hat4 hlt4)
                          go_roundw
                          case rel =>
                            obtain ⟨hst, hA9, hb29, hown⟩ := HK.out
                            obtain ⟨hvn, hRn⟩ := HVN.out
                            have k4 : Fr (fun b => (Value.slice za vn zc).ownBlock = some b) wr w4 := (Fr.alloc _ _).trans (Fr.grown hgrow4)
                            refine ⟨p + 1, vs2 ++ [.slice qa rn qc], by omega, by omega, by simp, ?_, hb29.trans (k4.below hb29.size fun g e => (ownObj hA9.own g e).1)⟩
                            rw [hst]
                            exact hA9.snoc (x := ((s : Int), (p : Int), R)) (by rw [hRn] at *; exact hown) (by rw [hvn]; exact hown4) k4
                          case measure => simp [intOf]; omega
                · obtain rfl : p = G.prods.length := by omega
                  have HK := Lib.hid (And.intro HO.out.1 (And.intro hA hbel))
                  clear hA hbel hS
                  go_wp2
                  go_roundw
                  case rel => exact ⟨s + 1, vs2, by omega, by simp, by rw [HK.out.1]; exact HK.out.2.1, HK.out.2.2⟩
                  case measure => simp [intOf]; omega
            · obtain rfl : s = k := by omega
              have hSE := (HFF.out.2.2.keep hbel).below
              have HK := Lib.hid (And.intro hA hSE)
              have hwF := HFF.out.2.2.below.size
              clear hA hbel hSE
              go_wp2
              go_ret2
              exact ⟨wF.heap.size, _, vs, rfl, hwF, by rw [HAL.out]; exact HK.out.1, HK.out.2⟩
end Go.Proofs.Ytpnihegmhalcfaa
