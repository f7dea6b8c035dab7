/-
  ItemsWhole: the walk.
-/
import Derived.Test.YtgmkpncpcikecaaItV
namespace Go.Proofs.Ytgmkpncpcikecaa
open Go.RowKit Go.MapKept Go.ChangeMaps
set_option maxHeartbeats 400000

set_option maxRecDepth 100000 in
set_option maxHeartbeats 8000000 in
theorem whole_any (G : Gram) (v : Value) (w : World) (h : IsGram w v G) (hf : Fits G) :
    Calls Try.prog 4 #[v] w fun e w' => e = .returned (.bool true) ∧ Below w.heap.size w w' := by
  have hG := h
  obtain ⟨hterms, vs, vp, rfl, hs, hp⟩ := h
  obtain ⟨_, sa, sc, rfl, _, _, _⟩ := id hs
  obtain ⟨_, pa, pc, rfl, _, _, _⟩ := id hp
  have hS0 : Stands w.heap.size w G sa pa sc pc (w.alloc (grO G sa pa sc pc)) := ⟨alloc_obj _ _, hG.fr (Fr.alloc _ _), (Below.refl _ w).alloc (Nat.le_refl _) _⟩
  have HS0 := Lib.hid hS0
  have HA := Lib.hid (awake19_any (w.alloc (grO G sa pa sc pc)))
  have HF := Lib.hid hf
  unfold grO at HA
  clear hS0 hs hp hG hf
  go_enter Try.func4, Try.ntmps4
  go_upto_region 3 with (go_at_call 10; refine HA.out.mono ?_; rintro e w1 ⟨rfl, hb1⟩)
  have hS1 := HS0.out.keep hb1
  clear hb1 HA HS0
  have HGO := Lib.hid (grammarOf_any G 90 _ w1 hS1.gram HF.out (by omega))
  unfold grV at HGO
  have d0 := hS1.d0
  have d1 := hS1.d1
  have d2 := hS1.d2
  have HS1 := Lib.hid hS1
  clear hS1
  by_cases hP : partsG G 90 ≤ 90
  case neg =>
    have hP' : decide (partsG G 90 > 90) = true := decide_eq_true (by omega)
    go_wp2_with (go_at_call 11; refine HGO.out.mono ?_; rintro e w2 ⟨rfl, hb2⟩)
    go_ret
    exact ⟨rfl, (HS1.out.keep hb2).below⟩
  case pos =>
    have hlen := partsG_len hP
    have hP' : decide (partsG G 90 > 90) = false := decide_eq_false (by omega)
    go_upto_region 5 with (go_at_call 11; refine HGO.out.mono ?_; rintro e w2 ⟨rfl, hb2⟩)
    have hS2 := HS1.out.keep hb2
    clear d0 d1 d2 HGO hP hb2 HS1 hP'
    have d0 := hS2.d0
    have d1 := hS2.d1
    have d2 := hS2.d2
    have HS2 := Lib.hid hS2
    clear hS2
    have HR := Lib.hid fun W (k : Below w2.heap.size w2 W) => right_gram G _ W (HS2.out.keep k).gram
    unfold grV at HR
    cases hr : rightG G
    · have HCB := Lib.hid (col_bad hr _ w2 HS2.out.gram)
      unfold grV at HCB
      rw [hr] at HR
      clear hr
      go_wp2_with (first
        | (go_at_call 7; refine HCB.out.mono ?_; rintro e w3 ⟨rfl, hb3⟩; have hS3 := HS2.out.keep hb3; have HS3 := Lib.hid hS3; have HR3 := Lib.hid (HR.out _ hb3); have e0 := hS3.d0; have e1 := hS3.d1; have e2 := hS3.d2; clear hb3 hS3)
        | (go_at_call 12; refine HR3.out.mono ?_; rintro e w4 ⟨rfl, hb4⟩))
      go_ret
      exact ⟨rfl, (HS3.out.keep hb4).below⟩
    · rw [hr] at HR
      cases hc : colI G with
      | none =>
        have HCB := Lib.hid (col_many hr hc _ w2 HS2.out.gram)
        unfold grV at HCB
        clear hr hc
        go_wp2_with (go_at_call 7; refine HCB.out.mono ?_; rintro e w3 ⟨rfl, hb3⟩)
        go_ret
        exact ⟨rfl, (HS2.out.keep hb3).below⟩
      | some q =>
        obtain ⟨ks, gs⟩ := q
        have HCG := Lib.hid (col_good hr hc _ w2 HS2.out.gram)
        unfold grV at HCG
        have hO := colI_ok hc
        have hK := colI_kok hr hc
        have HO := Lib.hid hO
        have HST := Lib.hid (And.intro (StsAt.start hO) fun i c (h : StsAt gs ks.length i c) hi => StsAt.step hO h hi)
        have HK := Lib.hid hK
        have HRR := Lib.hid hr
        have hN1 := hO.le
        have hN0 : 0 < ks.length := (List.getElem?_eq_some_iff.1 hO.first).1
        have hgl := hO.len
        clear hr hc hO hK
        generalize hNe : ks.length = N at *
        have HN := Lib.hid (And.intro hNe hgl)
        clear hNe hgl
        go_upto_region 8 with (go_at_call 7; refine HCG.out.mono ?_; rintro e w3 ⟨la, lc, rfl, hst3, hb3⟩)
        have HR3 := Lib.hid (HR.out _ hb3)
        have hS3 := HS2.out.keep hb3
        clear d0 d1 d2 hb3 HR HCG HS2
        have d0 := hS3.d0
        have d1 := hS3.d1
        have d2 := hS3.d2
        have HS3 := Lib.hid (And.intro hS3 hst3)
        clear hS3 hst3
        obtain ⟨lb, lo, ka0, kc0, ga0, gc0, rfl, hki, -, c0, -⟩ := HS3.out.2.get (k := 0) (by rw [HN.out.1]; exact hN0) (by rw [HN.out.2]; exact hN0)
        have hk0 : ks[0]'(by rw [HN.out.1]; exact hN0) = [(0, 0)] := (List.getElem?_eq_some_iff.1 HO.out.first).2
        rw [hk0] at hki c0
        have HKI := Lib.hid hki
        simp only [Nat.zero_mul, Nat.add_zero, List.length_cons, List.length_nil, Nat.zero_add] at c0
        clear hki hk0
        have t1 : ((N : Int) == 0) = false := beq_eq_false_iff_ne.2 (by omega)
        have t2 : decide (256 < N) = false := decide_eq_false (by omega)
        go_upto_region 10 with (first
          | (go_at_call 12; refine HR3.out.mono ?_; rintro e w4 ⟨rfl, hb4⟩; have hS4 := HS3.out.1.keep hb4; have hst4 := HS3.out.2.fr (Fr.new hb4); have e0 := (Fr.new hb4).cell c0 id; have HSS := Lib.hid (same_small _ [(0, 0)] #[.int .i64 0, .int .i64 0] 1 w4 (HKI.out.fr (Fr.new hb4)) rfl (by simp [i64]) rfl (by simp)); have HS4 := Lib.hid (And.intro hS4 hst4); clear hS4 hst4 hb4)
          | (go_at_call 13; refine HSS.out.mono ?_; rintro e w5 ⟨rfl, hb5⟩; have hS5 := HS4.out.1.keep hb5; have hst5 := HS4.out.2.fr (Fr.new hb5); have HS5 := Lib.hid (And.intro hS5 hst5); clear hS5 hst5 hb5))
        have hB5 := HS5.out.1.below
        clear HR3 HS3 HKI HSS HS4 c0 e0 d0 d1 d2 t1 t2
        generalize hw5 : w5 = W5 at *
        clear hw5
        go_wp2
        go_loopw [5, 6, 7, 8, 9, 10] (fun c i _ _ _ _ wr => ∃ k cc : Nat, i = .int .i64 k ∧ c = .int .i64 cc ∧ StsAt gs N k cc ∧ Below W5.heap.size W5 wr) (fun _ i _ _ _ _ _ => N - (intOf i).toNat)
        case atStart => exact ⟨0, 1, rfl, rfl, HST.out.1, Below.refl _ _⟩
        case round =>
          obtain ⟨k, cc, rfl, rfl, hsa, hbr⟩ := hrel
          have hkN := hsa.le
          rw [HN.out.2] at hkN
          by_cases hlt : k < N
          · have hkg : k < gs.length := by rw [HN.out.2]; exact hlt
            have hkk : k < ks.length := by rw [HN.out.1]; exact hlt
            obtain ⟨hkc, d, hE, hsa'⟩ := HST.out.2 _ _ hsa hkg
            have HSA := Lib.hid (And.intro hE hsa')
            have HBR := Lib.hid hbr
            clear hE hsa' hsa hbr
            have ht : decide ((k : Int) < (N : Int)) = true := decide_eq_true (by omega)
            have ht2 : decide (cc ≤ k) = false := decide_eq_false (by omega)
            generalize wr = WA at *
            go_wp2
            go_loopw [7] (fun j wq => ∃ m : Nat, m ≤ k ∧ j = .int .i64 m ∧ Below W5.heap.size W5 wq) (fun j _ => k - (intOf j).toNat)
            case atStart => exact ⟨0, Nat.zero_le _, rfl, HBR.out⟩
            case round =>
              obtain ⟨m, hm, rfl, hbq⟩ := hrel
              by_cases hlm : m < k
              · obtain ⟨b1, o1, xa, xc, _, _, e1, i1, -, c0, -⟩ := (HS5.out.2.fr (Fr.new hbq)).get hkk hkg
                obtain ⟨b2, o2, ya, yc, _, _, e2, i2, -, c1, -⟩ := (HS5.out.2.fr (Fr.new hbq)).get (k := m) (by omega) (by omega)
                simp only [Option.some.injEq, Addr.mk.injEq, and_true] at e1 e2
                obtain ⟨rfl, rfl⟩ := e1
                obtain ⟨rfl, rfl⟩ := e2
                have hne : ks[k] ≠ ks[m] := fun e => by
                  have := (List.getElem_inj HO.out.nodup).1 e
                  omega
                have hd := decide_eq_false hne
                have HSM := Lib.hid fun p : After wr => after_call_drew p (sameItems_any _ _ ks[k] ks[m] p.w (i1.fr (Fr.new p.ok)) (i2.fr (Fr.new p.ok)))
                rw [hd] at HSM
                have q0 := after_cell c0
                have q1 := after_cell c1
                have hne := after_ne wr
                have HBQ := Lib.hid hbq
                clear c0 c1 i1 i2 hbq hd hne
                generalize ks[k].length = nk at *
                generalize ks[m].length = nm at *
                have hne := after_ne wr
                go_upto_region 19 with fail
                refine wp_region_after wr (by kernel_rfl) (by kernel_rfl) (Below.refl _ _) ?_
                repeat (go_big_quiet_step (exact HSM.out _))
                refine wpQuiet_nil ?_
                intro _ hw'
                obtain ⟨p, hw''⟩ := hw'
                subst hw''
                go_wp2
                go_roundw
                case rel => exact ⟨m + 1, by omega, by simp, HBQ.out.trans (p.ok.mono HBQ.out.size)⟩
                case measure => simp [intOf]; omega
              · obtain rfl : m = k := by omega
                have HBQ := Lib.hid hbq
                clear hbq hm hlm
                generalize wr = WB at *
                have hKin := HK.out m hkk
                have hok : okI G ks[m] = true := by
                  unfold okI
                  rw [HRR.out, Bool.true_and, List.all_eq_true]
                  exact fun x hx => decide_eq_true (hKin.2 x hx)
                have hgo : ∀ s, gotoE G ks[m] s = onI G (cloL G ks[m]) s := fun s => if_pos hok
                have hget : ks.getD m [] = ks[m] := by rw [List.getD_eq_getElem?_getD, List.getElem?_eq_getElem hkk, Option.getD_some]
                rw [hget] at HSA
                have hkl : ks[m].length ≤ 100000 := by have := hKin.1; omega
                have hpl : G.prods.length ≤ 100000 := by omega
                have hsh : ∀ x ∈ cloL G ks[m], InI G x := fun x hx => inClo_in hKin.2 (cloL_mem.1 hx)
                have hcl := cloL_len G ks[m]
                have hon : ∀ s, (∀ x ∈ onI G (cloL G ks[m]) s, i64 x.1 ∧ i64 x.2) ∧ (onI G (cloL G ks[m]) s).length ≤ 1000000 := fun s =>
                  ⟨fun x hx => smallI_i64 (inI_small HRR.out (onI_in hsh s x hx)), by have := onI_len G (cloL G ks[m]) s; omega⟩
                have HGO := Lib.hid (And.intro hgo (And.intro hkl (And.intro hpl hon)))
                clear hKin hok hgo hget hkl hpl hsh hcl hon
                generalize hLe : cloL G ks[m] = L at *
                clear hLe
                generalize hEs : gs[m] = es at *
                have HES := Lib.hid hEs
                clear hEs
                have hns : G.syms.length ≤ 1000 := by omega
                go_wp2
                go_loopw [5, 8, 9, 10] (fun c a s _ wq => ∃ cx ax sx : Nat, c = .int .i64 cx ∧ a = .int .i64 ax ∧ s = .int .i64 sx ∧ sx ≤ G.syms.length ∧ EdgAt G L ks es d sx ax cx ∧ Below W5.heap.size W5 wq) (fun _ _ s _ _ => G.syms.length - (intOf s).toNat)
                case atStart => exact ⟨cc, 0, 0, rfl, rfl, rfl, Nat.zero_le _, HSA.out.1, HBQ.out⟩
                case round =>
                  obtain ⟨cx, ax, sx, rfl, rfl, rfl, hsx, hE, hbr⟩ := hrel
                  have hS := HS5.out.1.keep hbr
                  have d1 := hS.d1
                  by_cases hls : sx < G.syms.length
                  · have d0 := hS.d0
                    have d2 := hS.d2
                    obtain ⟨b1, o1, ka, kc, ga, gc, e1, i1, i2, c0, c1⟩ := (HS5.out.2.fr (Fr.new hbr)).get hkk hkg
                    simp only [Option.some.injEq, Addr.mk.injEq, and_true] at e1
                    obtain ⟨rfl, rfl⟩ := e1
                    rw [HES.out] at i2 c1
                    have HGT := Lib.hid (gotoF_any G (grV G sa pa sc pc) (.slice ka ks[m].length kc) ks[m] wr.drew (hS.gram.fr (Fr.drew _)) (i1.fr (Fr.drew _)) sx HGO.out.2.2.1 HGO.out.2.1)
                    rw [HGO.out.1] at HGT
                    unfold grV at HGT
                    have HE := Lib.hid (And.intro hE (And.intro hbr i2))
                    clear hE hbr i1 i2 hS
                    generalize ks[m].length = nk at *
                    generalize hMe : onI G L (sx : Int) = M at *
                    have HME := Lib.hid hMe
                    have hon := HGO.out.2.2.2 sx
                    rw [hMe] at hon
                    clear hMe
                    have hS0 : wr.drew.cell? ⟨w.heap.size, 0, none⟩ = some (.int .i64 G.terms) ∧ wr.drew.cell? ⟨w.heap.size, 1, none⟩ = some (.slice sa G.syms.length sc) ∧ wr.drew.cell? ⟨w.heap.size, 2, none⟩ = some (.slice pa G.prods.length pc) ∧ wr.drew.cell? ⟨lb, lo + m * 2, none⟩ = some (.slice ka nk kc) := ⟨d0, d1, d2, c0⟩
                    have HC := Lib.hid (And.intro c0 (And.intro c1 hon))
                    clear d0 d2 c0 c1 hon
                    go_upto_region 25 with fail
                    clear d1
                    refine wp_region_anyT (fun j W => j < 7 → W.cell? ⟨w.heap.size, 0, none⟩ = some (.int .i64 G.terms) ∧ W.cell? ⟨w.heap.size, 1, none⟩ = some (.slice sa G.syms.length sc) ∧ W.cell? ⟨w.heap.size, 2, none⟩ = some (.slice pa G.prods.length pc) ∧ W.cell? ⟨lb, lo + m * 2, none⟩ = some (.slice ka nk kc)) (by kernel_rfl) ?_
                    refine anyT_take (R := _) (i := 0) (v := ?_) (fun j => decide (j < 7)) (fun j w h k => k (of_decide_eq_true h)) (fun w h _ => h) rfl (by kernel_rfl) (fun _ _ _ h => h) _ _ _ _ (by kernel_rfl) (by kernel_rfl) (by kernel_rfl) (by kernel_rfl) (Or.inl ⟨by rfl, ?_⟩) (by assumption) ?_
                    rotate_left
                    · (intro w hSw; (try dsimp only at hSw); go_simp)
                      try with_reducible rfl
                    refine anyT_take (R := _) (i := 1) (v := ?_) (fun j => decide (j < 7)) (fun j w h k => k (of_decide_eq_true h)) (fun w h _ => h) rfl (by kernel_rfl) (fun _ _ _ h => h) _ _ _ _ (by kernel_rfl) (by kernel_rfl) (by kernel_rfl) (by kernel_rfl) (Or.inl ⟨by rfl, ?_⟩) (by assumption) ?_
                    rotate_left
                    · (intro w hSw; (try dsimp only at hSw); go_simp)
                      try with_reducible rfl
                    refine anyT_take (R := _) (i := 2) (v := ?_) (fun j => decide (j < 7)) (fun j w h k => k (of_decide_eq_true h)) (fun w h _ => h) rfl (by kernel_rfl) (fun _ _ _ h => h) _ _ _ _ (by kernel_rfl) (by kernel_rfl) (by kernel_rfl) (by kernel_rfl) (Or.inl ⟨by rfl, ?_⟩) (by assumption) ?_
                    rotate_left
                    · (intro w hSw; (try dsimp only at hSw); go_simp)
                      try with_reducible rfl
                    refine anyT_take (R := _) (i := 3) (v := ?_) (fun j => decide (j < 7)) (fun j w h k => k (of_decide_eq_true h)) (fun w h _ => h) rfl (by kernel_rfl) (fun _ _ _ h => h) _ _ _ _ (by kernel_rfl) (by kernel_rfl) (by kernel_rfl) (by kernel_rfl) (Or.inl ⟨by rfl, ?_⟩) (by assumption) ?_
                    rotate_left
                    · (intro w hSw; (try dsimp only at hSw); go_simp)
                      try with_reducible rfl
                    refine anyT_take (R := _) (i := 4) (v := ?_) (fun j => decide (j < 7)) (fun j w h k => k (of_decide_eq_true h)) (fun w h _ => h) rfl (by kernel_rfl) (fun _ _ _ h => h) _ _ _ _ (by kernel_rfl) (by kernel_rfl) (by kernel_rfl) (by kernel_rfl) (Or.inl ⟨by rfl, ?_⟩) (by assumption) ?_
                    rotate_left
                    · (intro w hSw; (try dsimp only at hSw); go_simp)
                      try with_reducible rfl
                    refine anyT_take (R := _) (i := 5) (v := ?_) (fun j => decide (j < 7)) (fun j w h k => k (of_decide_eq_true h)) (fun w h _ => h) rfl (by kernel_rfl) (fun _ _ _ h => h) _ _ _ _ (by kernel_rfl) (by kernel_rfl) (by kernel_rfl) (by kernel_rfl) (Or.inl ⟨by rfl, ?_⟩) (by assumption) ?_
                    rotate_left
                    · (intro w hSw; (try dsimp only at hSw); go_simp)
                      try with_reducible rfl
                    refine anyT_take (R := _) (i := 6) (v := ?_) (fun j => decide (j < 7)) (fun j w h k => k (of_decide_eq_true h)) (fun w h _ => h) rfl (by kernel_rfl) (fun _ _ _ h => h) _ _ _ _ (by kernel_rfl) (by kernel_rfl) (by kernel_rfl) (by kernel_rfl) (Or.inl ⟨by rfl, ?_⟩) (by assumption) ?_
                    rotate_left
                    · (intro w hSw; (try dsimp only at hSw); go_simp)
                      try with_reducible rfl
                    refine anyT_ready (rs := [7]) (by kernel_rfl) (by simp) ?_
                    intro j hj
                    obtain rfl := List.mem_singleton.1 hj
                    clear hj
                    refine wpOp_plain rfl rfl ?_
                    go_simp
                    refine HGT.out.mono ?_
                    rintro e w7 ⟨u, rfl, hu, hb7⟩
                    dsimp only
                    refine anyT_ready (rs := [8]) (by kernel_rfl) (by simp) ?_
                    intro j hj
                    obtain rfl := List.mem_singleton.1 hj
                    clear hj
                    refine wpOp_plain rfl rfl ?_
                    go_simp
                    refine anyT_done (by kernel_rfl) ?_ _
                    have hb7' : Below wr.heap.size wr w7 := ((Fr.drew wr).trans (Fr.new hb7)).below_new
                    have hbq : Below W5.heap.size W5 w7 := HE.out.2.1.trans (hb7'.mono HE.out.2.1.size)
                    have hi7 : IsItems w7 u M := OwnI.items hu HC.out.2.2.1 (by have := HC.out.2.2.2; omega)
                    obtain ⟨ua, uc, e, -, -, -⟩ := hi7.parts
                    have e' : u = .slice ua M.length uc := e
                    subst e'
                    have HI7 := Lib.hid hi7
                    have hst := HE.out.1.step hls
                    rw [HME.out] at hst
                    have HB7 := Lib.hid hbq
                    have HGE := Lib.hid (HE.out.2.2.fr (Fr.new hb7'))
                    have c0 := (Fr.new hb7').cell HC.out.1 id
                    have c1 := (Fr.new hb7').cell HC.out.2.1 id
                    clear hu hb7 hb7' hbq hi7 HE HGT hS0 HC
                    rcases hst with ⟨hm0, hE⟩ | ⟨hm0, j, hax, hje, hjk, hE⟩
                    · have HE := Lib.hid hE
                      subst hm0
                      clear hE c0 c1
                      simp only [List.length_nil]
                      go_wp2
                      go_roundw
                      case rel => exact ⟨cx, ax, sx + 1, rfl, rfl, by simp, by omega, HE.out, HB7.out⟩
                      case measure => simp [intOf]; omega
                    · have hjN : j < ks.length := (List.getElem?_eq_some_iff.1 hjk).1
                      have hjN' : j < N := by rw [← HN.out.1]; exact hjN
                      have hjM : ks[j] = M := (List.getElem?_eq_some_iff.1 hjk).2
                      obtain ⟨b2, o2, rfl, g0, g1, -, -⟩ := HGE.out.at hax
                      rw [hje] at g0 g1
                      simp only at g0 g1
                      obtain ⟨b3, o3, xa, xc, _, _, e1, i3, -, c2, -⟩ := (HS5.out.2.fr (Fr.new HB7.out)).get hjN (by rw [HN.out.2]; exact hjN')
                      simp only [Option.some.injEq, Addr.mk.injEq, and_true] at e1
                      obtain ⟨rfl, rfl⟩ := e1
                      rw [hjM] at i3 c2
                      have HSM := Lib.hid ((sameItems_any _ _ M M w7 i3 HI7.out).mono fun e w' (hh : e = .returned (.bool (decide (M = M))) ∧ ∃ n, w' = w7.drewN n) => show e = .returned (.bool true) ∧ Below w7.heap.size w7 w' from ⟨by rw [hh.1, decide_eq_true rfl], by obtain ⟨n, rfl⟩ := hh.2; exact below_drewN (Below.refl _ _) _⟩)
                      have HE := Lib.hid hE
                      have hen : es.length ≤ 17592186044416 := HGE.out.1
                      have hml : M.length ≠ 0 := fun e => hm0 (List.eq_nil_of_length_eq_zero e)
                      clear hE c0 i3 hm0 hje hjk hjM hjN HGE HI7
                      generalize M.length = mn at *
                      generalize es.length = en at *
                      have t1 : ((mn : Int) == 0) = false := beq_eq_false_iff_ne.2 (by omega)
                      have t2 : decide (en ≤ ax) = false := decide_eq_false (by omega)
                      have t3 : decide (N ≤ j) = false := decide_eq_false (by omega)
                      go_upto_region 29 with (go_at_call 13; refine HSM.out.mono ?_; rintro e w8 ⟨rfl, hb8⟩)
                      have c1 := (Fr.new hb8).cell c1 id
                      have g0 := (Fr.new hb8).cell g0 id
                      have g1 := (Fr.new hb8).cell g1 id
                      have HB8 := Lib.hid (HB7.out.trans (hb8.mono HB7.out.size))
                      clear hb8 c2 HSM t1 t2 t3
                      rcases HE.out with ⟨hjc, hE⟩ | ⟨hjc, hE⟩
                      · have HE2 := Lib.hid hE
                        have t1 : ((j : Int) == (cx : Int)) = false := beq_eq_false_iff_ne.2 (by omega)
                        have t2 : decide (cx < j) = false := decide_eq_false (by omega)
                        clear hE HE
                        go_wp2
                        go_roundw
                        case rel => exact ⟨cx, ax + 1, sx + 1, rfl, by simp, by simp, by omega, HE2.out, HB8.out⟩
                        case measure => simp [intOf]; omega
                      · have HE2 := Lib.hid hE
                        subst hjc
                        clear hE HE
                        go_wp2
                        go_roundw
                        case rel => exact ⟨j + 1, ax + 1, sx + 1, by simp, by simp, by simp, by omega, HE2.out, HB8.out⟩
                        case measure => simp [intOf]; omega
                  · obtain rfl : sx = G.syms.length := by omega
                    obtain ⟨hax, rfl⟩ := hE.done
                    subst hax
                    obtain ⟨b1, o1, ka, kc, ga, gc, e1, i1, i2, c0, c1⟩ := (HS5.out.2.fr (Fr.new hbr)).get hkk hkg
                    simp only [Option.some.injEq, Addr.mk.injEq, and_true] at e1
                    obtain ⟨rfl, rfl⟩ := e1
                    rw [HES.out] at c1
                    have HBR2 := Lib.hid hbr
                    clear hbr hE i1 i2 hS c0 hls
                    generalize es.length = en at *
                    go_wp2
                    go_roundw
                    case rel => exact ⟨m + 1, cx, by simp, rfl, HSA.out.2, HBR2.out⟩
                    case measure => simp [intOf]; omega
          · obtain rfl : k = N := by omega
            have HBR := Lib.hid hbr
            clear hbr hlt
            go_wp2
            go_ret
            exact ⟨rfl, hB5.trans (HBR.out.mono hB5.size)⟩
end Go.Proofs.Ytgmkpncpcikecaa
