/-
  gristmillref19: Collection.
-/
import Derived.Test.YtpnihegmhalcfaaRunG16
namespace Go.Proofs.Ytpnihegmhalcfaa
open Go.RowKit Go.MapKept Go.ChangeMaps
set_option maxHeartbeats 400000

/-- What the document's Collection tells. -/
def Col19P (G : Gram) (w : World) (e : Ending) (w' : World) : Prop := Below w.heap.size w w' ∧
  if rightG G = false then e = .returned (.tuple #[.slice none 0 0, .int .i64 2]) else match colI G with
  | some (ks, gs) => ∃ B lv vs, e = .returned (.tuple #[lv, .int .i64 0]) ∧ StsR w' B lv vs ks gs ∧ w.heap.size ≤ B
  | none => e = .returned (.tuple #[.slice none 0 0, .int .i64 104])

set_option maxRecDepth 100000 in
set_option maxHeartbeats 8000000 in
theorem col19_any (G : Gram) (v : Value) (w : World) (h : IsGram w v G) :
    Calls Try.prog 27 #[v] w (Col19P G w) := by
  have hG := h
  obtain ⟨hterms, vs, vp, rfl, hs, hp⟩ := h
  obtain ⟨-, sa, sc, rfl, -, -, -⟩ := id hs
  obtain ⟨-, pa, pc, rfl, -, -, -⟩ := id hp
  have hS0 : Stands w.heap.size w G sa pa sc pc (w.alloc (grO G sa pa sc pc)) := ⟨alloc_obj _ _, hG.fr (Fr.alloc _ _), (Below.refl _ w).alloc (Nat.le_refl _) _⟩
  have HS0 := Lib.hid hS0
  clear hS0 hs hp hG
  obtain ⟨i0, hi, hz0, hz1, hz2⟩ := info_parts Try.infoEdge
  obtain ⟨j0, hj, hy0, hy1, hy2⟩ := info_parts Try.infoState
  go_enter Try.func27, Try.ntmps27
  go_upto_region 1 with fail
  unfold grO at HS0
  generalize hw1 : w.alloc (Obj.cells #[.int .i64 G.terms, .slice sa G.syms.length sc, .slice pa G.prods.length pc] 25 (0, 0)) = W1 at *
  clear hw1
  have HRT := Lib.hid (right14_gram G _ W1 HS0.out.gram)
  unfold grV at HRT
  have d0 := HS0.out.d0
  have d1 := HS0.out.d1
  have d2 := HS0.out.d2
  cases hr : rightG G with
  | false =>
    rw [hr] at HRT
    have HR := Lib.hid hr
    clear hr
    go_wp2_with (go_at_call 48; refine HRT.out.mono ?_; rintro e w2 ⟨rfl, hb2⟩)
    go_ret2
    exact ⟨(HS0.out.keep hb2).below, by rw [if_pos HR.out]; rfl⟩
  | true =>
    rw [hr] at HRT
    have HR := Lib.hid hr
    have hpl := right_short hr
    have hpp := (rightG_parts hr).1
    clear hr
    go_upto_region 3 with (go_at_call 48; refine HRT.out.mono ?_; rintro e w2 ⟨rfl, hb2⟩)
    have hS2 := HS0.out.keep hb2
    clear d0 d1 d2 hb2 HRT HS0
    have HS2 := Lib.hid hS2
    clear hS2
    go_upto_region 4 with fail
    refine wp_at (F := fun W => StsR W w2.heap.size (.slice (some ⟨w2.heap.size + 1, 0, none⟩) 1 1) [(.slice (some ⟨w2.heap.size, 0, none⟩) 1 1, .slice none 0 0)] [[(0, 0)]] [[]] ∧ Below w2.heap.size w2 W) ⟨?_, ?_⟩ ?_
    · refine ⟨own_laid0 (n := 1) (alloc_at (by simp)) (by omega) rfl (by unfold maxLen; omega), rfl, rfl, fun k hk x hx => ?_, fun i hi => ?_, fun i hi => ?_, fun i j hi hj g hne hg => ?_⟩
      · rw [List.mem_singleton.1 hk] at hx
        rw [List.mem_singleton.1 hx]
        exact ⟨(small_iff _).2 (by omega), (small_iff _).2 (by omega)⟩
      · obtain rfl : i = 0 := by simpa using hi
        exact own_laid0 (n := 1) (alloc_older (alloc_obj _ _)) (Nat.le_refl _) rfl (by unfold maxLen; omega)
      · obtain rfl : i = 0 := by simpa using hi
        exact World.ownsRow_nil _ _ _ _
      · simp at hi hj
        omega
    · exact ((Below.refl _ w2).alloc (Nat.le_refl _) _).alloc (by simp) _
    intro W3 ⟨hst3, hb3⟩
    have hin0 : InI G (0, 0) := ⟨Int.le_refl _, by show (0 : Int) < _; omega, Int.le_refl _, by show (0 : Int) ≤ _; omega⟩
    have hc3 : ColR G W3 w2.heap.size 0 (.slice (some ⟨w2.heap.size + 1, 0, none⟩) 1 1) [(.slice (some ⟨w2.heap.size, 0, none⟩) 1 1, .slice none 0 0)] [[(0, 0)]] [] := ⟨hst3, rfl, Nat.zero_le _, by simp, fun j hj => by
      obtain rfl : j = 0 := by simpa using hj
      exact ⟨by simp, fun x hx => by rw [List.mem_singleton.1 hx]; exact hin0⟩, rfl⟩
    have H3 := Lib.hid (And.intro hc3 hb3)
    clear hst3 hb3 hin0 hc3
    generalize hBe : w2.heap.size = B at *
    have HB := Lib.hid hBe
    clear hBe
    go_wp2
    go_loopw [4, 5, 6, 7, 8, 9] (fun u i _ _ _ _ wr => ∃ (k : Nat) (lv : Value) (vs : List (Value × Value)) (ks : List (List It)) (gs : List (List (Int × Int))), lv = u ∧ i = .int .i64 k ∧ ColR G wr B k lv vs ks gs ∧ Below B w2 wr) (fun _ i _ _ _ _ _ => 256 - (intOf i).toNat)
    case atStart => exact ⟨0, _, _, _, _, rfl, rfl, H3.out.1, H3.out.2⟩
    case round =>
      obtain ⟨k, lv, vs, ks, gs, rfl, rfl, hcm, hbw⟩ := hrel
      have hS := HS2.out.keep (show Below w2.heap.size w2 wr from by rw [HB.out]; exact hbw)
      have hvl : vs.length = ks.length := hcm.sts.lk.symm
      have hkn := hcm.lk
      have hn := hcm.le
      by_cases hlt : k < ks.length
      · have hk' : k < vs.length := by omega
        obtain ⟨lb, lc, rfl, hlbB, hcell, -⟩ := hcm.sts.cells (by omega)
        have hK := hcm.ok k hlt
        have hker := hcm.sts.ker k hk'
        rw [List.getD_eq_getElem?_getD, List.getElem?_eq_getElem hlt, Option.getD_some] at hker
        have e0 := (hcell k hk').1
        have hki := hker.items (fun x hx => smallI_i64 (inI_small HR.out (hK.2 x hx))) (by have := hK.1; omega)
        have HOF := Lib.hid (of19_any G (grV G sa pa sc pc) vs[k].1 ks[k] wr.drew (hS.gram.fr (Fr.drew _)) HR.out (hki.fr (Fr.drew _)) hK.2 (by have := hK.1; omega))
        unfold grV at HOF
        have hS0' : wr.drew.cell? ⟨w.heap.size, 0, none⟩ = some (.int .i64 G.terms) ∧ wr.drew.cell? ⟨w.heap.size, 1, none⟩ = some (.slice sa G.syms.length sc) ∧ wr.drew.cell? ⟨w.heap.size, 2, none⟩ = some (.slice pa G.prods.length pc) ∧ wr.drew.cell? ⟨lb, k * 2, none⟩ = some vs[k].1 := ⟨hS.d0, hS.d1, hS.d2, e0⟩
        have hLi : ∀ x ∈ cloL G ks[k], InI G x := fun x hx => inClo_in hK.2 (cloL_mem.1 hx)
        have hLl : (cloL G ks[k]).length ≤ 40000 := by
          have h1 := cloL_len G ks[k]
          have h2 := hK.1
          omega
        have hstart := fun (w' : World) (av : Value) (L : List It) (hF : Fr nothing wr w') (hL : L = cloL G ks[k]) (ha : OwnI w' B av L) => colR_start hcm hlt hF hL ha
        have HCM := Lib.hid (And.intro hstart (And.intro hK (And.intro hLi hLl)))
        have HBW := Lib.hid hbw
        have hBwr : B ≤ wr.heap.size := Nat.le_trans hlbB (Nat.le_of_lt (World.block_lt_of_cell? wr _ e0))
        clear hcm hbw hLi hLl hK hker hcell hki e0 hstart hS hlbB
        generalize hKv : vs[k].1 = kv at *
        clear hKv hk'
        generalize hnv : vs.length = nv at *
        have HNV := Lib.hid hnv
        clear hnv hkn
        generalize hLe : cloL G ks[k] = L at *
        have HLE := Lib.hid hLe
        clear hLe
        have ht : decide ((k : Int) < (nv : Int)) = true := decide_eq_true (by omega)
        have hkv : k < nv := by omega
        have hnv6 : nv ≤ 256 := by omega
        have HVL := Lib.hid hvl
        clear hvl
        go_upto_region 7 with fail
        refine wp_region_anyT (fun j W => j < 6 → W.cell? ⟨w.heap.size, 0, none⟩ = some (.int .i64 G.terms) ∧ W.cell? ⟨w.heap.size, 1, none⟩ = some (.slice sa G.syms.length sc) ∧ W.cell? ⟨w.heap.size, 2, none⟩ = some (.slice pa G.prods.length pc) ∧ W.cell? ⟨lb, k * 2, none⟩ = some kv) (by kernel_rfl) ?_
        refine anyT_take (R := _) (i := 0) (v := ?_) (fun j => decide (j < 6)) (fun j w h k => k (of_decide_eq_true h)) (fun w h _ => h) rfl (by kernel_rfl) (fun _ _ _ h => h) _ _ _ _ (by kernel_rfl) (by kernel_rfl) (by kernel_rfl) (by kernel_rfl) (Or.inl ⟨by rfl, ?_⟩) (by assumption) ?_
        rotate_left
        · (intro w hSw; (try dsimp only at hSw); go_simp)
          try with_reducible rfl
        refine anyT_take (R := _) (i := 1) (v := ?_) (fun j => decide (j < 6)) (fun j w h k => k (of_decide_eq_true h)) (fun w h _ => h) rfl (by kernel_rfl) (fun _ _ _ h => h) _ _ _ _ (by kernel_rfl) (by kernel_rfl) (by kernel_rfl) (by kernel_rfl) (Or.inl ⟨by rfl, ?_⟩) (by assumption) ?_
        rotate_left
        · (intro w hSw; (try dsimp only at hSw); go_simp)
          try with_reducible rfl
        refine anyT_take (R := _) (i := 2) (v := ?_) (fun j => decide (j < 6)) (fun j w h k => k (of_decide_eq_true h)) (fun w h _ => h) rfl (by kernel_rfl) (fun _ _ _ h => h) _ _ _ _ (by kernel_rfl) (by kernel_rfl) (by kernel_rfl) (by kernel_rfl) (Or.inl ⟨by rfl, ?_⟩) (by assumption) ?_
        rotate_left
        · (intro w hSw; (try dsimp only at hSw); go_simp)
          try with_reducible rfl
        refine anyT_take (R := _) (i := 3) (v := ?_) (fun j => decide (j < 6)) (fun j w h k => k (of_decide_eq_true h)) (fun w h _ => h) rfl (by kernel_rfl) (fun _ _ _ h => h) _ _ _ _ (by kernel_rfl) (by kernel_rfl) (by kernel_rfl) (by kernel_rfl) (Or.inl ⟨by rfl, ?_⟩) (by assumption) ?_
        rotate_left
        · (intro w hSw; (try dsimp only at hSw); go_simp)
          try with_reducible rfl
        refine anyT_take (R := _) (i := 4) (v := ?_) (fun j => decide (j < 6)) (fun j w h k => k (of_decide_eq_true h)) (fun w h _ => h) rfl (by kernel_rfl) (fun _ _ _ h => h) _ _ _ _ (by kernel_rfl) (by kernel_rfl) (by kernel_rfl) (by kernel_rfl) (Or.inl ⟨by rfl, ?_⟩) (by assumption) ?_
        rotate_left
        · (intro w hSw; (try dsimp only at hSw); go_simp)
          try with_reducible rfl
        refine anyT_take (R := _) (i := 5) (v := ?_) (fun j => decide (j < 6)) (fun j w h k => k (of_decide_eq_true h)) (fun w h _ => h) rfl (by kernel_rfl) (fun _ _ _ h => h) _ _ _ _ (by kernel_rfl) (by kernel_rfl) (by kernel_rfl) (by kernel_rfl) (Or.inl ⟨by rfl, ?_⟩) (by assumption) ?_
        rotate_left
        · (intro w hSw; (try dsimp only at hSw); go_simp)
          try with_reducible rfl
        refine anyT_ready (rs := [6]) (by kernel_rfl) (by simp) ?_
        intro j hj
        obtain rfl := List.mem_singleton.1 hj
        clear hj
        refine wpOp_plain rfl rfl ?_
        go_simp
        refine HOF.out.mono ?_
        rintro e w7 ⟨u, rfl, hu7, ho7, hb7⟩
        dsimp only
        refine anyT_ready (rs := [7]) (by kernel_rfl) (by simp) ?_
        intro j hj
        obtain rfl := List.mem_singleton.1 hj
        clear hj
        refine wpOp_plain rfl rfl ?_
        go_simp
        refine anyT_done (by kernel_rfl) ?_ _
        have k7 : Fr nothing wr w7 := (Fr.drew wr).trans (Fr.new hb7)
        have hir := HCM.out.1 w7 u L k7 rfl (ho7.down hBwr)
        have hbin : Below B w2 w7 := HBW.out.trans (k7.below hBwr fun _ e => e.elim)
        have HIN := Lib.hid (And.intro hir hbin)
        obtain ⟨ua, uc, rfl, -, -, -⟩ := id hu7.parts
        have hcond : ∀ x ∈ L, InI G x := HCM.out.2.2.1
        have HLI := Lib.hid hcond
        have HLL := Lib.hid HCM.out.2.2.2
        clear hir hbin hu7 ho7 hb7 k7 HOF hS0' hBwr hcond
        generalize hll : L.length = nl at *
        have HNL := Lib.hid hll
        clear hll
        have hns : G.syms.length ≤ 1000 := by omega
        have hnl4 : nl ≤ 40000 := HLL.out
        go_wp2
        go_loopw [4, 7, 8, 9] (fun u s _ _ wr => ∃ (s' : Nat) (lv : Value) (vs : List (Value × Value)) (ks' : List (List It)) (es : List (Int × Int)), lv = u ∧ s = .int .i64 s' ∧ s' ≤ G.syms.length ∧ InR G L wr B k (.slice ua nl uc) gs s' lv vs ks' es ∧ Below B w2 wr) (fun _ s _ _ _ => G.syms.length - (intOf s).toNat)
        case atStart => exact ⟨0, _, _, _, _, rfl, rfl, Nat.zero_le _, HIN.out.1, HIN.out.2⟩
        case round =>
          obtain ⟨s, lv, vs', ks', es, rfl, rfl, hsn, him, hbw⟩ := hrel
          have hS := HS2.out.keep (show Below w2.heap.size w2 wr from by rw [HB.out]; exact hbw)
          have d1 := hS.d1
          by_cases hls : s < G.syms.length
          · have d0 := hS.d0
            have d2 := hS.d2
            have HON := Lib.hid (on19_any G (grV G sa pa sc pc) (.slice ua nl uc) L (s : Int) wr hS.gram HR.out (by have := OwnI.items him.all (fun x hx => smallI_i64 (inI_small HR.out (HLI.out x hx))) (by rw [HNL.out]; omega); exact this) HLI.out (by rw [HNL.out]; omega) (by omega))
            unfold grV at HON
            have hMs : ∀ x ∈ onI G L (s : Int), smallI x := fun x hx => inI_small HR.out (onI_in HLI.out (s : Int) x hx)
            have hMl : (onI G L (s : Int)).length ≤ 40000 := by have := onI_len G L (s : Int); rw [HNL.out] at this; omega
            have hskip := fun w' (hF : Fr nothing wr w') ho => inR_skip him hls hF ho
            have hmany := inR_many him hls
            have hgo := fun c ks1 ho hp => inR_go (c := c) (ks1 := ks1) him hls ho hp
            have HIM := Lib.hid (And.intro him hbw)
            have HG := Lib.hid (And.intro hskip (And.intro hmany hgo))
            have HMS := Lib.hid (And.intro hMs hMl)
            clear him hbw hskip hmany hgo hMs hMl hS
            generalize hMe : onI G L (s : Int) = M at *
            have HME := Lib.hid hMe
            clear hMe
            go_upto_region 12 with (go_at_call 50; refine HON.out.mono ?_; rintro e w8 ⟨u8, rfl, hu8, hb8⟩)
            obtain ⟨qa, qc, rfl, -, -, -⟩ := own_as_cells2 hu8
            by_cases hM0 : M = []
            · have hI := HG.out.1 w8 (Fr.new hb8) hM0
              have hbs : B ≤ wr.heap.size := by have := HIM.out.2.size; rw [HB.out] at this; exact this
              have HE := Lib.hid (And.intro hI (HIM.out.2.trans (hb8.mono hbs)))
              subst hM0
              simp only [List.length_nil]
              clear hI hu8 hb8 d0 d1 d2 HON
              go_wp2
              go_roundw
              case rel => exact ⟨s + 1, _, _, _, _, rfl, by simp, by omega, HE.out.1, HE.out.2⟩
              case measure => simp [intOf]; omega
            · have hml0 : M.length ≠ 0 := fun e => hM0 (List.eq_nil_of_length_eq_zero e)
              have him8 := HIM.out.1
              have hkv : k < vs'.length := by rw [← him8.sts.lk]; exact him8.lk
              have hvl : vs'.length = ks'.length := him8.sts.lk.symm
              have hst8 := him8.sts.fr (Fr.new hb8)
              have hall8 := own_fr him8.all (Fr.new hb8) fun _ _ => id
              obtain ⟨lb2, lc2, rfl, hlbB, hcell8, -⟩ := hst8.cells (by omega)
              have hbs : B ≤ wr.heap.size := by have := HIM.out.2.size; rw [HB.out] at this; exact this
              have hB8 : B ≤ w8.heap.size := Nat.le_trans hbs hb8.size
              have hbw8 := HIM.out.2.trans (hb8.mono hbs)
              have hu8i : IsItems w8 (.slice qa M.length qc) M := OwnI.items hu8 (fun x hx => smallI_i64 (HMS.out.1 x hx)) (by have := HMS.out.2; omega)
              have hkvs := fun j (hj : j < vs'.length) => hst8.ker j hj
              have hsm := him8.sts.small
              have HS8 := Lib.hid (And.intro hst8 (And.intro hall8 (And.intro hbw8 (And.intro hu8i hsm))))
              have HLG := Lib.hid (And.intro him8.lg him8.ln)
              have HOK := Lib.hid (And.intro him8.ok (And.intro him8.le him8.lk))
              have hmany := fun hp => HG.out.2.1 hM0 hp
              have hgo := fun c ks1 hp => HG.out.2.2 c ks1 hM0 hp
              have HG2 := Lib.hid (And.intro hmany hgo)
              have HU8 := Lib.hid (hu8.down hbs)
              have hn256 : vs'.length ≤ 256 := by rw [hvl]; exact him8.le
              have HCL := Lib.hid hcell8
              have HKS := Lib.hid hkvs
              clear him8 hst8 hall8 hcell8 hbw8 hu8i hkvs hsm hmany hgo HG d0 d1 d2 HON hu8 hb8 hbs
              generalize hmn : M.length = mn at *
              have HMN := Lib.hid hmn
              clear hmn
              obtain ⟨n2, hn2⟩ : ∃ n, vs'.length = n := ⟨_, rfl⟩
              rw [hn2] at hvl hn256 HS8 ⊢
              have HN2 := Lib.hid (And.intro hn2 hvl)
              have hkn2 : k < n2 := by rw [← hn2]; exact hkv
              clear hn2 hvl
              have t1 : ((mn : Int) == 0) = false := beq_eq_false_iff_ne.2 (by omega)
              generalize w8 = WA at *
              go_wp2
              go_loopw [9] (fun t wq => ∃ t' : Nat, t = .int .i64 t' ∧ t' ≤ n2 ∧ (∀ j (h : j < ks'.length), j < t' → ks'[j] ≠ M) ∧ Fr nothing WA wq) (fun t _ => n2 - (intOf t).toNat)
              case atStart => exact ⟨0, rfl, Nat.zero_le _, fun j _ h => absurd h (by omega), Fr.refl _ _⟩
              case round =>
                obtain ⟨t, rfl, htn, hno, hkA⟩ := hrel
                by_cases hlt2 : t < n2
                · have htv : t < vs'.length := by rw [HN2.out.1]; exact hlt2
                  have htk : t < ks'.length := by rw [← HN2.out.2]; exact hlt2
                  have c0 := hkA.cell (HCL.out t htv).1 id
                  have hker := HKS.out t htv
                  rw [List.getD_eq_getElem?_getD, List.getElem?_eq_getElem htk, Option.getD_some] at hker
                  have hki := IsItems.fr (OwnI.items hker (fun x hx => smallI_i64 (HS8.out.2.2.2.2 _ (List.getElem_mem htk) x hx)) (by have := (HOK.out.1 t htk).1; omega)) hkA
                  have HSI := Lib.hid ((sameItems_any vs'[t].1 _ ks'[t] M wr hki (HS8.out.2.2.2.1.fr hkA)).mono fun e w' (hh : e = .returned (.bool (decide (ks'[t] = M))) ∧ ∃ n, w' = wr.drewN n) => show e = .returned (.bool (decide (ks'[t] = M))) ∧ Fr nothing wr w' from ⟨hh.1, by obtain ⟨n, rfl⟩ := hh.2; exact Fr.drewN _ _⟩)
                  have HT := Lib.hid (And.intro htk (And.intro hno hkA))
                  clear hker hki hno hkA
                  generalize hTV : vs'[t].1 = tv at *
                  clear hTV htv
                  have htt : decide (t < n2) = true := decide_eq_true hlt2
                  by_cases hsame : ks'[t] = M
                  · rw [decide_eq_true hsame] at HSI
                    have hp := putK_old htk hsame HT.out.2.1
                    have HP := Lib.hid hp
                    clear hp htk hsame
                    go_upto_region 16 with (go_at_call 51; refine HSI.out.mono ?_; rintro e w9 ⟨rfl, hk9⟩)
                    have kW := HT.out.2.2.trans hk9
                    have hst := HS8.out.1.fr kW
                    have hall := own_fr HS8.out.2.1 kW fun _ _ => id
                    have hgoc := HG2.out.2 t ks' HP.out
                    have hok1 := HOK.out.1
                    have hle1 := HOK.out.2.1
                    have hcell := fun i (hi : i < vs'.length) => And.intro (kW.cell (HCL.out i hi).1 id) (kW.cell (HCL.out i hi).2 id)
                    have hnv5 := HN2.out.1
                    have hBw5 : B ≤ w9.heap.size := Nat.le_trans hB8 kW.size
                    have hbW5 : Below B w2 w9 := HS8.out.2.2.1.trans (kW.below hB8 fun _ e => e.elim)
                    have q1 : ((t : Int) == 256) = false := beq_eq_false_iff_ne.2 (by omega)
                    have q2 : ((t : Int) == (n2 : Int)) = false := beq_eq_false_iff_ne.2 (by omega)
                    clear c0 HSI kW
                    generalize w9 = W5 at *
                    obtain ⟨_, csl, hlbo⟩ := ownObj hst.own lb2 rfl
                    have e1 := (hcell k hkv).2
                    have hgE := hst.edg k hkv
                    rw [mid_get HLG.out.1] at hgE
                    obtain ⟨ga, gc, hgl, -, -, -⟩ := own_as_cells2 hgE
                    rw [hgl] at hgE e1
                    have HGL := Lib.hid hgl
                    have hga := hgE.alloc (Obj.cells #[.int .i64 (s : Int), .int .i64 (t : Int)] 111 (0, 0))
                    have hna := two_news (alloc_obj W5 (Obj.cells #[.int .i64 (s : Int), .int .i64 (t : Int)] 111 (0, 0)))
                    have hBa : B ≤ (W5.alloc (Obj.cells #[.int .i64 (s : Int), .int .i64 (t : Int)] 111 (0, 0))).heap.size := by have := hBw5; simp; omega
                    have hob := ownObj hgE
                    have hnotE : (Value.slice ga es.length gc).ownBlock ≠ some lb2 := fun e => by
                      obtain ⟨_, cs, hc⟩ := hob _ e
                      rw [hlbo] at hc
                      simp only [Option.some.injEq, Obj.cells.injEq] at hc
                      exact absurd hc.2.1 (by decide)
                    have HE5 := Lib.hid (And.intro hst (And.intro hall (And.intro hgoc (And.intro hok1 (And.intro hle1 (And.intro hkv (And.intro hnv5 hbW5)))))))
                    have HNE := Lib.hid (And.intro hnotE hlbo)
                    have hen : es.length ≤ 1000 := by have := HLG.out.2; omega
                    clear hst hall hgoc hok1 hle1 hcell hgE hgl hob hnotE hlbo hnv5 hbW5
                    generalize hene : es.length = en at *
                    have HEN := Lib.hid hene
                    clear hene
                    go_wp2_with (at_builtin; refine wpList_append_lies _ rfl _ _ 104 rfl B 111 i0 _ 2 16 Try.underlying104 hi hz0 hz1 hz2 rfl (by decide) (.slice ga en gc) _ _ rfl hga ⟨W5.heap.size, 0, none⟩ 1 1 [.int .i64 (s : Int), .int .i64 (t : Int)] rfl rfl hna (by simp [Value.oneCell']) (by omega) (by unfold maxLen; omega) (by omega) hBa _ rfl ?_
                                 intro g cap w4 hown4 hgrow4 hat4 hlt4
                                 have hf4 : Fr (fun g => (Value.slice ga en gc).ownBlock = some g) W5 w4 := (Fr.alloc _ _).trans (Fr.grown hgrow4)
                                 have x4 := hf4.cell e1 HNE.out.1
                                 have z4 : w4.frozen? ⟨lb2, k * 2 + 1, none⟩ = false := by simp [World.frozen?, hf4.obj HNE.out.2 HNE.out.1]
                                 have HF4 := Lib.hid hf4
                                 clear hf4)
                    go_roundw
                    case rel =>
                      obtain ⟨hst, hall, hgoc, hok1, hle1, hkv', hnv5, hbW5⟩ := HE5.out
                      obtain rfl := HEN.out
                      obtain ⟨hin6, hF6⟩ := inR_edge hst hall HLG.out.1 HLG.out.2 hkv' hle1 hok1 hnv5 (Fr.alloc W5 _) hown4 (by rw [HGL.out]; exact hgrow4) (by rw [HGL.out]; exact hat4.imp id fun e => by rw [e]; simp) rfl hgoc
                      exact ⟨s + 1, _, _, _, _, rfl, by simp, by omega, hin6, hbW5.trans (hF6.below (by have := hbW5.size; have := HB.out; omega) fun g e => e)⟩
                    case measure => simp [intOf]; omega
                  · rw [decide_eq_false hsame] at HSI
                    have hno' : ∀ j (h : j < ks'.length), j < t + 1 → ks'[j] ≠ M := fun j hj hjt => by
                      by_cases e : j = t
                      · subst e; exact hsame
                      · exact HT.out.2.1 j hj (by omega)
                    have HNO := Lib.hid hno'
                    clear hno' htk hsame
                    go_wp2_with (go_at_call 51; refine HSI.out.mono ?_; rintro e w9 ⟨rfl, hk9⟩)
                    go_roundw
                    case rel => exact ⟨t + 1, by simp, by omega, HNO.out, HT.out.2.2.trans hk9⟩
                    case measure => simp [intOf]; omega
                · obtain rfl : t = n2 := by omega
                  have hlen : ks'.length = t := HN2.out.2.symm
                  have hput := putK_no (ks := ks') (M := M) fun j hj => hno j hj (by omega)
                  rw [hlen] at hput
                  have kW := hkA
                  by_cases hfull : t = 256
                  · rw [if_pos hfull] at hput
                    have hci := HG2.out.1 hput
                    have HCI := Lib.hid hci
                    have hbe := HS2.out.below.trans (show Below w.heap.size w2 wr from ?_)
                    · subst hfull
                      have HBE := Lib.hid hbe
                      clear hput hci hlen hno hkA kW hbe hlt2
                      go_wp2
                      go_ret2
                      unfold Col19P
                      rw [if_neg (by rw [HR.out]; decide), HCI.out]
                      exact ⟨HBE.out, rfl⟩
                    · have h1 := HS8.out.2.2.1.trans (kW.below hB8 fun _ e => e.elim)
                      exact h1.mono (by rw [← HB.out]; exact HS2.out.below.size)
                  · rw [if_neg hfull] at hput
                    have hst := HS8.out.1.fr kW
                    have hgoc := HG2.out.2 t _ hput
                    have hall := own_fr HS8.out.2.1 kW fun _ _ => id
                    have hBw5 : B ≤ wr.heap.size := Nat.le_trans hB8 kW.size
                    have hbW5 : Below B w2 wr := HS8.out.2.2.1.trans (kW.below hB8 fun _ e => e.elim)
                    have hkv8 := own_fr HU8.out kW fun _ _ => id
                    have q1 : ((t : Int) == 256) = false := beq_eq_false_iff_ne.2 (by omega)
                    have hown5 := hst.own
                    rw [HN2.out.1] at hown5
                    have hown5 := hown5.alloc (Obj.cells #[.slice qa mn qc, .slice none 0 0] 106 (0, 0))
                    have hnb := two_news (alloc_obj wr (Obj.cells #[.slice qa mn qc, .slice none 0 0] 106 (0, 0)))
                    have hBb : B ≤ (wr.alloc (Obj.cells #[.slice qa mn qc, .slice none 0 0] 106 (0, 0))).heap.size := by simp; omega
                    have hmnl : mn ≤ 40000 := HMS.out.2
                    have H5 := Lib.hid (And.intro hst (And.intro hgoc (And.intro hall (And.intro hbW5 hkv8))))
                    have HW := Lib.hid hBw5
                    have HNOK := Lib.hid (fun j (hj : j < ks'.length) => hno j hj (by omega))
                    have HF := Lib.hid hfull
                    clear hput hst hgoc hall hbW5 hkv8 hno hkA kW hlt2 hlen hBw5
                    go_upto_region 20 with (at_builtin; refine wpList_append_lies _ rfl _ _ 65 rfl B 106 j0 _ 2 48 Try.underlying65 hj hy0 hy1 hy2 rfl (by decide) (.slice (some ⟨lb2, 0, none⟩) t lc2) _ _ rfl hown5 ⟨wr.heap.size, 0, none⟩ 1 1 [.slice qa mn qc, .slice none 0 0] rfl rfl hnb (by simp [Value.oneCell']) (by omega) (by unfold maxLen; omega) (by omega) hBb _ rfl ?_
                                            intro gS capS w9 hownS hgrowS hatS hltS)
                    have kS : Fr (fun g => (Value.slice (some ⟨lb2, 0, none⟩) t lc2).ownBlock = some g) wr w9 := (Fr.alloc _ _).trans (Fr.grown hgrowS)
                    have hst9 := H5.out.1.snoc (lv' := .slice (some ⟨gS, 0, none⟩) (t + 1) capS) (kv := .slice qa mn qc) (K := M) kS (by rw [HN2.out.1]; exact hownS) HMS.out.1 (by have := H5.out.2.2.2.2; unfold OwnI at this; rw [HMN.out] at this; unfold OwnI; rw [HMN.out]; exact this)
                    have hrep : gs ++ [es] ++ List.replicate (ks'.length - (k + 1)) [] ++ [[]] = gs ++ [es] ++ List.replicate ((ks' ++ [M]).length - (k + 1)) [] := by
                      have h1 := HOK.out.2.2
                      have e : (ks' ++ [M]).length - (k + 1) = (ks'.length - (k + 1)) + 1 := by simp; omega
                      rw [e, List.replicate_succ']
                      simp
                    rw [hrep] at hst9
                    have hst := hst9
                    have hall := H5.out.1.keepRow kS H5.out.2.2.1 (by decide)
                    have hgoc := H5.out.2.1
                    have hkt : k < ks'.length := HOK.out.2.2
                    have hok1 : KOk G (ks' ++ [M]) := by
                      have h1 := HCM.out.2.1
                      have h2 := putK_no (ks := ks') (M := M) (fun j hj => HNOK.out j hj)
                      rw [if_neg (by rw [← HN2.out.2]; exact HF.out)] at h2
                      have h3 : onI G (cloL G ks[k]) (s : Int) = M := by rw [HLE.out, HME.out]
                      rw [← h3] at h2 ⊢
                      exact KOk.put HR.out HOK.out.1 HOK.out.2.1 ks[k] hkt h1.1 h1.2 (s : Int) h2
                    have hle1 : (ks' ++ [M]).length ≤ 256 := by
                      have h1 := HF.out
                      rw [List.length_append, ← HN2.out.2]
                      simp
                      omega
                    have hnv5 : (vs' ++ [(Value.slice qa mn qc, Value.slice none 0 0)]).length = t + 1 := by simp [HN2.out.1]
                    have hkv : k < (vs' ++ [(Value.slice qa mn qc, Value.slice none 0 0)]).length := by rw [hnv5]; omega
                    obtain ⟨lb9, lc9, e9, -, hcell, -⟩ := hst.cells (by omega)
                    simp only [Value.slice.injEq, Option.some.injEq, Addr.mk.injEq, and_true] at e9
                    obtain ⟨rfl, -, rfl⟩ := e9
                    have hBw5 : B ≤ w9.heap.size := Nat.le_trans HW.out kS.size
                    have hbW5 : Below B w2 w9 := H5.out.2.2.2.1.trans (kS.below HW.out fun g e => (ownObj H5.out.1.own g e).1)
                    generalize vs' ++ [(Value.slice qa mn qc, Value.slice none 0 0)] = vs5 at *
                    generalize ks' ++ [M] = ks5 at *
                    clear hst9 hrep kS hownS hgrowS hatS hltS hown5 hnb hBb q1 H5 HW hkt
                    generalize w9 = W5 at *
                    obtain ⟨_, csl, hlbo⟩ := ownObj hst.own gS rfl
                    have e1 := (hcell k hkv).2
                    have hgE := hst.edg k hkv
                    rw [mid_get HLG.out.1] at hgE
                    obtain ⟨ga, gc, hgl, -, -, -⟩ := own_as_cells2 hgE
                    rw [hgl] at hgE e1
                    have HGL := Lib.hid hgl
                    have hga := hgE.alloc (Obj.cells #[.int .i64 (s : Int), .int .i64 (t : Int)] 111 (0, 0))
                    have hna := two_news (alloc_obj W5 (Obj.cells #[.int .i64 (s : Int), .int .i64 (t : Int)] 111 (0, 0)))
                    have hBa : B ≤ (W5.alloc (Obj.cells #[.int .i64 (s : Int), .int .i64 (t : Int)] 111 (0, 0))).heap.size := by have := hBw5; simp; omega
                    have hob := ownObj hgE
                    have hnotE : (Value.slice ga es.length gc).ownBlock ≠ some gS := fun e => by
                      obtain ⟨_, cs, hc⟩ := hob _ e
                      rw [hlbo] at hc
                      simp only [Option.some.injEq, Obj.cells.injEq] at hc
                      exact absurd hc.2.1 (by decide)
                    have HE5 := Lib.hid (And.intro hst (And.intro hall (And.intro hgoc (And.intro hok1 (And.intro hle1 (And.intro hkv (And.intro hnv5 hbW5)))))))
                    have HNE := Lib.hid (And.intro hnotE hlbo)
                    have hen : es.length ≤ 1000 := by have := HLG.out.2; omega
                    clear hst hall hgoc hok1 hle1 hcell hgE hgl hob hnotE hlbo hnv5 hbW5
                    generalize hene : es.length = en at *
                    have HEN := Lib.hid hene
                    clear hene
                    go_wp2_with (at_builtin; refine wpList_append_lies _ rfl _ _ 104 rfl B 111 i0 _ 2 16 Try.underlying104 hi hz0 hz1 hz2 rfl (by decide) (.slice ga en gc) _ _ rfl hga ⟨W5.heap.size, 0, none⟩ 1 1 [.int .i64 (s : Int), .int .i64 (t : Int)] rfl rfl hna (by simp [Value.oneCell']) (by omega) (by unfold maxLen; omega) (by omega) hBa _ rfl ?_
                                 intro g cap w4 hown4 hgrow4 hat4 hlt4
                                 have hf4 : Fr (fun g => (Value.slice ga en gc).ownBlock = some g) W5 w4 := (Fr.alloc _ _).trans (Fr.grown hgrow4)
                                 have x4 := hf4.cell e1 HNE.out.1
                                 have z4 : w4.frozen? ⟨gS, k * 2 + 1, none⟩ = false := by simp [World.frozen?, hf4.obj HNE.out.2 HNE.out.1]
                                 have HF4 := Lib.hid hf4
                                 clear hf4)
                    go_roundw
                    case rel =>
                      obtain ⟨hst, hall, hgoc, hok1, hle1, hkv', hnv5, hbW5⟩ := HE5.out
                      obtain rfl := HEN.out
                      obtain ⟨hin6, hF6⟩ := inR_edge hst hall HLG.out.1 HLG.out.2 hkv' hle1 hok1 hnv5 (Fr.alloc W5 _) hown4 (by rw [HGL.out]; exact hgrow4) (by rw [HGL.out]; exact hat4.imp id fun e => by rw [e]; simp) rfl hgoc
                      exact ⟨s + 1, _, _, _, _, rfl, by simp, by omega, hin6, hbW5.trans (hF6.below (by have := hbW5.size; have := HB.out; omega) fun g e => e)⟩
                    case measure => simp [intOf]; omega
          · obtain rfl : s = G.syms.length := by omega
            have hend := inR_end him (Nat.le_refl _)
            have hk256 : k < 256 := by have := him.lk; have := him.le; omega
            have HE := Lib.hid (And.intro hend hbw)
            clear hend hbw him hS hls
            go_wp2
            go_roundw
            case rel => exact ⟨k + 1, _, _, _, _, rfl, by simp, HE.out.1, HE.out.2⟩
            case measure => simp [intOf]; omega
      · obtain ⟨hci, hst⟩ := colR_none hcm hlt
        have hlt' : ¬ k < vs.length := by rw [hvl]; exact hlt
        obtain ⟨la, lc, rfl, -, -, -⟩ := own_as_cells2 hst.own
        have hsz := HS2.out.below.size
        have HE := Lib.hid (And.intro hci (And.intro hst hS.below))
        clear hcm hci hst hbw hS hlt
        generalize vs.length = nv at *
        go_wp2
        go_ret2
        unfold Col19P
        rw [if_neg (by rw [HR.out]; decide), HE.out.1]
        exact ⟨HE.out.2.2, B, _, _, rfl, HE.out.2.1, by rw [← HB.out]; exact hsz⟩
end Go.Proofs.Ytpnihegmhalcfaa
