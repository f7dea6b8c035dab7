/-
  gristmillref21.Aheads where there are none; gristmilllaw25.made.
-/
import Derived.Test.YtpnihegmhalcfaaRunG29
import Derived.Test.YtpnihegmhalcfaaRunG26
import Derived.Test.YtpnihegmhalcfaaRunG25
namespace Go.Proofs.Ytpnihegmhalcfaa
open Go.RowKit Go.MapKept Go.ChangeMaps
set_option maxHeartbeats 400000

set_option maxRecDepth 100000 in
set_option maxHeartbeats 8000000 in
theorem aheads21_none (G : Gram) (v : Value) (sv : Value) (w : World) (h : IsGram w v G) (hn : rightG G = false ∨ (rightG G = true ∧ colI G = none)) :
    Calls Try.prog 28 #[v, sv] w fun e w' => e = .returned (.tuple #[.slice none 0 0, .int .i64 4]) ∧ Below w.heap.size w w' := by
  have hG := h
  obtain ⟨hterms, vs, vp, rfl, hs, hp⟩ := h
  obtain ⟨-, sa, sc, rfl, -, -, -⟩ := id hs
  obtain ⟨-, pa, pc, rfl, -, -, -⟩ := id hp
  have hS0 : Stands w.heap.size w G sa pa sc pc (w.alloc (grO G sa pa sc pc)) := ⟨alloc_obj _ _, hG.fr (Fr.alloc _ _), (Below.refl _ w).alloc (Nat.le_refl _) _⟩
  have HS0 := Lib.hid hS0
  clear hG hs hp hS0
  go_enter Try.func28, Try.ntmps28
  go_upto_region 1 with fail
  unfold grO at HS0
  generalize hw1 : w.alloc (Obj.cells #[.int .i64 G.terms, .slice sa G.syms.length sc, .slice pa G.prods.length pc] 25 (0, 0)) = W1 at *
  clear hw1
  have HRT := Lib.hid (right14_gram G _ W1 HS0.out.gram)
  unfold grV at HRT
  have d0 := HS0.out.d0
  have d1 := HS0.out.d1
  have d2 := HS0.out.d2
  rcases hn with hr | ⟨hr, hc⟩
  · rw [hr] at HRT
    clear hr
    go_wp2_with (go_at_call 48; refine HRT.out.mono ?_; rintro e w2 ⟨rfl, hb2⟩)
    go_returns
    exact ⟨rfl, (HS0.out.keep hb2).below⟩
  · rw [hr] at HRT
    have HR := Lib.hid hr
    have HC := Lib.hid hc
    clear hr hc
    go_upto_region 3 with (go_at_call 48; refine HRT.out.mono ?_; rintro e w2 ⟨rfl, hb2⟩)
    have hS2 := HS0.out.keep hb2
    have HS2 := Lib.hid hS2
    clear d0 d1 d2 HRT HS0 hb2
    have d0 := hS2.d0
    have d1 := hS2.d1
    have d2 := hS2.d2
    have HCO := Lib.hid (col19_many HR.out HC.out _ w2 hS2.gram)
    unfold grV at HCO
    clear hS2
    go_wp2_with (go_at_call 27; refine HCO.out.mono ?_; rintro e w3 ⟨rfl, hb3⟩)
    go_returns
    exact ⟨rfl, (HS2.out.keep hb3).below⟩

set_option maxRecDepth 100000 in
set_option maxHeartbeats 8000000 in
theorem aheads21_use (G : Gram) (v : Value) (sa' : Option Addr) (n c' : Nat) (ks : List (List It)) (gs : List (List (Int × Int))) (w : World) (h : IsGram w v G) (hr : rightG G = true) (hc : colI G = some (ks, gs)) (hst : IsStates w (.slice sa' n c') (ks.zip gs)) (hn : ks.length = n) (hu : usedG G = false) :
    Calls Try.prog 28 #[v, .slice sa' n c'] w fun e w' => e = .returned (.tuple #[.slice none 0 0, .int .i64 306]) ∧ Below w.heap.size w w' := by
  have hG := h
  obtain ⟨hterms, vs, vp, rfl, hs, hp⟩ := h
  obtain ⟨-, sa, sc, rfl, -, -, -⟩ := id hs
  obtain ⟨-, pa, pc, rfl, -, -, -⟩ := id hp
  have hS0 : Stands w.heap.size w G sa pa sc pc (w.alloc (grO G sa pa sc pc)) := ⟨alloc_obj _ _, hG.fr (Fr.alloc _ _), (Below.refl _ w).alloc (Nat.le_refl _) _⟩
  have HS0 := Lib.hid hS0
  have HST := Lib.hid hst
  have HR := Lib.hid hr
  have HU := Lib.hid hu
  have HCOL := Lib.hid hc
  have HN := Lib.hid hn
  clear hG hs hp hS0 hst hr hu hc hn
  go_enter Try.func28, Try.ntmps28
  go_upto_region 1 with fail
  unfold grO at HS0
  generalize hw1 : w.alloc (Obj.cells #[.int .i64 G.terms, .slice sa G.syms.length sc, .slice pa G.prods.length pc] 25 (0, 0)) = W1 at *
  clear hw1
  have HRT := Lib.hid (right14_gram G _ W1 HS0.out.gram)
  unfold grV at HRT
  have d0 := HS0.out.d0
  have d1 := HS0.out.d1
  have d2 := HS0.out.d2
  rw [HR.out] at HRT
  go_upto_region 3 with (go_at_call 48; refine HRT.out.mono ?_; rintro e w2 ⟨rfl, hb2⟩)
  have hS2 := HS0.out.keep hb2
  have HS2 := Lib.hid hS2
  clear d0 d1 d2 HRT HS0 hb2
  have d0 := hS2.d0
  have d1 := hS2.d1
  have d2 := hS2.d2
  have HCO := Lib.hid (col19_good HR.out HCOL.out _ w2 hS2.gram)
  unfold grV at HCO
  rw [HN.out] at HCO
  clear hS2
  go_upto_region 4 with (go_at_call 27; refine HCO.out.mono ?_; rintro e w3 ⟨ca, cc, rfl, hst3, hb3⟩)
  have hS3 := HS2.out.keep hb3
  have HS3 := Lib.hid hS3
  have HSS := Lib.hid (sameStates_any _ _ _ _ w3 (HST.out.fr (Fr.new hS3.below)) hst3)
  clear d0 d1 d2 HCO HS2 hb3 hS3 hst3
  rw [decide_eq_true rfl] at HSS
  go_upto_region 6 with (go_at_call 52; refine HSS.out.mono ?_; rintro e w4 ⟨rfl, hb4⟩)
  have hS4 := HS3.out.keep hb4
  have HS4 := Lib.hid hS4
  have HUS := Lib.hid (used20_any G _ w4 hS4.gram HR.out)
  unfold grV at HUS
  rw [HU.out] at HUS
  have d0 := hS4.d0
  have d1 := hS4.d1
  have d2 := hS4.d2
  clear HSS HS3 hb4 hS4
  go_wp2_with (go_at_call 53; refine HUS.out.mono ?_; rintro e w5 ⟨rfl, hb5⟩)
  go_returns
  exact ⟨rfl, (HS4.out.keep hb5).below⟩

/-- A grammar's own table, if there is one. -/
noncomputable def madeG (G : Gram) : Option Tbl :=
  if rightG G = true then match colI G with
    | none => none
    | some (ks, gs) => if usedG G = true then some (makeT G ks gs (aheadL G ks gs) ks.length) else none
  else none
def MadeP (w : World) (G : Gram) (e : Ending) (w' : World) : Prop := Below w.heap.size w w' ∧ match madeG G with
  | none => e = .returned (.tuple #[.agg #[.slice none 0 0, .slice none 0 0], .bool false])
  | some T => ∃ tv, e = .returned (.tuple #[tv, .bool true]) ∧ IsTbl w' tv T

set_option maxRecDepth 100000 in
set_option maxHeartbeats 8000000 in
theorem made_any (G : Gram) (v : Value) (w : World) (h : IsGram w v G) : Calls Try.prog 11 #[v] w (MadeP w G) := by
  have hG := h
  obtain ⟨hterms, vs, vp, rfl, hs, hp⟩ := h
  obtain ⟨-, sa, sc, rfl, -, -, -⟩ := id hs
  obtain ⟨-, pa, pc, rfl, -, -, -⟩ := id hp
  have hx := two_boxes w (grO G sa pa sc pc) (.cells #[.slice none 0 0, .slice none 0 0] 29 (0, 0))
  unfold grO at hx
  have HG := Lib.hid hG
  have HX := Lib.hid hx
  clear hG hs hp hx
  go_enter Try.func11, Try.ntmps11
  go_upto_region 1 with fail
  generalize (w.alloc (Obj.cells #[.int .i64 G.terms, .slice sa G.syms.length sc, .slice pa G.prods.length pc] 25 (0, 0))).alloc (Obj.cells #[.slice none 0 0, .slice none 0 0] 29 (0, 0)) = W1 at *
  have d0 := obj_cell HX.out.1 0 (v := .int .i64 G.terms) rfl
  have d1 := obj_cell HX.out.1 1 (v := .slice sa G.syms.length sc) rfl
  have d2 := obj_cell HX.out.1 2 (v := .slice pa G.prods.length pc) rfl
  have t0 := obj_cell HX.out.2.1 0 (v := .slice none 0 0) rfl
  have t1 := obj_cell HX.out.2.1 1 (v := .slice none 0 0) rfl
  have z0 := obj_frozen HX.out.2.1 0
  have z1 := obj_frozen HX.out.2.1 1
  have hG1 := HG.out.fr (Fr.new HX.out.2.2)
  have HG1 := Lib.hid hG1
  clear hG1
  obtain ⟨n0, hn0⟩ : ∃ n0, w.heap.size = n0 := ⟨_, rfl⟩
  rw [hn0] at d0 d1 d2 t0 t1 z0 z1 ⊢
  have HN0 := Lib.hid hn0
  clear hn0
  by_cases hno : rightG G = false ∨ (rightG G = true ∧ colI G = none)
  · have HNO := Lib.hid hno
    have hmade : madeG G = none := by
      unfold madeG
      rcases hno with h | ⟨h1, h2⟩
      · rw [if_neg (by rw [h]; decide)]
      · rw [if_pos h1, h2]
    have HM := Lib.hid hmade
    have hco : ∃ er : Int, er ≠ 0 ∧ Calls Try.prog 27 #[.agg #[.int .i64 G.terms, .slice sa G.syms.length sc, .slice pa G.prods.length pc]] W1 fun e w' => e = .returned (.tuple #[.slice none 0 0, .int .i64 er]) ∧ Below W1.heap.size W1 w' := by
      rcases hno with h | ⟨h1, h2⟩
      · exact ⟨2, by decide, col19_bad h _ W1 HG1.out⟩
      · exact ⟨104, by decide, col19_many h1 h2 _ W1 HG1.out⟩
    obtain ⟨er, her, hco⟩ := hco
    have HCO := Lib.hid hco
    have b1 : (er == 0) = false := beq_eq_false_iff_ne.2 her
    have b2 : (er != 0) = true := bne_iff_ne.2 her
    clear hno hmade hco her
    go_upto_region 2 with (go_at_call 27; refine HCO.out.mono ?_; rintro e w2 ⟨rfl, hb2⟩)
    have d0 := (Fr.new hb2).cell d0 id
    have d1 := (Fr.new hb2).cell d1 id
    have d2 := (Fr.new hb2).cell d2 id
    have HAH := Lib.hid (aheads21_none G _ (.slice none 0 0) w2 (HG1.out.fr (Fr.new hb2)) HNO.out)
    have HB2 := Lib.hid hb2
    clear hb2 HCO
    go_upto_region 3 with (go_at_call 28; refine HAH.out.mono ?_; rintro e w3 ⟨rfl, hb3⟩)
    have hb13 := HB2.out.trans (hb3.mono HB2.out.size)
    have k3 := Fr.new hb13
    have ho3 := k3.obj HX.out.2.1 id
    rw [HN0.out] at ho3
    have t0 := obj_cell ho3 0 (v := .slice none 0 0) rfl
    have t1 := obj_cell ho3 1 (v := .slice none 0 0) rfl
    have z0 := obj_frozen ho3 0
    have z1 := obj_frozen ho3 1
    have H3 := Lib.hid (And.intro hb13 ho3)
    clear hb13 k3 ho3 d0 d1 d2 hb3
    go_wp2
    have ho4 := setCell_obj (setCell_obj H3.out.2 (i := 0) (.slice none 0 0)) (i := 1) (.slice none 0 0)
    have g0 := obj_cell ho4 0 (v := .slice none 0 0) (by simp)
    have g1 := obj_cell ho4 1 (v := .slice none 0 0) (by simp)
    have k4 : Fr (only (n0 + 1)) w3 ((w3.setCell ⟨n0 + 1, 0, none⟩ (.slice none 0 0)).setCell ⟨n0 + 1, 1, none⟩ (.slice none 0 0)) := (Fr.setCell w3 ⟨n0 + 1, 0, none⟩ _).trans (Fr.setCell _ ⟨n0 + 1, 1, none⟩ _)
    have H4 := Lib.hid k4
    clear ho4 k4
    generalize (w3.setCell ⟨n0 + 1, 0, none⟩ (.slice none 0 0)).setCell ⟨n0 + 1, 1, none⟩ (.slice none 0 0) = w4 at *
    refine bodyPost_ret (by simp [results, Try.results11, go_sem, g0, g1]; try rfl) rfl ?_
    unfold MadeP
    rw [HM.out]
    exact ⟨(HX.out.2.2.trans (H3.out.1.mono HX.out.2.2.size)).trans (H4.out.below (by have := HX.out.2.2.size; have := H3.out.1.size; omega) fun b e => by have e' : b = n0 + 1 := e; have := HN0.out; omega), rfl⟩
  · have hr : rightG G = true := by
      cases e : rightG G with
      | true => rfl
      | false => exact absurd (.inl e) hno
    obtain ⟨⟨ks, gs⟩, hc⟩ : ∃ x, colI G = some x := by
      cases e : colI G with
      | some x => exact ⟨x, rfl⟩
      | none => exact absurd (.inr ⟨hr, e⟩) hno
    have hok := colI_ok hc
    have hHR := hr
    have HR := Lib.hid hr
    have HC := Lib.hid hc
    obtain ⟨n, hn⟩ : ∃ n, ks.length = n := ⟨_, rfl⟩
    have HN := Lib.hid hn
    have hnle : n ≤ 256 := by rw [← hn]; exact hok.le
    have HCO := Lib.hid (col19_good hr hc _ W1 HG1.out)
    rw [hn] at HCO
    have hpl := (rightG_parts hr).1
    have HPL := Lib.hid hpl
    clear hno hr hHR hc hok hn hpl
    go_upto_region 2 with (go_at_call 27; refine HCO.out.mono ?_; rintro e w2 ⟨ca, cc, rfl, hst2, hb2⟩)
    have d0 := (Fr.new hb2).cell d0 id
    have d1 := (Fr.new hb2).cell d1 id
    have d2 := (Fr.new hb2).cell d2 id
    have HB2 := Lib.hid (And.intro hb2 hst2)
    clear hb2 hst2 HCO
    cases hu : usedG G with
    | false =>
      have HM := Lib.hid (show madeG G = none by unfold madeG; rw [if_pos HR.out, HC.out]; simp only; rw [if_neg (by rw [hu]; decide)])
      have HAH := Lib.hid (aheads21_use G _ ca n cc ks gs w2 (HG1.out.fr (Fr.new HB2.out.1)) HR.out HC.out HB2.out.2 HN.out hu)
      clear hu
      go_upto_region 3 with (go_at_call 28; refine HAH.out.mono ?_; rintro e w3 ⟨rfl, hb3⟩)
      have hb13 := HB2.out.1.trans (hb3.mono HB2.out.1.size)
      have k3 := Fr.new hb13
      have ho3 := k3.obj HX.out.2.1 id
      rw [HN0.out] at ho3
      have t0 := obj_cell ho3 0 (v := .slice none 0 0) rfl
      have t1 := obj_cell ho3 1 (v := .slice none 0 0) rfl
      have z0 := obj_frozen ho3 0
      have z1 := obj_frozen ho3 1
      have H3 := Lib.hid (And.intro hb13 ho3)
      clear hb13 k3 ho3 d0 d1 d2 hb3
      go_wp2
      have ho4 := setCell_obj (setCell_obj H3.out.2 (i := 0) (.slice none 0 0)) (i := 1) (.slice none 0 0)
      have g0 := obj_cell ho4 0 (v := .slice none 0 0) (by simp)
      have g1 := obj_cell ho4 1 (v := .slice none 0 0) (by simp)
      have k4 : Fr (only (n0 + 1)) w3 ((w3.setCell ⟨n0 + 1, 0, none⟩ (.slice none 0 0)).setCell ⟨n0 + 1, 1, none⟩ (.slice none 0 0)) := (Fr.setCell w3 ⟨n0 + 1, 0, none⟩ _).trans (Fr.setCell _ ⟨n0 + 1, 1, none⟩ _)
      have H4 := Lib.hid k4
      clear ho4 k4
      generalize (w3.setCell ⟨n0 + 1, 0, none⟩ (.slice none 0 0)).setCell ⟨n0 + 1, 1, none⟩ (.slice none 0 0) = w4 at *
      refine bodyPost_ret (by simp [results, Try.results11, go_sem, g0, g1]; try rfl) rfl ?_
      unfold MadeP
      rw [HM.out]
      exact ⟨(HX.out.2.2.trans (H3.out.1.mono HX.out.2.2.size)).trans (H4.out.below (by have := HX.out.2.2.size; have := H3.out.1.size; omega) fun b e => by have e' : b = n0 + 1 := e; have := HN0.out; omega), rfl⟩
    | true =>
      have HM := Lib.hid (show madeG G = some (makeT G ks gs (aheadL G ks gs) n) by unfold madeG; rw [if_pos HR.out, HC.out]; simp only; rw [if_pos hu, HN.out])
      have HAH := Lib.hid (aheads21_any G _ ca n cc ks gs w2 (HG1.out.fr (Fr.new HB2.out.1)) HR.out HC.out HB2.out.2 HN.out hu)
      have hal : (aheadL G ks gs).length ≤ 40000 := by
        have h1 := outA_len G (closeL G ks) (untilF (fun A => growS G (closeL G ks) gs ks.length (false, A)) (missA (startA G ks) + 1) (startA G ks)) ks.length
        have h2 : ks.length * G.prods.length ≤ 256 * 128 := Nat.mul_le_mul (by rw [HN.out]; exact hnle) (by have := HPL.out; omega)
        unfold aheadL
        omega
      have HAL := Lib.hid hal
      clear hu hal
      go_upto_region 3 with (go_at_call 28; refine HAH.out.mono ?_; rintro e w3 ⟨B3, r3, vs3, rfl, -, hah, hb3⟩)
      have hb13 := HB2.out.1.trans (hb3.mono HB2.out.1.size)
      have k3 := Fr.new hb13
      have ho3 := k3.obj HX.out.2.1 id
      rw [HN0.out] at ho3
      have d0 := (Fr.new hb3).cell d0 id
      have d1 := (Fr.new hb3).cell d1 id
      have d2 := (Fr.new hb3).cell d2 id
      have hia := ahead_reads HR.out (by rw [HN.out]; exact hnle) hah (by have := HAL.out; omega)
      obtain ⟨la, lc, rfl, -, -, -⟩ := own_as_cells2 hah.own
      have hlen := hah.len
      have HMK := Lib.hid (make23_any G _ ca la n cc vs3.length lc ks gs (aheadL G ks gs) w3 (HG1.out.fr k3) HR.out HC.out (HB2.out.2.fr (Fr.new hb3)) HN.out hia (by rw [← HN.out]; exact (aheadL_ok G ks gs).good) hlen (by have := HAL.out; omega))
      have H3 := Lib.hid (And.intro hb13 ho3)
      clear hb13 k3 ho3 hia hah hb3 HAH hlen
      generalize vs3.length = vl at *
      go_upto_region 6 with (go_at_call 29; refine HMK.out.mono ?_; rintro e w4 ⟨tv, cv, rfl, htb, hkp, hb4⟩; obtain ⟨tva, tvg, rfl, hta, htg⟩ := id htb; obtain ⟨tpa, tpc, rfl, -, -, -⟩ := Rows'.parts hta; obtain ⟨tga, tgc, rfl, -, -, -⟩ := Rows'.parts htg)
      have HTB := Lib.hid (And.intro hkp hb4)
      have hw3s : n0 + 2 ≤ w3.heap.size := by have h1 := (Array.getElem?_eq_some_iff.1 H3.out.2).1; omega
      clear htb hta htg hb4 hkp HMK d0 d1 d2 t0 t1 z0 z1
      generalize (makeT G ks gs (aheadL G ks gs) n).acts.length = an at *
      generalize (makeT G ks gs (aheadL G ks gs) n).gotos.length = gn at *
      have hka := Fr.alloc (ch := nothing) w4 (Obj.cells #[.slice tpa an tpc, .slice tga gn tgc] 29 (0, 0))
      have hob8 := alloc_obj w4 (Obj.cells #[.slice tpa an tpc, .slice tga gn tgc] 29 (0, 0))
      have ho5 := ((Fr.new HTB.out.2).trans hka).obj H3.out.2 id
      have u0 := obj_cell hob8 0 (v := .slice tpa an tpc) rfl
      have u1 := obj_cell hob8 1 (v := .slice tga gn tgc) rfl
      have t0 := obj_cell ho5 0 (v := .slice none 0 0) rfl
      have t1 := obj_cell ho5 1 (v := .slice none 0 0) rfl
      have z0 := obj_frozen ho5 0
      have z1 := obj_frozen ho5 1
      have H5 := Lib.hid (And.intro ho5 hka)
      clear ho5 hka hob8
      generalize w4.alloc (Obj.cells #[.slice tpa an tpc, .slice tga gn tgc] 29 (0, 0)) = w5 at *
      go_wp2
      have ho4 := setCell_obj (setCell_obj H5.out.1 (i := 0) (.slice tpa an tpc)) (i := 1) (.slice tga gn tgc)
      have g0 := obj_cell ho4 0 (v := .slice tpa an tpc) (by simp)
      have g1 := obj_cell ho4 1 (v := .slice tga gn tgc) (by simp)
      have k4 : Fr (only (n0 + 1)) w5 ((w5.setCell ⟨n0 + 1, 0, none⟩ (.slice tpa an tpc)).setCell ⟨n0 + 1, 1, none⟩ (.slice tga gn tgc)) := (Fr.setCell w5 ⟨n0 + 1, 0, none⟩ _).trans (Fr.setCell _ ⟨n0 + 1, 1, none⟩ _)
      have H4 := Lib.hid k4
      clear ho4 k4
      generalize (w5.setCell ⟨n0 + 1, 0, none⟩ (.slice tpa an tpc)).setCell ⟨n0 + 1, 1, none⟩ (.slice tga gn tgc) = w6 at *
      refine bodyPost_ret (by simp [results, Try.results11, go_sem, g0, g1]; try rfl) rfl ?_
      unfold MadeP
      rw [HM.out]
      have hbA : Below w.heap.size w w5 := (HX.out.2.2.trans (H3.out.1.mono HX.out.2.2.size)).trans ((HTB.out.2.mono (by have := HX.out.2.2.size; have := H3.out.1.size; omega)).trans (H5.out.2.below_new.mono (by have := HX.out.2.2.size; have := H3.out.1.size; have := HTB.out.2.size; omega)))
      refine ⟨hbA.trans (H4.out.below (by exact hbA.size) fun b e => by have e' : b = n0 + 1 := e; have := HN0.out; omega), _, rfl, ?_⟩
      exact HTB.out.1 _ _ ((H5.out.2.wide (ch := only (n0 + 1))).trans H4.out) fun b hb e => by have e' : b = n0 + 1 := e; omega
end Go.Proofs.Ytpnihegmhalcfaa
