/-
  gristmilllaw25.RunAhead.
  RunAhead, proved: for every grammar and all terminals the statement's function answers true and leaves what it was handed as it was. Conditions: those of the given row alone.
-/
import Derived.Test.YtpnihegmhalcfaaRunG37
import Derived.Test.YtpnihegmhalcfaaRunG39
import Derived.Test.YtpnihegmhalcfaaRunG11
import Derived.Test.YtpnihegmhalcfaaRunG03
namespace Go.Proofs.Ytpnihegmhalcfaa
open Go.RowKit Go.MapKept Go.ChangeMaps
set_option maxHeartbeats 400000

set_option maxRecDepth 100000 in
set_option maxHeartbeats 16000000 in
theorem runAhead_any (G : Gram) (ts more : List Int) (gv nv mv : Value) (w : World) (hg : IsGram w gv G) (hf : Fits G) (hn : Ints w nv ts) (hm : Ints w mv more) :
    Calls Try.prog 6 #[gv, nv, mv] w fun e w' => e = .returned (.bool true) ∧ Below w.heap.size w w' := by
  obtain ⟨_, vs, vp, rfl, hs, hp⟩ := id hg
  obtain ⟨-, sa, sc, rfl, -, -, -⟩ := id hs
  obtain ⟨-, pa, pc, rfl, -, -, -⟩ := id hp
  obtain ⟨hnb, hnl, na, nc, rfl, hnc, hncm, hnx⟩ := id hn
  obtain ⟨hmb, hml, ma, mc, rfl, hmc, hmcm, hmx⟩ := id hm
  have hka := Fr.alloc (ch := nothing) w (grO G sa pa sc pc)
  have hob := alloc_obj w (grO G sa pa sc pc)
  unfold grO at hka hob
  have hka2 := hka.below_new
  have HI := Lib.hid (And.intro (hg.fr hka) (And.intro (hn.fr hka) (And.intro (hm.fr hka) (And.intro hka2 hob))))
  have HNX := Lib.hid (And.intro hnx hmx)
  have HF := Lib.hid hf
  clear hg hs hp hn hm hka hka2 hob hnx hmx hf hnb hmb
  go_enter Try.func6, Try.ntmps6
  go_upto_region 1 with fail
  generalize w.alloc (Obj.cells #[.int .i64 G.terms, .slice sa G.syms.length sc, .slice pa G.prods.length pc] 25 (0, 0)) = W1 at *
  have HAW := Lib.hid (awake25_any W1)
  go_upto_region 3 with (go_at_call 7; refine HAW.out.mono ?_; rintro e w2 ⟨rfl, hb2⟩)
  have ho2 := (Fr.new hb2).obj HI.out.2.2.2.2 id
  have d0 := obj_cell ho2 0 (v := .int .i64 G.terms) rfl
  have d1 := obj_cell ho2 1 (v := .slice sa G.syms.length sc) rfl
  have d2 := obj_cell ho2 2 (v := .slice pa G.prods.length pc) rfl
  have HP := Lib.hid (grammarOf_any G 120 _ w2 (HI.out.1.fr (Fr.new hb2)) HF.out (by decide))
  have HB2 := Lib.hid hb2
  obtain ⟨i0, hi, hz0, hz1, hz2⟩ := info_parts Try.infoInt'
  clear ho2 hb2 HAW
  obtain ⟨n, hnn⟩ : ∃ n, ts.length = n := ⟨_, rfl⟩
  obtain ⟨m, hmm⟩ : ∃ m, more.length = m := ⟨_, rfl⟩
  rw [hnn] at hnl hnc ⊢
  rw [hmm] at hml hmc ⊢
  have HN := Lib.hid (And.intro hnn hmm)
  clear hnn hmm
  have hws : IntKind.i64.wrap ((n : Int) + (m : Int)) = (n : Int) + (m : Int) := IntWalk.i64_in _ (by omega)
  by_cases hp : (120 : Int) < partsG G 120
  · have dp : decide ((120 : Int) < partsG G 120) = true := decide_eq_true hp
    clear hp
    go_wp2_with (go_at_call 10; refine HP.out.mono ?_; rintro e w3 ⟨rfl, hb3⟩)
    go_ret
    exact ⟨rfl, HI.out.2.2.2.1.trans ((HB2.out.mono HI.out.2.2.2.1.size).trans (hb3.mono (by have := HI.out.2.2.2.1.size; have := HB2.out.size; omega)))⟩
  have dp : decide ((120 : Int) < partsG G 120) = false := decide_eq_false hp
  clear hp
  by_cases hl : (60 : Int) < (n : Int) + (m : Int)
  · have dl : decide ((60 : Int) < (n : Int) + (m : Int)) = true := decide_eq_true hl
    clear hl
    go_wp2_with (go_at_call 10; refine HP.out.mono ?_; rintro e w3 ⟨rfl, hb3⟩)
    go_ret
    exact ⟨rfl, HI.out.2.2.2.1.trans ((HB2.out.mono HI.out.2.2.2.1.size).trans (hb3.mono (by have := HI.out.2.2.2.1.size; have := HB2.out.size; omega)))⟩
  have dl : decide ((60 : Int) < (n : Int) + (m : Int)) = false := decide_eq_false hl
  go_upto_region 5 with (go_at_call 10; refine HP.out.mono ?_; rintro e w3 ⟨rfl, hb3⟩)
  have hs1 := HI.out.2.2.2.1.size
  have hb13 := HB2.out.trans (hb3.mono HB2.out.size)
  have k3 := Fr.new hb13
  have hg3 := HI.out.1.fr k3
  have ho3 := k3.obj HI.out.2.2.2.2 id
  have d0 := obj_cell ho3 0 (v := .int .i64 G.terms) rfl
  have d1 := obj_cell ho3 1 (v := .slice sa G.syms.length sc) rfl
  have d2 := obj_cell ho3 2 (v := .slice pa G.prods.length pc) rfl
  have HM := Lib.hid (made_any G _ w3 hg3)
  have hbw := HI.out.2.2.2.1.trans (hb13.mono hs1)
  have H3 := Lib.hid (And.intro k3 hbw)
  clear hb13 hb3 k3 hg3 ho3 HP hbw dp
  unfold MadeP at HM
  cases hmd : madeG G with
  | none =>
    rw [hmd] at HM
    simp only at HM
    go_wp2_with (go_at_call 11; refine HM.out.mono ?_; rintro e w4 ⟨hb4, rfl⟩)
    go_ret
    exact ⟨rfl, H3.out.2.trans ((hb4.mono H3.out.2.size).trans ((Fr.alloc (ch := nothing) w4 _).below_new.mono (by have := H3.out.2.size; have := hb4.size; omega)))⟩
  | some T =>
    rw [hmd] at HM
    simp only at HM
    go_upto_region 6 with (go_at_call 11; refine HM.out.mono ?_; rintro e w4 ⟨hb4, tv, rfl, htb⟩; obtain ⟨tva, tvg, rfl, hta, htg⟩ := id htb; obtain ⟨tpa, tpc, rfl, -, -, -⟩ := Rows'.parts hta; obtain ⟨tga, tgc, rfl, -, -, -⟩ := Rows'.parts htg)
    obtain ⟨an, hae⟩ : ∃ an, T.acts.length = an := ⟨_, rfl⟩
    obtain ⟨gn, hge⟩ : ∃ gn, T.gotos.length = gn := ⟨_, rfl⟩
    rw [hae, hge] at htb ⊢
    have hka := Fr.alloc (ch := nothing) w4 (Obj.cells #[.slice tpa an tpc, .slice tga gn tgc] 29 (0, 0))
    have hob5 := alloc_obj w4 (Obj.cells #[.slice tpa an tpc, .slice tga gn tgc] 29 (0, 0))
    have k15 : Fr nothing W1 (w4.alloc (Obj.cells #[.slice tpa an tpc, .slice tga gn tgc] 29 (0, 0))) := H3.out.1.trans ((Fr.new hb4).trans hka)
    have htb5 := htb.fr hka
    have HK5 := Lib.hid (And.intro k15 (And.intro hob5 htb5))
    clear hta htg htb hka hob5 k15 htb5 hae hge HM d0 d1 d2 hb4
    generalize w4.alloc (Obj.cells #[.slice tpa an tpc, .slice tga gn tgc] 29 (0, 0)) = w5 at *
    obtain ⟨tb, htbe⟩ : ∃ tb, w4.heap.size = tb := ⟨_, rfl⟩
    rw [htbe] at HK5 ⊢
    clear htbe
    have hcell : ∀ W, Fr nothing w5 W → (W.cell? ⟨w.heap.size, 0, none⟩ = some (.int .i64 G.terms) ∧ W.cell? ⟨w.heap.size, 1, none⟩ = some (.slice sa G.syms.length sc) ∧ W.cell? ⟨w.heap.size, 2, none⟩ = some (.slice pa G.prods.length pc) ∧ W.cell? ⟨tb, 0, none⟩ = some (.slice tpa an tpc) ∧ W.cell? ⟨tb, 1, none⟩ = some (.slice tga gn tgc)) := fun W k => by
      have o1 := (HK5.out.1.trans k).obj HI.out.2.2.2.2 id
      have o2 := k.obj HK5.out.2.1 id
      exact ⟨obj_cell o1 0 rfl, obj_cell o1 1 rfl, obj_cell o1 2 rfl, obj_cell o2 0 rfl, obj_cell o2 1 rfl⟩
    have HCE := Lib.hid hcell
    clear hcell
    obtain ⟨d0, d1, d2, t0, t1⟩ := HCE.out w5 (Fr.refl _ _)
    have hbw5 : Below w.heap.size w w5 := HI.out.2.2.2.1.trans (HK5.out.1.below_new.mono HI.out.2.2.2.1.size)
    have HBW := Lib.hid hbw5
    have hgr := HI.out.1.fr HK5.out.1
    have hns := HI.out.2.1.fr HK5.out.1
    rw [HN.out.1] at hns
    have HLI := Lib.hid (light_any G T ts _ _ _ w5 hgr HK5.out.2.2 hns HF.out)
    clear hbw5 hgr hns
    unfold LightP at HLI
    have HPA := Lib.hid fun (W : World) (k : Fr nothing w5 W) => parse_any G T ts _ _ _ W ((HI.out.1.fr HK5.out.1).fr k) (HK5.out.2.2.fr k) (by have h := (HI.out.2.1.fr HK5.out.1).fr k; rw [HN.out.1] at h; exact h) (by have := HN.out.1; omega)
    go_upto_region 9 with (first
      | (go_at_call 8; refine HLI.out.mono ?_; rintro e w6 ⟨⟨b, rfl⟩, hb6⟩; obtain ⟨d0, d1, d2, t0, t1⟩ := HCE.out w6 (Fr.new hb6); cases b)
      | (go_at_call 13; refine (HPA.out w6 (Fr.new hb6)).mono ?_; rintro e w7 ⟨xv, err, st, rfl, hto, hpos, ⟨kv, rfl, hkd⟩, hb7⟩; obtain ⟨xka, xkc, rfl, -, -, -⟩ := hkd))
    · go_ret
      exact ⟨rfl, HBW.out.trans (hb6.mono HBW.out.size)⟩
    · refine wp_atW (F := fun W => Fr nothing w5 W) ((Fr.new hb6).trans ((Fr.new hb7).trans (Fr.alloc _ _))) ?_
      intro w8 k8
      obtain ⟨p, hp⟩ : ∃ p, st.pos = p := ⟨_, rfl⟩
      rw [hp] at hpos ⊢
      rw [HN.out.1] at hpos
      have HTO := Lib.hid (And.intro hto hp)
      have HK8 := Lib.hid k8
      have hbw8 : Below w.heap.size w w8 := HBW.out.trans (k8.below_new.mono HBW.out.size)
      have HB8 := Lib.hid hbw8
      clear hto hp k8 hbw8 hb6 hb7 d0 d1 d2 t0 t1 HPA HLI
      by_cases herr : err = 0
      · have be : (err == 0) = true := beq_iff_eq.2 herr
        clear herr
        go_wp2
        go_ret
        exact ⟨rfl, HB8.out⟩
      have be : (err == 0) = false := beq_eq_false_iff_ne.2 herr
      by_cases hge : n ≤ p
      · have dg : decide ((n : Int) ≤ (p : Int)) = true := decide_eq_true (by omega)
        have dg2 : decide (n ≤ p) = true := decide_eq_true hge
        clear hge
        go_wp2
        go_ret
        exact ⟨rfl, HB8.out⟩
      have dg : decide ((n : Int) ≤ (p : Int)) = false := decide_eq_false (by omega)
      have dg2 : decide (n ≤ p) = false := decide_eq_false hge
      have hp1 : p + 1 ≤ nc := by omega
      have hpn : p + 1 ≤ n := by omega
      have hn60 : n ≤ 60 ∧ m ≤ 60 := by omega
      have hlt1 : (ts.take (p + 1)).length = p + 1 := by rw [List.length_take, HN.out.1]; omega
      have hnsrc : na = none ∧ p + 1 = 0 ∨ ∃ ad, na = some ad ∧ ∀ j u, ((ts.take (p + 1)).map (Value.int .i64))[j]? = some u → (w8.alloc (Obj.cells #[] 3 (0, 0))).cell? (ad.add j) = some u := by
        refine .inr ?_
        obtain ⟨-, -, a', c', e', -, -, h⟩ := ((HI.out.2.1.fr HK5.out.1).fr HK8.out).fr (Fr.alloc (ch := nothing) w8 (Obj.cells #[] 3 (0, 0)))
        simp only [Value.slice.injEq] at e'
        obtain ⟨rfl, -, rfl⟩ := e'
        rcases h with h | ⟨b, o, rfl, hc⟩
        · have := HN.out.1
          rw [h] at this
          simp at this
          omega
        · refine ⟨_, rfl, fun j u hj => cells_add hc j u ?_⟩
          rw [List.map_take] at hj
          rw [List.getElem?_take] at hj
          split at hj
          · exact hj
          · cases hj
      have HNS := Lib.hid hnsrc
      have HL1 := Lib.hid (show ((ts.take (p + 1)).map (Value.int .i64)).length = (p + 1) * 1 by rw [List.length_map, hlt1, Nat.mul_one])
      have HO1 := Lib.hid (show ∀ (l : List Int), ∀ u ∈ l.map (Value.int .i64), u.oneCell' = true from fun l u hu => by
        obtain ⟨x, -, rfl⟩ := List.mem_map.1 hu
        rfl)
      have HL2 := Lib.hid (show (more.map (Value.int .i64)).length = m * 1 by rw [List.length_map, HN.out.2, Nat.mul_one])
      have HMS := Lib.hid (show ∀ W, Fr nothing w8 W → (ma = none ∧ m = 0 ∨ ∃ ad, ma = some ad ∧ ∀ j u, (more.map (Value.int .i64))[j]? = some u → W.cell? (ad.add j) = some u) from fun W k => by
        obtain ⟨-, -, a', c', e', -, -, h⟩ := ((HI.out.2.2.1.fr HK5.out.1).fr HK8.out).fr k
        simp only [Value.slice.injEq] at e'
        obtain ⟨rfl, -, rfl⟩ := e'
        rcases h with h | ⟨b, o, rfl, hc⟩
        · have hm0 : m = 0 := by have := HN.out.2; rw [h] at this; simpa using this.symm
          cases ma with
          | none => exact .inl ⟨rfl, hm0⟩
          | some ad => exact .inr ⟨ad, rfl, fun j u hj => by rw [h] at hj; simp at hj⟩
        · exact .inr ⟨_, rfl, cells_add hc⟩)
      clear hnsrc
      go_upto_region 11 with fail
      go_upto_region 12 with (first
        | (at_builtin; refine wpList_append_any rfl _ _ 30 rfl w8.heap.size 3 i0 _ 1 8 Try.underlying30 hi hz0 hz1 hz2 rfl (by decide) (.slice (some ⟨w8.heap.size, 0, none⟩) 0 0) 0 [] rfl (own_laid0 (alloc_obj w8 _) (Nat.le_refl _) (by simp) (by unfold maxLen; omega)) na (p + 1) nc ((ts.take (p + 1)).map (Value.int .i64)) rfl HL1.out HNS.out (HO1.out _) (by unfold maxLen; omega) (by omega) (by simp) ?_; intro v9 w9 hown9 hgrow9; simp only [Nat.zero_add, List.nil_append] at hown9; have hb9 : Below w8.heap.size w8 w9 := ((Below.refl _ w8).alloc (Nat.le_refl _) _).grown hgrow9 (by simp) (fun g e => by simp only [Value.ownBlock, Option.some.injEq] at e; omega); obtain ⟨v9a, v9c, rfl, -, -, -⟩ := own_as_cells hown9)
        | (at_builtin; refine wpList_append_any rfl _ _ 30 rfl w8.heap.size 3 i0 _ 1 8 Try.underlying30 hi hz0 hz1 hz2 rfl (by decide) _ _ _ rfl hown9 ma m mc (more.map (Value.int .i64)) rfl HL2.out (HMS.out _ (Fr.new hb9)) (HO1.out _) (by unfold maxLen; omega) (by omega) hb9.size ?_; intro v10 w10 hown10 hgrow10; obtain ⟨v10a, v10c, rfl, -, -, -⟩ := own_as_cells hown10))
      have hb10 : Below w8.heap.size w8 w10 := hb9.grown hgrow10 hb9.size fun g e => (ownObj hown9 g e).1
      have k10 : Fr nothing w5 w10 := HK8.out.trans (Fr.new hb10)
      have hown : w10.ownsRow w8.heap.size 3 1 (.slice v10a (p + 1 + m) v10c) (ts.take (p + 1) ++ more).length ((ts.take (p + 1) ++ more).map (Value.int .i64)) := by
        rw [List.length_append, hlt1, HN.out.2, List.map_append]
        exact hown10
      have hin : Ints w10 (.slice v10a (p + 1 + m) v10c) (ts.take (p + 1) ++ more) := own_ints hown (fun x hx => by
        rcases List.mem_append.1 hx with hx | hx
        · exact HI.out.2.1.1 x (List.mem_of_mem_take hx)
        · exact HI.out.2.2.1.1 x hx) (by rw [List.length_append, hlt1, HN.out.2]; omega)
      have hll : (ts.take (p + 1) ++ more).length ≤ 100 := by rw [List.length_append, hlt1, HN.out.2]; omega
      have HPB := Lib.hid (parse_any G T (ts.take (p + 1) ++ more) _ _ _ w10 ((HI.out.1.fr HK5.out.1).fr k10) (HK5.out.2.2.fr k10) hin hll)
      have HLW := Lib.hid (ahead_law (more := more) HTO.out.1 (by rw [HTO.out.2, HN.out.1]; omega))
      have hb8 : Below w.heap.size w w10 := HB8.out.trans (hb10.mono HB8.out.size)
      have HB10 := Lib.hid hb8
      obtain ⟨d0, d1, d2, t0, t1⟩ := HCE.out w10 k10
      clear hb10 k10 hown hin hll hb8 hown9 hgrow9 hown10 hgrow10 hb9 HNS HL1 HO1 HL2 HMS
      go_upto_region 13 with (go_at_call 13; refine HPB.out.mono ?_; rintro e w11 ⟨xv2, err2, st2, rfl, hto2, -, ⟨kv2, rfl, hkd2⟩, hb11⟩; obtain ⟨xka2, xkc2, rfl, -, -, -⟩ := hkd2)
      have hone := hto2.one (by have h := HLW.out; rw [HTO.out.2] at h; exact h)
      simp only [Prod.mk.injEq] at hone
      obtain ⟨h1, h2⟩ := hone
      have hp2 : st2.pos = p := by rw [h2, HTO.out.2]
      rw [hp2, h1]
      have HBE := Lib.hid (HB10.out.trans ((hb11.mono HB10.out.size).trans ((Fr.alloc (ch := nothing) w11 (Obj.cells #[.int .i64 (treeOf err2 st2).p, .int .i64 (treeOf err2 st2).a, .slice xka2 (treeOf err2 st2).kids.len xkc2] 40 (0, 0))).below_new.mono (by have := HB10.out.size; have := hb11.size; omega))))
      rw [h1] at HBE
      clear h1 h2 hp2 hto2 hb11
      go_wp2
      go_ret
      exact ⟨rfl, HBE.out⟩
end Go.Proofs.Ytpnihegmhalcfaa
namespace Go.Proofs.Ytpnihegmhalcfaa
open Go.ChangeShapes Go.WideShapes Go.ChangeAt Go.RowKit Go.Deep Go.Joins

theorem own_ : ownKnob Try.prog.godebug = none := by kernel_rfl
theorem laidOut_ : laidOutB Try.prog = true := by kernel_rfl

set_option maxRecDepth 100000 in
theorem runAhead_lifted (os : Os) (started : os.Started) (H : Type) (enc : TypeId × Value → H) :
    ReturnsInHanded {} Try.checked os 6 .any (Rows.runAheadSpec.pre6 enc Try.prog Try.f6 Rows.runAheadRow.domain false) (Rows.runAheadSpec.post enc Try.prog Try.f6 false true false false) := by
  refine returnsInHanded_of_change_sized (C := Try.checked) own_ started (by kernel_rfl) Try.func6
    (ChangeSpec.witness6 (enc := enc) (C := Try.checked) false ⟨#[], #[.agg #[.int .i64 0, .slice none 0 0, .slice none 0 0], .slice none 0 0, .slice none 0 0], []⟩ 8 (by kernel_rfl) (by kernel_rfl) (by kernel_rfl) (by kernel_rfl)) ?_
  intro W base args ds gs before hval0 hW _ hsz0 _
  have hval : ∀ (j : Nat) t v, Try.f6.params[j]? = some t → args[j]? = some v → Value.okWide Try.prog W .any base t v := hval0
  have hsz : (DataW.weightsEach Try.prog (Try.f6.params.toList ++ Rows.runAheadSpec.plain.varTypes Try.prog) (ds ++ gs)).all (· ≤ reachBytes) = true := hsz0
  have hW' := hW
  obtain ⟨p, q, hA0, hV, rfl, hfz, hnd⟩ := hW
  have hA : DataW.TrodAll enc Try.prog W 0 (fun _ => true) true Try.f6.params.toList args.toList ds p := hA0
  rw [Try.params6] at hA hval hsz
  obtain ⟨v0, v1, v2, d0, d1, d2, p0, p1, p2, rfl, rfl, rfl, h0, h1, h2⟩ := trodAll_three hA
  obtain ⟨rfl, rfl⟩ := trodVars_none hV
  obtain ⟨G, hG, hF⟩ := read_gram (hval 0 _ v0 rfl rfl) h0 (fine_each hsz (j := 0) rfl rfl)
  obtain ⟨a1, len1, cap1, rfl⟩ := okWide_slice Try.underlying30 (hval 1 _ v1 rfl rfl)
  obtain ⟨n1, g1⟩ := h1
  obtain ⟨xs, hx⟩ := read_ints Try.underlying30 Try.underlying3 cInt bInt (by simpa [Value.cells] using g1) (fine_each hsz (j := 1) rfl rfl)
  obtain ⟨a2, len2, cap2, rfl⟩ := okWide_slice Try.underlying30 (hval 2 _ v2 rfl rfl)
  obtain ⟨n2, g2⟩ := h2
  obtain ⟨ys, hy⟩ := read_ints Try.underlying30 Try.underlying3 cInt bInt (by simpa [Value.cells] using g2) (fine_each hsz (j := 2) rfl rfl)
  refine (runAhead_any G xs ys v0 _ _ W hG hF hx hy).mono fun e W' ⟨he, hB⟩ => ?_
  subst he
  exact ⟨_, rfl, law_post laidOut_ (by kernel_rfl) hW' rfl rfl Try.underlying4 rfl hB⟩

theorem runAhead_holds : Rows.RunAheadSaid :=
  OpenClaim.holds_of_wide 6 Try.f6 rfl rfl rfl rfl rfl rfl rfl ⟨rfl, rfl, rfl, rfl, rfl⟩ rfl rfl rfl rfl rfl (by kernel_rfl) Try.func6 (by kernel_rfl)
    (of_decide_eq_true (by kernel_rfl)) (by unfold Func.isWrapper; rw [if_neg (of_decide_eq_false (by kernel_rfl))]; exact ⟨rfl, rfl⟩)
    (fun os started H enc _ => runAhead_lifted os started H enc)
#print axioms runAhead_holds
end Go.Proofs.Ytpnihegmhalcfaa
