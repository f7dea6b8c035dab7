/-
  gristmilllaw25.RunDerives.
-/
import Derived.Test.YtpnihegmhalcfaaRbF
import Derived.Test.YtpnihegmhalcfaaRunG39
import Derived.Test.YtpnihegmhalcfaaRunG37
import Derived.Test.YtpnihegmhalcfaaGrow
namespace Go.Proofs.Ytpnihegmhalcfaa
open Go.RowKit Go.MapKept Go.ChangeMaps
set_option maxHeartbeats 400000

/-- Of a grammar's own table a tree that is told derives just the terminals, from the start; its productions are those that were reduced by. -/
theorem derives_law {G : Gram} {T : Tbl} {terms : List Int} {st : Au} (hm : madeG G = some T) (h : RunTo G T terms (0, st)) : Derived G terms st := by
  unfold madeG at hm
  split at hm
  · rename_i hr
    cases hc : colI G with
    | none => rw [hc] at hm; cases hm
    | some q =>
      obtain ⟨ks, gs⟩ := q
      rw [hc] at hm
      simp only at hm
      split at hm
      · obtain rfl := Option.some.inj hm
        unfold RunTo at h
        split at h
        · obtain ⟨k, hk⟩ := h
          exact run_stk hr hc k startU st .start (Nat.zero_le _) hk
        · cases h
      · cases hm
  · cases hm

theorem made_right {G : Gram} {T : Tbl} (hm : madeG G = some T) : rightG G = true := by
  unfold madeG at hm
  split at hm
  · rename_i h; exact h
  · cases hm
theorem step_ok {G : Gram} {T : Tbl} {terms : List Int} (hT : rightT G T = true) {st st' : Au} (h : AuOk G T terms st) (e : stepU G T terms st = .inr st') : AuOk G T terms st' := by
  have hg := (rightG_parts (rightT_parts hT).1).1
  cases hn : nextT G terms st.pos with
  | none => rw [step_none hn] at e; cases e
  | some t =>
    obtain ⟨t0, t1, t2, t3⟩ := nextT_range hg.1 hn
    obtain ⟨y, hy, hyn, -⟩ := lastN_mem h.ne
    have hyr := h.num y hy
    rw [← hyn] at hyr
    obtain ⟨hent, -⟩ := entAt_ok hT hyr ⟨t0, t1⟩
    rcases entryB_kinds hent with hk | hk | ⟨hk, h1, h2, h3⟩ | ⟨hk, h1, h2⟩
    · rw [step_err hn hk] at e; cases e
    · rw [step_acc hn hk] at e; cases e
    · rw [step_shift hn hk] at e
      obtain rfl := Sum.inr.inj e
      refine shift_ok h (Classical.byContradiction fun hn => ?_) ⟨h2, h3⟩
      have := t3 (by omega)
      omega
    · rw [step_red hn hk] at e
      cases hr : redU G T st (entAt T (lastN st.stack) t).dst with
      | inl x => rw [hr] at e; cases e
      | inr st2 =>
        rw [hr] at e
        obtain rfl := Sum.inr.inj e
        exact red_ok hT h ⟨h1, h2⟩ hr
theorem run_okU {G : Gram} {T : Tbl} {terms : List Int} (hT : rightT G T = true) : ∀ (k : Nat) (st : Au) (err : Int) (st' : Au), AuOk G T terms st → runU G T terms k st = some (err, st') → AuOk G T terms st'
  | 0, _, _, _, _, h => by cases h
  | k + 1, st, err, st', ho, h => by
    unfold runU at h
    cases e : stepU G T terms st with
    | inl r =>
      rw [e] at h
      obtain rfl := Option.some.inj h
      rw [step_end e]
      exact ho
    | inr st1 =>
      rw [e] at h
      exact run_okU hT k st1 err st' (step_ok hT ho e) h
theorem runTo_ok {G : Gram} {T : Tbl} {terms : List Int} {err : Int} {st : Au} (hT : rightT G T = true) (h : RunTo G T terms (err, st)) : AuOk G T terms st := by
  unfold RunTo at h
  rw [if_pos hT] at h
  obtain ⟨k, hk⟩ := h
  exact run_okU hT k startU err st (startU_ok hT) hk

/-- What is known of what the last region's operations yield. -/
def RdV (cs : List Value) (L : List Int) (j : Nat) (W : World) (v : Value) : Prop := match j with
  | 21 => Ints W v L
  | 25 => Ints W v L
  | j => v = cs.getD j undef
theorem RdV.fr {cs : List Value} {L : List Int} (j : Nat) (v : Value) (w w' : World) (h : RdV cs L j w v) (k : Fr nothing w w') : RdV cs L j w' v := by
  unfold RdV at h ⊢
  split at h
  · exact Ints.fr h k
  · exact Ints.fr h k
  · exact h

set_option maxRecDepth 100000 in
set_option maxHeartbeats 16000000 in
theorem runDerives_any (G : Gram) (ts : List Int) (gv nv : Value) (w : World) (hg : IsGram w gv G) (hf : Fits G) (hn : Ints w nv ts) :
    Calls Try.prog 5 #[gv, nv] w fun e w' => e = .returned (.bool true) ∧ Below w.heap.size w w' := by
  obtain ⟨_, vs, vp, rfl, hs, hp⟩ := id hg
  obtain ⟨-, sa, sc, rfl, -, -, -⟩ := id hs
  obtain ⟨-, pa, pc, rfl, -, -, -⟩ := id hp
  obtain ⟨hnb, hnl, na, nc, rfl, hnc, hncm, hnx⟩ := id hn
  have hka := Fr.alloc (ch := nothing) w (grO G sa pa sc pc)
  have hob := alloc_obj w (grO G sa pa sc pc)
  unfold grO at hka hob
  have hka2 := hka.below_new
  have HI := Lib.hid (And.intro (hg.fr hka) (And.intro (hn.fr hka) (And.intro hka2 hob)))
  have HF := Lib.hid hf
  clear hg hs hp hn hka hka2 hob hnx hf hnb
  go_enter Try.func5, Try.ntmps5
  go_upto_region 1 with fail
  generalize w.alloc (Obj.cells #[.int .i64 G.terms, .slice sa G.syms.length sc, .slice pa G.prods.length pc] 25 (0, 0)) = W1 at *
  have HAW := Lib.hid (awake25_any W1)
  go_upto_region 3 with (go_at_call 7; refine HAW.out.mono ?_; rintro e w2 ⟨rfl, hb2⟩)
  have ho2 := (Fr.new hb2).obj HI.out.2.2.2 id
  have d0 := obj_cell ho2 0 (v := .int .i64 G.terms) rfl
  have d1 := obj_cell ho2 1 (v := .slice sa G.syms.length sc) rfl
  have d2 := obj_cell ho2 2 (v := .slice pa G.prods.length pc) rfl
  have HP := Lib.hid (grammarOf_any G 120 _ w2 (HI.out.1.fr (Fr.new hb2)) HF.out (by decide))
  have HB2 := Lib.hid hb2
  clear ho2 hb2 HAW
  obtain ⟨n, hnn⟩ : ∃ n, ts.length = n := ⟨_, rfl⟩
  rw [hnn] at hnl hnc ⊢
  have HN := Lib.hid hnn
  clear hnn
  by_cases hp : (120 : Int) < partsG G 120
  · have dp : decide ((120 : Int) < partsG G 120) = true := decide_eq_true hp
    clear hp
    go_wp2_with (go_at_call 10; refine HP.out.mono ?_; rintro e w3 ⟨rfl, hb3⟩)
    go_ret
    exact ⟨rfl, HI.out.2.2.1.trans ((HB2.out.mono HI.out.2.2.1.size).trans (hb3.mono (by have := HI.out.2.2.1.size; have := HB2.out.size; omega)))⟩
  have dp : decide ((120 : Int) < partsG G 120) = false := decide_eq_false hp
  clear hp
  by_cases hl : (60 : Int) < (n : Int)
  · have dl : decide ((60 : Int) < (n : Int)) = true := decide_eq_true hl
    have dl2 : decide (60 < n) = true := decide_eq_true (by omega)
    clear hl
    go_wp2_with (go_at_call 10; refine HP.out.mono ?_; rintro e w3 ⟨rfl, hb3⟩)
    go_ret
    exact ⟨rfl, HI.out.2.2.1.trans ((HB2.out.mono HI.out.2.2.1.size).trans (hb3.mono (by have := HI.out.2.2.1.size; have := HB2.out.size; omega)))⟩
  have dl : decide ((60 : Int) < (n : Int)) = false := decide_eq_false hl
  have dl2 : decide (60 < n) = false := decide_eq_false (by omega)
  go_upto_region 5 with (go_at_call 10; refine HP.out.mono ?_; rintro e w3 ⟨rfl, hb3⟩)
  have hs1 := HI.out.2.2.1.size
  have hb13 := HB2.out.trans (hb3.mono HB2.out.size)
  have k3 := Fr.new hb13
  have hg3 := HI.out.1.fr k3
  have ho3 := k3.obj HI.out.2.2.2 id
  have d0 := obj_cell ho3 0 (v := .int .i64 G.terms) rfl
  have d1 := obj_cell ho3 1 (v := .slice sa G.syms.length sc) rfl
  have d2 := obj_cell ho3 2 (v := .slice pa G.prods.length pc) rfl
  have HM := Lib.hid (made_any G _ w3 hg3)
  have hbw := HI.out.2.2.1.trans (hb13.mono hs1)
  have H3 := Lib.hid (And.intro k3 hbw)
  clear hb13 hb3 k3 hg3 ho3 HP hbw dp
  unfold MadeP at HM
  cases hmd : madeG G with
  | none =>
    rw [hmd] at HM
    simp only at HM
    go_wp2_with (go_at_call 11; refine HM.out.mono ?_; rintro e w4 ⟨hb4, rfl⟩)
    go_ret
    exact ⟨rfl, H3.out.2.trans ((hb4.mono H3.out.2.size).trans ((Fr.alloc (ch := nothing) w4 _).below_new.mono (by have := H3.out.2.size; have := hb4.size; omega)))⟩
  | some T =>
    rw [hmd] at HM
    simp only at HM
    have HMD := Lib.hid hmd
    clear hmd
    go_upto_region 6 with (go_at_call 11; refine HM.out.mono ?_; rintro e w4 ⟨hb4, tv, rfl, htb⟩; obtain ⟨tva, tvg, rfl, hta, htg⟩ := id htb; obtain ⟨tpa, tpc, rfl, -, -, -⟩ := Rows'.parts hta; obtain ⟨tga, tgc, rfl, -, -, -⟩ := Rows'.parts htg)
    obtain ⟨an, hae⟩ : ∃ an, T.acts.length = an := ⟨_, rfl⟩
    obtain ⟨gn, hge⟩ : ∃ gn, T.gotos.length = gn := ⟨_, rfl⟩
    rw [hae, hge] at htb ⊢
    have hka := Fr.alloc (ch := nothing) w4 (Obj.cells #[.slice tpa an tpc, .slice tga gn tgc] 29 (0, 0))
    have hob5 := alloc_obj w4 (Obj.cells #[.slice tpa an tpc, .slice tga gn tgc] 29 (0, 0))
    have k15 : Fr nothing W1 (w4.alloc (Obj.cells #[.slice tpa an tpc, .slice tga gn tgc] 29 (0, 0))) := H3.out.1.trans ((Fr.new hb4).trans hka)
    have htb5 := htb.fr hka
    have HK5 := Lib.hid (And.intro k15 (And.intro hob5 htb5))
    clear hta htg htb hka hob5 k15 htb5 hae hge HM d0 d1 d2 hb4
    generalize w4.alloc (Obj.cells #[.slice tpa an tpc, .slice tga gn tgc] 29 (0, 0)) = w5 at *
    obtain ⟨tb, htbe⟩ : ∃ tb, w4.heap.size = tb := ⟨_, rfl⟩
    rw [htbe] at HK5 ⊢
    clear htbe
    have hcell : ∀ W, Fr nothing w5 W → (W.cell? ⟨w.heap.size, 0, none⟩ = some (.int .i64 G.terms) ∧ W.cell? ⟨w.heap.size, 1, none⟩ = some (.slice sa G.syms.length sc) ∧ W.cell? ⟨w.heap.size, 2, none⟩ = some (.slice pa G.prods.length pc) ∧ W.cell? ⟨tb, 0, none⟩ = some (.slice tpa an tpc) ∧ W.cell? ⟨tb, 1, none⟩ = some (.slice tga gn tgc)) := fun W k => by
      have o1 := (HK5.out.1.trans k).obj HI.out.2.2.2 id
      have o2 := k.obj HK5.out.2.1 id
      exact ⟨obj_cell o1 0 rfl, obj_cell o1 1 rfl, obj_cell o1 2 rfl, obj_cell o2 0 rfl, obj_cell o2 1 rfl⟩
    have HCE := Lib.hid hcell
    clear hcell
    obtain ⟨d0, d1, d2, t0, t1⟩ := HCE.out w5 (Fr.refl _ _)
    have hbw5 : Below w.heap.size w w5 := HI.out.2.2.1.trans (HK5.out.1.below_new.mono HI.out.2.2.1.size)
    have HBW := Lib.hid hbw5
    have hgr := HI.out.1.fr HK5.out.1
    have hns := HI.out.2.1.fr HK5.out.1
    rw [HN.out] at hns
    have HLI := Lib.hid fun (W : World) (k : Fr nothing w5 W) => light_any G T ts _ _ _ W (hgr.fr k) (HK5.out.2.2.fr k) (hns.fr k) HF.out
    have HTR := Lib.hid (tableRight_any G _ _ T w5 hgr HK5.out.2.2)
    clear hbw5 hgr hns
    unfold LightP at HLI
    have HPA := Lib.hid fun (W : World) (k : Fr nothing w5 W) => parse_any G T ts _ _ _ W ((HI.out.1.fr HK5.out.1).fr k) (HK5.out.2.2.fr k) (by have h := (HI.out.2.1.fr HK5.out.1).fr k; rw [HN.out] at h; exact h) (by have := HN.out; omega)
    cases hT : rightT G T with
    | false =>
      rw [hT] at HTR
      go_wp2_with (go_at_call 12; refine HTR.out.mono ?_; rintro e w6 ⟨rfl, hb6⟩)
      go_ret
      exact ⟨rfl, HBW.out.trans (hb6.mono HBW.out.size)⟩
    | true =>
    rw [hT] at HTR
    have HTT := Lib.hid hT
    clear hT
    go_upto_region 9 with (first
      | (go_at_call 12; refine HTR.out.mono ?_; rintro e w60 ⟨rfl, hb60⟩; obtain ⟨d0, d1, d2, t0, t1⟩ := HCE.out w60 (Fr.new hb60))
      | (go_at_call 8; refine (HLI.out w60 (Fr.new hb60)).mono ?_; rintro e w6 ⟨⟨b, rfl⟩, hb6⟩; have k56 := (Fr.new hb60).trans (Fr.new hb6); obtain ⟨d0, d1, d2, t0, t1⟩ := HCE.out w6 k56; cases b)
      | (go_at_call 13; refine (HPA.out w6 k56).mono ?_; rintro e w7 ⟨xv, err, st, rfl, hto, hpos, ⟨kv, rfl, hkd⟩, hb7⟩; obtain ⟨ka, kc, rfl, -, -, -⟩ := id hkd))
    · go_ret
      exact ⟨rfl, HBW.out.trans (k56.below_new.mono HBW.out.size)⟩
    · obtain ⟨xb, hxb⟩ : ∃ xb, w7.heap.size = xb := ⟨_, rfl⟩
      obtain ⟨t, ht⟩ : ∃ t, treeOf err st = t := ⟨_, rfl⟩
      rw [ht] at hkd ⊢
      rw [hxb]
      obtain ⟨tp, ta, tk⟩ := t
      simp only at hkd ⊢
      obtain ⟨kn, hkn⟩ : ∃ kn, tk.len = kn := ⟨_, rfl⟩
      have hox := alloc_obj w7 (Obj.cells #[.int .i64 tp, .int .i64 ta, .slice ka kn kc] 40 (0, 0))
      rw [hxb] at hox
      have hkx := Fr.alloc (ch := nothing) w7 (Obj.cells #[.int .i64 tp, .int .i64 ta, .slice ka kn kc] 40 (0, 0))
      have hkdx := (hkd.any).fr hkx (fun _ _ _ => id) (fun _ _ _ => trivial)
      rw [hkn] at hkdx ⊢
      refine wp_atW (F := fun W => (Fr nothing w5 W ∧ W.heap[xb]? = some (.cells #[.int .i64 tp, .int .i64 ta, .slice ka kn kc] 40 (0, 0))) ∧ KidsV W (fun _ => True) tk (.slice ka kn kc)) ⟨⟨k56.trans ((Fr.new hb7).trans hkx), hox⟩, hkdx⟩ ?_
      rintro w8 ⟨⟨k8, ho8⟩, hk8⟩
      rw [HN.out] at hpos
      have HTO := Lib.hid (And.intro hto ht)
      have hbw8 : Below w.heap.size w w8 := HBW.out.trans (k8.below_new.mono HBW.out.size)
      have HB8 := Lib.hid (And.intro hbw8 (And.intro k8 (And.intro ho8 hk8)))
      have HKN := Lib.hid hkn
      have x0 := obj_cell ho8 0 (v := .int .i64 tp) rfl
      have x2 := obj_cell ho8 2 (v := .slice ka kn kc) rfl
      clear hto ht k8 hbw8 hb6 hb7 d0 d1 d2 t0 t1 HPA HLI hox hkx hkdx hk8 ho8 hkd hxb hkn k56 hb60
      by_cases herr : err = 0
      · subst herr
        have hD := derives_law HMD.out HTO.out.1
        have hokA := runTo_ok HTT.out HTO.out.1
        have hbd := bounds_of hokA HTT.out (by rw [HN.out]; omega)
        obtain ⟨hD1, hD2, hD3⟩ := hD
        have htree : lastT st.stack = ⟨tp, ta, tk⟩ := by have h := HTO.out.2; unfold treeOf at h; rw [if_pos rfl] at h; exact h
        rw [htree] at hD1 hD3
        have hsm : SmallL (countT ⟨tp, ta, tk⟩) := by
          rw [← hD3]
          exact ⟨hbd.1, fun x hx => by have := hbd.2.2.2 x hx; omega⟩
        have hpn : st.pos = n := by rw [hD2, HN.out]
        rw [HN.out] at hD1
        rw [hpn]
        have hrG := made_right HMD.out
        have hp0 : 0 < G.prods.length := by have := (rightG_parts hrG).1; omega
        obtain ⟨pb, po, ra, rc, rfl, hri, -, hcx⟩ := IsGram.prd (HI.out.1.fr (HK5.out.1.trans HB8.out.2.1)) 0 hp0
        have y1 := hcx 1 (by simp [prdCells])
        simp only [prdCells, List.getElem_cons_zero, List.getElem_cons_succ, Nat.zero_mul, Nat.add_zero] at y1
        have hr1 := (right_first hrG).2
        have hpr : prdAt G 0 = G.prods[0] := by
          unfold prdAt
          rw [List.getD_eq_getElem?_getD, show (0 : Int).toNat = 0 from rfl, List.getElem?_eq_getElem hp0]
          rfl
        rw [hpr] at hr1 hD1
        obtain ⟨rb, ro, rfl, -, -, r0, -⟩ := hri.at (k := 0) (by rw [hr1]; decide)
        rw [Nat.add_zero] at r0
        have hs0 : G.prods[0].right.getD 0 0 = G.prods[0].right[0]'(by rw [hr1]; decide) := by rw [List.getD_eq_getElem?_getD, List.getElem?_eq_getElem (by rw [hr1]; decide)]; rfl
        rw [hs0] at hD1
        rw [hr1] at y1
        generalize G.prods[0].right[0]'(by rw [hr1]; decide) = s0 at *
        have hcell : ∀ W, Fr nothing w8.drew W → (W.cell? ⟨w.heap.size, 0, none⟩ = some (.int .i64 G.terms) ∧ W.cell? ⟨w.heap.size, 1, none⟩ = some (.slice sa G.syms.length sc) ∧ W.cell? ⟨w.heap.size, 2, none⟩ = some (.slice (some ⟨pb, po, none⟩) G.prods.length pc) ∧ W.cell? ⟨tb, 0, none⟩ = some (.slice tpa an tpc) ∧ W.cell? ⟨tb, 1, none⟩ = some (.slice tga gn tgc)
            ∧ W.cell? ⟨xb, 0, none⟩ = some (.int .i64 tp) ∧ W.cell? ⟨xb, 1, none⟩ = some (.int .i64 ta) ∧ W.cell? ⟨xb, 2, none⟩ = some (.slice ka kn kc) ∧ W.cell? ⟨pb, po + 1, none⟩ = some (.slice (some ⟨rb, ro, none⟩) 1 rc) ∧ W.cell? ⟨rb, ro, none⟩ = some (.int .i64 s0)) := fun W k => by
          have k8 := (Fr.drew (ch := nothing) w8).trans k
          obtain ⟨c0, c1, c2, c3, c4⟩ := HCE.out W (HB8.out.2.1.trans k8)
          have ox := k8.obj HB8.out.2.2.1 id
          exact ⟨c0, c1, c2, c3, c4, obj_cell ox 0 rfl, obj_cell ox 1 rfl, obj_cell ox 2 rfl, k8.cell y1 id, k8.cell r0 id⟩
        have HTK : IsTree w8 (.agg #[.int .i64 tp, .int .i64 ta, .slice ka kn kc]) ⟨tp, ta, tk⟩ := ⟨_, rfl, HB8.out.2.2.2⟩
        have HY := Lib.hid (show ∀ W, Fr nothing w8.drew W → Calls Try.prog 14 #[.agg #[.int .i64 G.terms, .slice sa G.syms.length sc, .slice (some ⟨pb, po, none⟩) G.prods.length pc], .agg #[.int .i64 tp, .int .i64 ta, .slice ka kn kc], .int .i64 s0, .slice na n nc, .int .i64 0] W fun e w' => e = .returned (.int .i64 (n : Int)) ∧ Below W.heap.size W w' from fun W k => by
          have k8 := (Fr.drew (ch := nothing) w8).trans k
          have h := yields_any hrG (by rw [HN.out]; omega) ⟨tp, ta, tk⟩ W _ _ _ s0 0 n (HI.out.1.fr (HK5.out.1.trans (HB8.out.2.1.trans k8))) (HTK.fr k8) (HI.out.2.1.fr (HK5.out.1.trans (HB8.out.2.1.trans k8))) hD1 (Nat.zero_le _)
          rw [HN.out] at h
          exact h)
        have HCT := Lib.hid (show ∀ W, Fr nothing w8.drew W → Calls Try.prog 16 #[.agg #[.int .i64 tp, .int .i64 ta, .slice ka kn kc]] W fun e w' => ∃ r, e = .returned r ∧ Ints w' r (countT ⟨tp, ta, tk⟩) ∧ Below W.heap.size W w' from fun W k => count_any _ W _ (HTK.fr ((Fr.drew (ch := nothing) w8).trans k)) hsm)
        have HRD := Lib.hid (show ∀ W, Fr nothing w8.drew W → Calls Try.prog 17 #[.agg #[.int .i64 G.terms, .slice sa G.syms.length sc, .slice (some ⟨pb, po, none⟩) G.prods.length pc], .agg #[.slice tpa an tpc, .slice tga gn tgc], .slice na n nc] W fun e w' => ∃ r, e = .returned r ∧ Ints w' r (countT ⟨tp, ta, tk⟩) ∧ Below W.heap.size W w' from fun W k => by
          have k8 := (Fr.drew (ch := nothing) w8).trans k
          have hns := HI.out.2.1.fr (HK5.out.1.trans (HB8.out.2.1.trans k8))
          rw [HN.out] at hns
          refine (reductions_any G T ts _ _ _ W (HI.out.1.fr (HK5.out.1.trans (HB8.out.2.1.trans k8))) (HK5.out.2.2.fr (HB8.out.2.1.trans k8)) hns (by rw [HN.out]; omega)).mono ?_
          rintro e w' ⟨rv, err', st', rfl, hto', hi', hb'⟩
          have hone := HTO.out.1.one hto'
          simp only [Prod.mk.injEq] at hone
          rw [← hone.2, hD3] at hi'
          exact ⟨rv, rfl, hi', hb'⟩)
        have HSI := Lib.hid (show Value.bool (sameI (countT ⟨tp, ta, tk⟩) (countT ⟨tp, ta, tk⟩)) = Value.bool true by unfold sameI; rw [decide_eq_true rfl])
        have HCE2 := Lib.hid hcell
        have dn : decide ((n : Int) < 0) = false := decide_eq_false (by omega)
        have dn2 : decide ((n : Int) < (n : Int)) = false := decide_eq_false (by omega)
        have dn3 : decide (n < n) = false := decide_eq_false (by omega)
        have dn4 : ((n : Int) == (n : Int)) = true := beq_iff_eq.2 rfl
        obtain ⟨L, hL⟩ : ∃ L, countT ⟨tp, ta, tk⟩ = L := ⟨_, rfl⟩
        rw [hL] at HCT HRD HSI
        have HB9 := Lib.hid HB8.out.1
        clear hcell y1 r0 hcx hri hs0 hr1 hpr hD1 hD2 hD3 htree hsm hbd hokA hrG hL HTK hpn hpos HTO HMD HTT HCE HKN x0 x2
        have HCE := HCE2
        clear HCE2
        go_upto_region 13 with fail
        refine wp_region_any (by kernel_rfl) (region_grow 29 (RdV [.int .i64 (n : Int), .slice na n nc, .int .i64 (n : Int), .bool true, .bool true, .agg #[.int .i64 G.terms, .slice sa G.syms.length sc, .slice (some ⟨pb, po, none⟩) G.prods.length pc], .agg #[.int .i64 tp, .int .i64 ta, .slice ka kn kc], .pointer (some ⟨w.heap.size, 2, none⟩), .slice (some ⟨pb, po, none⟩) G.prods.length pc, .pointer (some ⟨pb, po, none⟩), .pointer (some ⟨pb, po + 1, none⟩), .slice (some ⟨rb, ro, none⟩) 1 rc, .pointer (some ⟨rb, ro, none⟩), .int .i64 s0, .slice na n nc, .int .i64 (n : Int), .int .i64 (n : Int), .bool true, .bool true, .bool true, .agg #[.int .i64 tp, .int .i64 ta, .slice ka kn kc], undef, .agg #[.int .i64 G.terms, .slice sa G.syms.length sc, .slice (some ⟨pb, po, none⟩) G.prods.length pc], .agg #[.slice tpa an tpc, .slice tga gn tgc], .slice na n nc, undef, .bool true, .bool true, .bool true] L) RdV.fr (by kernel_rfl) (by kernel_rfl) ?_ ?_)
        · intro j o hlt hj σ W A hf hV hdep hdf hA1 hA2
          match j with
          | 0 =>
            obtain rfl := Option.some.inj hj
            refine grow_plain rfl rfl ?_
            have b8 : A.tmps[8]?.getD undef = .int .i64 (n : Int) := hA1 8 (by kernel_rfl)
            go_simp
            exact ⟨_, rfl, rfl, Fr.refl _ _⟩
          | 1 =>
            obtain rfl := Option.some.inj hj
            refine grow_plain rfl rfl ?_
            have b1 : A.tmps[1]?.getD undef = .slice na n nc := hA1 1 (by kernel_rfl)
            go_simp
            exact ⟨_, rfl, rfl, Fr.refl _ _⟩
          | 2 =>
            obtain rfl := Option.some.inj hj
            obtain ⟨v1, e1⟩ := hdep 1 (by kernel_rfl)
            have a1 := hA2 1 68 v1 (by kernel_rfl) (Nat.le_of_ble_eq_true (by kernel_rfl)) e1
            obtain rfl : v1 = .slice na n nc := hV 1 v1 e1
            refine grow_plain rfl rfl ?_
            go_simp
            exact ⟨_, rfl, rfl, Fr.refl _ _⟩
          | 3 =>
            obtain rfl := Option.some.inj hj
            obtain ⟨v0, e0⟩ := hdep 0 (by kernel_rfl)
            have a0 := hA2 0 67 v0 (by kernel_rfl) (Nat.le_of_ble_eq_true (by kernel_rfl)) e0
            obtain rfl : v0 = .int .i64 (n : Int) := hV 0 v0 e0
            obtain ⟨v2, e2⟩ := hdep 2 (by kernel_rfl)
            have a2 := hA2 2 69 v2 (by kernel_rfl) (Nat.le_of_ble_eq_true (by kernel_rfl)) e2
            obtain rfl : v2 = .int .i64 (n : Int) := hV 2 v2 e2
            refine grow_plain rfl rfl ?_
            go_simp
            exact ⟨_, rfl, rfl, Fr.refl _ _⟩
          | 4 =>
            obtain rfl := Option.some.inj hj
            obtain ⟨v3, e3⟩ := hdep 3 (by kernel_rfl)
            have a3 := hA2 3 70 v3 (by kernel_rfl) (Nat.le_of_ble_eq_true (by kernel_rfl)) e3
            obtain rfl : v3 = .bool true := hV 3 v3 e3
            refine grow_plain rfl rfl ?_
            go_simp
            exact ⟨_, rfl, rfl, Fr.refl _ _⟩
          | 5 =>
            obtain rfl := Option.some.inj hj
            obtain ⟨v4, e4⟩ := hdep 4 (by kernel_rfl)
            have a4 := hA2 4 71 v4 (by kernel_rfl) (Nat.le_of_ble_eq_true (by kernel_rfl)) e4
            obtain rfl : v4 = .bool true := hV 4 v4 e4
            refine grow_guard (g := 4) (s := 71) (want := true) rfl rfl (by rfl) a4 ?_
            have b2 : A.tmps[2]?.getD undef = .pointer (some ⟨w.heap.size, 0, none⟩) := hA1 2 (by kernel_rfl)
            obtain ⟨d0, d1, d2, t0, t1, x0, x1, x2, y1, r0⟩ := HCE.out W hf
            go_simp
            exact ⟨_, rfl, rfl, Fr.refl _ _⟩
          | 6 =>
            obtain rfl := Option.some.inj hj
            obtain ⟨v4, e4⟩ := hdep 4 (by kernel_rfl)
            have a4 := hA2 4 71 v4 (by kernel_rfl) (Nat.le_of_ble_eq_true (by kernel_rfl)) e4
            obtain rfl : v4 = .bool true := hV 4 v4 e4
            refine grow_guard (g := 4) (s := 71) (want := true) rfl rfl (by rfl) a4 ?_
            have b7 : A.tmps[7]?.getD undef = .pointer (some ⟨xb, 0, none⟩) := hA1 7 (by kernel_rfl)
            obtain ⟨d0, d1, d2, t0, t1, x0, x1, x2, y1, r0⟩ := HCE.out W hf
            go_simp
            exact ⟨_, rfl, rfl, Fr.refl _ _⟩
          | 7 =>
            obtain rfl := Option.some.inj hj
            obtain ⟨v4, e4⟩ := hdep 4 (by kernel_rfl)
            have a4 := hA2 4 71 v4 (by kernel_rfl) (Nat.le_of_ble_eq_true (by kernel_rfl)) e4
            obtain rfl : v4 = .bool true := hV 4 v4 e4
            refine grow_guard (g := 4) (s := 71) (want := true) rfl rfl (by rfl) a4 ?_
            have b2 : A.tmps[2]?.getD undef = .pointer (some ⟨w.heap.size, 0, none⟩) := hA1 2 (by kernel_rfl)
            go_simp
            exact ⟨_, rfl, rfl, Fr.refl _ _⟩
          | 8 =>
            obtain rfl := Option.some.inj hj
            obtain ⟨v4, e4⟩ := hdep 4 (by kernel_rfl)
            have a4 := hA2 4 71 v4 (by kernel_rfl) (Nat.le_of_ble_eq_true (by kernel_rfl)) e4
            obtain rfl : v4 = .bool true := hV 4 v4 e4
            obtain ⟨v7, e7⟩ := hdep 7 (by kernel_rfl)
            have a7 := hA2 7 74 v7 (by kernel_rfl) (Nat.le_of_ble_eq_true (by kernel_rfl)) e7
            obtain rfl : v7 = .pointer (some ⟨w.heap.size, 2, none⟩) := hV 7 v7 e7
            refine grow_guard (g := 4) (s := 71) (want := true) rfl rfl (by rfl) a4 ?_
            obtain ⟨d0, d1, d2, t0, t1, x0, x1, x2, y1, r0⟩ := HCE.out W hf
            go_simp
            exact ⟨_, rfl, rfl, Fr.refl _ _⟩
          | 9 =>
            obtain rfl := Option.some.inj hj
            obtain ⟨v4, e4⟩ := hdep 4 (by kernel_rfl)
            have a4 := hA2 4 71 v4 (by kernel_rfl) (Nat.le_of_ble_eq_true (by kernel_rfl)) e4
            obtain rfl : v4 = .bool true := hV 4 v4 e4
            obtain ⟨v8, e8⟩ := hdep 8 (by kernel_rfl)
            have a8 := hA2 8 75 v8 (by kernel_rfl) (Nat.le_of_ble_eq_true (by kernel_rfl)) e8
            obtain rfl : v8 = .slice (some ⟨pb, po, none⟩) G.prods.length pc := hV 8 v8 e8
            refine grow_guard (g := 4) (s := 71) (want := true) rfl rfl (by rfl) a4 ?_
            go_simp
            exact ⟨_, rfl, rfl, Fr.refl _ _⟩
          | 10 =>
            obtain rfl := Option.some.inj hj
            obtain ⟨v4, e4⟩ := hdep 4 (by kernel_rfl)
            have a4 := hA2 4 71 v4 (by kernel_rfl) (Nat.le_of_ble_eq_true (by kernel_rfl)) e4
            obtain rfl : v4 = .bool true := hV 4 v4 e4
            obtain ⟨v9, e9⟩ := hdep 9 (by kernel_rfl)
            have a9 := hA2 9 76 v9 (by kernel_rfl) (Nat.le_of_ble_eq_true (by kernel_rfl)) e9
            obtain rfl : v9 = .pointer (some ⟨pb, po, none⟩) := hV 9 v9 e9
            refine grow_guard (g := 4) (s := 71) (want := true) rfl rfl (by rfl) a4 ?_
            go_simp
            exact ⟨_, rfl, rfl, Fr.refl _ _⟩
          | 11 =>
            obtain rfl := Option.some.inj hj
            obtain ⟨v4, e4⟩ := hdep 4 (by kernel_rfl)
            have a4 := hA2 4 71 v4 (by kernel_rfl) (Nat.le_of_ble_eq_true (by kernel_rfl)) e4
            obtain rfl : v4 = .bool true := hV 4 v4 e4
            obtain ⟨v10, e10⟩ := hdep 10 (by kernel_rfl)
            have a10 := hA2 10 77 v10 (by kernel_rfl) (Nat.le_of_ble_eq_true (by kernel_rfl)) e10
            obtain rfl : v10 = .pointer (some ⟨pb, po + 1, none⟩) := hV 10 v10 e10
            refine grow_guard (g := 4) (s := 71) (want := true) rfl rfl (by rfl) a4 ?_
            obtain ⟨d0, d1, d2, t0, t1, x0, x1, x2, y1, r0⟩ := HCE.out W hf
            go_simp
            exact ⟨_, rfl, rfl, Fr.refl _ _⟩
          | 12 =>
            obtain rfl := Option.some.inj hj
            obtain ⟨v4, e4⟩ := hdep 4 (by kernel_rfl)
            have a4 := hA2 4 71 v4 (by kernel_rfl) (Nat.le_of_ble_eq_true (by kernel_rfl)) e4
            obtain rfl : v4 = .bool true := hV 4 v4 e4
            obtain ⟨v11, e11⟩ := hdep 11 (by kernel_rfl)
            have a11 := hA2 11 78 v11 (by kernel_rfl) (Nat.le_of_ble_eq_true (by kernel_rfl)) e11
            obtain rfl : v11 = .slice (some ⟨rb, ro, none⟩) 1 rc := hV 11 v11 e11
            refine grow_guard (g := 4) (s := 71) (want := true) rfl rfl (by rfl) a4 ?_
            go_simp
            exact ⟨_, rfl, rfl, Fr.refl _ _⟩
          | 13 =>
            obtain rfl := Option.some.inj hj
            obtain ⟨v4, e4⟩ := hdep 4 (by kernel_rfl)
            have a4 := hA2 4 71 v4 (by kernel_rfl) (Nat.le_of_ble_eq_true (by kernel_rfl)) e4
            obtain rfl : v4 = .bool true := hV 4 v4 e4
            obtain ⟨v12, e12⟩ := hdep 12 (by kernel_rfl)
            have a12 := hA2 12 79 v12 (by kernel_rfl) (Nat.le_of_ble_eq_true (by kernel_rfl)) e12
            obtain rfl : v12 = .pointer (some ⟨rb, ro, none⟩) := hV 12 v12 e12
            refine grow_guard (g := 4) (s := 71) (want := true) rfl rfl (by rfl) a4 ?_
            obtain ⟨d0, d1, d2, t0, t1, x0, x1, x2, y1, r0⟩ := HCE.out W hf
            go_simp
            exact ⟨_, rfl, rfl, Fr.refl _ _⟩
          | 14 =>
            obtain rfl := Option.some.inj hj
            obtain ⟨v4, e4⟩ := hdep 4 (by kernel_rfl)
            have a4 := hA2 4 71 v4 (by kernel_rfl) (Nat.le_of_ble_eq_true (by kernel_rfl)) e4
            obtain rfl : v4 = .bool true := hV 4 v4 e4
            refine grow_guard (g := 4) (s := 71) (want := true) rfl rfl (by rfl) a4 ?_
            have b1 : A.tmps[1]?.getD undef = .slice na n nc := hA1 1 (by kernel_rfl)
            go_simp
            exact ⟨_, rfl, rfl, Fr.refl _ _⟩
          | 15 =>
            obtain rfl := Option.some.inj hj
            obtain ⟨v4, e4⟩ := hdep 4 (by kernel_rfl)
            have a4 := hA2 4 71 v4 (by kernel_rfl) (Nat.le_of_ble_eq_true (by kernel_rfl)) e4
            obtain rfl : v4 = .bool true := hV 4 v4 e4
            obtain ⟨v5, e5⟩ := hdep 5 (by kernel_rfl)
            have a5 := hA2 5 72 v5 (by kernel_rfl) (Nat.le_of_ble_eq_true (by kernel_rfl)) e5
            obtain rfl : v5 = .agg #[.int .i64 G.terms, .slice sa G.syms.length sc, .slice (some ⟨pb, po, none⟩) G.prods.length pc] := hV 5 v5 e5
            obtain ⟨v6, e6⟩ := hdep 6 (by kernel_rfl)
            have a6 := hA2 6 73 v6 (by kernel_rfl) (Nat.le_of_ble_eq_true (by kernel_rfl)) e6
            obtain rfl : v6 = .agg #[.int .i64 tp, .int .i64 ta, .slice ka kn kc] := hV 6 v6 e6
            obtain ⟨v13, e13⟩ := hdep 13 (by kernel_rfl)
            have a13 := hA2 13 80 v13 (by kernel_rfl) (Nat.le_of_ble_eq_true (by kernel_rfl)) e13
            obtain rfl : v13 = .int .i64 s0 := hV 13 v13 e13
            obtain ⟨v14, e14⟩ := hdep 14 (by kernel_rfl)
            have a14 := hA2 14 81 v14 (by kernel_rfl) (Nat.le_of_ble_eq_true (by kernel_rfl)) e14
            obtain rfl : v14 = .slice na n nc := hV 14 v14 e14
            refine grow_guard (g := 4) (s := 71) (want := true) rfl rfl (by rfl) a4 ?_
            go_simp
            refine (HY.out W hf).mono ?_
            rintro e W2 ⟨rfl, hb⟩
            dsimp only
            exact ⟨_, rfl, rfl, Fr.new hb⟩
          | 16 =>
            obtain rfl := Option.some.inj hj
            obtain ⟨v4, e4⟩ := hdep 4 (by kernel_rfl)
            have a4 := hA2 4 71 v4 (by kernel_rfl) (Nat.le_of_ble_eq_true (by kernel_rfl)) e4
            obtain rfl : v4 = .bool true := hV 4 v4 e4
            refine grow_guard (g := 4) (s := 71) (want := true) rfl rfl (by rfl) a4 ?_
            have b8 : A.tmps[8]?.getD undef = .int .i64 (n : Int) := hA1 8 (by kernel_rfl)
            go_simp
            exact ⟨_, rfl, rfl, Fr.refl _ _⟩
          | 17 =>
            obtain rfl := Option.some.inj hj
            obtain ⟨v4, e4⟩ := hdep 4 (by kernel_rfl)
            have a4 := hA2 4 71 v4 (by kernel_rfl) (Nat.le_of_ble_eq_true (by kernel_rfl)) e4
            obtain rfl : v4 = .bool true := hV 4 v4 e4
            obtain ⟨v15, e15⟩ := hdep 15 (by kernel_rfl)
            have a15 := hA2 15 82 v15 (by kernel_rfl) (Nat.le_of_ble_eq_true (by kernel_rfl)) e15
            obtain rfl : v15 = .int .i64 (n : Int) := hV 15 v15 e15
            obtain ⟨v16, e16⟩ := hdep 16 (by kernel_rfl)
            have a16 := hA2 16 83 v16 (by kernel_rfl) (Nat.le_of_ble_eq_true (by kernel_rfl)) e16
            obtain rfl : v16 = .int .i64 (n : Int) := hV 16 v16 e16
            refine grow_guard (g := 4) (s := 71) (want := true) rfl rfl (by rfl) a4 ?_
            go_simp
            exact ⟨_, rfl, rfl, Fr.refl _ _⟩
          | 18 =>
            obtain rfl := Option.some.inj hj
            obtain ⟨v4, e4⟩ := hdep 4 (by kernel_rfl)
            have a4 := hA2 4 71 v4 (by kernel_rfl) (Nat.le_of_ble_eq_true (by kernel_rfl)) e4
            obtain rfl : v4 = .bool true := hV 4 v4 e4
            obtain ⟨v17, e17⟩ := hdep 17 (by kernel_rfl)
            have a17 := hA2 17 84 v17 (by kernel_rfl) (Nat.le_of_ble_eq_true (by kernel_rfl)) e17
            obtain rfl : v17 = .bool true := hV 17 v17 e17
            refine grow_plain rfl rfl ?_
            go_simp
            exact ⟨_, rfl, rfl, Fr.refl _ _⟩
          | 19 =>
            obtain rfl := Option.some.inj hj
            obtain ⟨v18, e18⟩ := hdep 18 (by kernel_rfl)
            have a18 := hA2 18 85 v18 (by kernel_rfl) (Nat.le_of_ble_eq_true (by kernel_rfl)) e18
            obtain rfl : v18 = .bool true := hV 18 v18 e18
            refine grow_plain rfl rfl ?_
            go_simp
            exact ⟨_, rfl, rfl, Fr.refl _ _⟩
          | 20 =>
            obtain rfl := Option.some.inj hj
            obtain ⟨v19, e19⟩ := hdep 19 (by kernel_rfl)
            have a19 := hA2 19 86 v19 (by kernel_rfl) (Nat.le_of_ble_eq_true (by kernel_rfl)) e19
            obtain rfl : v19 = .bool true := hV 19 v19 e19
            refine grow_guard (g := 19) (s := 86) (want := true) rfl rfl (by rfl) a19 ?_
            have b7 : A.tmps[7]?.getD undef = .pointer (some ⟨xb, 0, none⟩) := hA1 7 (by kernel_rfl)
            obtain ⟨d0, d1, d2, t0, t1, x0, x1, x2, y1, r0⟩ := HCE.out W hf
            go_simp
            exact ⟨_, rfl, rfl, Fr.refl _ _⟩
          | 21 =>
            obtain rfl := Option.some.inj hj
            obtain ⟨v19, e19⟩ := hdep 19 (by kernel_rfl)
            have a19 := hA2 19 86 v19 (by kernel_rfl) (Nat.le_of_ble_eq_true (by kernel_rfl)) e19
            obtain rfl : v19 = .bool true := hV 19 v19 e19
            obtain ⟨v20, e20⟩ := hdep 20 (by kernel_rfl)
            have a20 := hA2 20 87 v20 (by kernel_rfl) (Nat.le_of_ble_eq_true (by kernel_rfl)) e20
            obtain rfl : v20 = .agg #[.int .i64 tp, .int .i64 ta, .slice ka kn kc] := hV 20 v20 e20
            refine grow_guard (g := 19) (s := 86) (want := true) rfl rfl (by rfl) a19 ?_
            go_simp
            refine (HCT.out W hf).mono ?_
            rintro e W2 ⟨r, rfl, hr, hb⟩
            dsimp only
            exact ⟨_, rfl, hr, Fr.new hb⟩
          | 22 =>
            obtain rfl := Option.some.inj hj
            obtain ⟨v19, e19⟩ := hdep 19 (by kernel_rfl)
            have a19 := hA2 19 86 v19 (by kernel_rfl) (Nat.le_of_ble_eq_true (by kernel_rfl)) e19
            obtain rfl : v19 = .bool true := hV 19 v19 e19
            refine grow_guard (g := 19) (s := 86) (want := true) rfl rfl (by rfl) a19 ?_
            have b2 : A.tmps[2]?.getD undef = .pointer (some ⟨w.heap.size, 0, none⟩) := hA1 2 (by kernel_rfl)
            obtain ⟨d0, d1, d2, t0, t1, x0, x1, x2, y1, r0⟩ := HCE.out W hf
            go_simp
            exact ⟨_, rfl, rfl, Fr.refl _ _⟩
          | 23 =>
            obtain rfl := Option.some.inj hj
            obtain ⟨v19, e19⟩ := hdep 19 (by kernel_rfl)
            have a19 := hA2 19 86 v19 (by kernel_rfl) (Nat.le_of_ble_eq_true (by kernel_rfl)) e19
            obtain rfl : v19 = .bool true := hV 19 v19 e19
            refine grow_guard (g := 19) (s := 86) (want := true) rfl rfl (by rfl) a19 ?_
            have b5 : A.tmps[5]?.getD undef = .pointer (some ⟨tb, 0, none⟩) := hA1 5 (by kernel_rfl)
            obtain ⟨d0, d1, d2, t0, t1, x0, x1, x2, y1, r0⟩ := HCE.out W hf
            go_simp
            exact ⟨_, rfl, rfl, Fr.refl _ _⟩
          | 24 =>
            obtain rfl := Option.some.inj hj
            obtain ⟨v19, e19⟩ := hdep 19 (by kernel_rfl)
            have a19 := hA2 19 86 v19 (by kernel_rfl) (Nat.le_of_ble_eq_true (by kernel_rfl)) e19
            obtain rfl : v19 = .bool true := hV 19 v19 e19
            refine grow_guard (g := 19) (s := 86) (want := true) rfl rfl (by rfl) a19 ?_
            have b1 : A.tmps[1]?.getD undef = .slice na n nc := hA1 1 (by kernel_rfl)
            go_simp
            exact ⟨_, rfl, rfl, Fr.refl _ _⟩
          | 25 =>
            obtain rfl := Option.some.inj hj
            obtain ⟨v19, e19⟩ := hdep 19 (by kernel_rfl)
            have a19 := hA2 19 86 v19 (by kernel_rfl) (Nat.le_of_ble_eq_true (by kernel_rfl)) e19
            obtain rfl : v19 = .bool true := hV 19 v19 e19
            obtain ⟨v22, e22⟩ := hdep 22 (by kernel_rfl)
            have a22 := hA2 22 89 v22 (by kernel_rfl) (Nat.le_of_ble_eq_true (by kernel_rfl)) e22
            obtain rfl : v22 = .agg #[.int .i64 G.terms, .slice sa G.syms.length sc, .slice (some ⟨pb, po, none⟩) G.prods.length pc] := hV 22 v22 e22
            obtain ⟨v23, e23⟩ := hdep 23 (by kernel_rfl)
            have a23 := hA2 23 90 v23 (by kernel_rfl) (Nat.le_of_ble_eq_true (by kernel_rfl)) e23
            obtain rfl : v23 = .agg #[.slice tpa an tpc, .slice tga gn tgc] := hV 23 v23 e23
            obtain ⟨v24, e24⟩ := hdep 24 (by kernel_rfl)
            have a24 := hA2 24 91 v24 (by kernel_rfl) (Nat.le_of_ble_eq_true (by kernel_rfl)) e24
            obtain rfl : v24 = .slice na n nc := hV 24 v24 e24
            refine grow_guard (g := 19) (s := 86) (want := true) rfl rfl (by rfl) a19 ?_
            go_simp
            refine (HRD.out W hf).mono ?_
            rintro e W2 ⟨r, rfl, hr, hb⟩
            dsimp only
            exact ⟨_, rfl, hr, Fr.new hb⟩
          | 26 =>
            obtain rfl := Option.some.inj hj
            obtain ⟨v19, e19⟩ := hdep 19 (by kernel_rfl)
            have a19 := hA2 19 86 v19 (by kernel_rfl) (Nat.le_of_ble_eq_true (by kernel_rfl)) e19
            obtain rfl : v19 = .bool true := hV 19 v19 e19
            obtain ⟨v21, e21⟩ := hdep 21 (by kernel_rfl)
            have a21 := hA2 21 88 v21 (by kernel_rfl) (Nat.le_of_ble_eq_true (by kernel_rfl)) e21
            obtain h21 := hV 21 v21 e21
            obtain ⟨v25, e25⟩ := hdep 25 (by kernel_rfl)
            have a25 := hA2 25 92 v25 (by kernel_rfl) (Nat.le_of_ble_eq_true (by kernel_rfl)) e25
            obtain h25 := hV 25 v25 e25
            refine grow_guard (g := 19) (s := 86) (want := true) rfl rfl (by rfl) a19 ?_
            go_simp
            refine (same_any v21 v25 _ _ W h21 h25).mono ?_
            rintro e W2 ⟨rfl, q, rfl⟩
            dsimp only
            exact ⟨_, rfl, HSI.out, Fr.new (below_drewN (Below.refl _ _) _)⟩
          | 27 =>
            obtain rfl := Option.some.inj hj
            obtain ⟨v19, e19⟩ := hdep 19 (by kernel_rfl)
            have a19 := hA2 19 86 v19 (by kernel_rfl) (Nat.le_of_ble_eq_true (by kernel_rfl)) e19
            obtain rfl : v19 = .bool true := hV 19 v19 e19
            obtain ⟨v26, e26⟩ := hdep 26 (by kernel_rfl)
            have a26 := hA2 26 93 v26 (by kernel_rfl) (Nat.le_of_ble_eq_true (by kernel_rfl)) e26
            obtain rfl : v26 = .bool true := hV 26 v26 e26
            refine grow_plain rfl rfl ?_
            go_simp
            exact ⟨_, rfl, rfl, Fr.refl _ _⟩
          | 28 =>
            obtain rfl := Option.some.inj hj
            obtain ⟨v27, e27⟩ := hdep 27 (by kernel_rfl)
            have a27 := hA2 27 94 v27 (by kernel_rfl) (Nat.le_of_ble_eq_true (by kernel_rfl)) e27
            obtain rfl : v27 = .bool true := hV 27 v27 e27
            refine grow_plain rfl rfl ?_
            go_simp
            exact ⟨_, rfl, rfl, Fr.refl _ _⟩
          | n + 29 => exact absurd hlt (by omega)
        · intro σ W hf hall hnone
          refine ⟨by kernel_rfl, ?_⟩
          obtain ⟨v0, h0, r0⟩ := hall 0 (by decide)
          obtain rfl : v0 = .int .i64 (n : Int) := r0
          obtain ⟨v1, h1, r1⟩ := hall 1 (by decide)
          obtain rfl : v1 = .slice na n nc := r1
          obtain ⟨v2, h2, r2⟩ := hall 2 (by decide)
          obtain rfl : v2 = .int .i64 (n : Int) := r2
          obtain ⟨v3, h3, r3⟩ := hall 3 (by decide)
          obtain rfl : v3 = .bool true := r3
          obtain ⟨v4, h4, r4⟩ := hall 4 (by decide)
          obtain rfl : v4 = .bool true := r4
          obtain ⟨v5, h5, r5⟩ := hall 5 (by decide)
          obtain rfl : v5 = .agg #[.int .i64 G.terms, .slice sa G.syms.length sc, .slice (some ⟨pb, po, none⟩) G.prods.length pc] := r5
          obtain ⟨v6, h6, r6⟩ := hall 6 (by decide)
          obtain rfl : v6 = .agg #[.int .i64 tp, .int .i64 ta, .slice ka kn kc] := r6
          obtain ⟨v7, h7, r7⟩ := hall 7 (by decide)
          obtain rfl : v7 = .pointer (some ⟨w.heap.size, 2, none⟩) := r7
          obtain ⟨v8, h8, r8⟩ := hall 8 (by decide)
          obtain rfl : v8 = .slice (some ⟨pb, po, none⟩) G.prods.length pc := r8
          obtain ⟨v9, h9, r9⟩ := hall 9 (by decide)
          obtain rfl : v9 = .pointer (some ⟨pb, po, none⟩) := r9
          obtain ⟨v10, h10, r10⟩ := hall 10 (by decide)
          obtain rfl : v10 = .pointer (some ⟨pb, po + 1, none⟩) := r10
          obtain ⟨v11, h11, r11⟩ := hall 11 (by decide)
          obtain rfl : v11 = .slice (some ⟨rb, ro, none⟩) 1 rc := r11
          obtain ⟨v12, h12, r12⟩ := hall 12 (by decide)
          obtain rfl : v12 = .pointer (some ⟨rb, ro, none⟩) := r12
          obtain ⟨v13, h13, r13⟩ := hall 13 (by decide)
          obtain rfl : v13 = .int .i64 s0 := r13
          obtain ⟨v14, h14, r14⟩ := hall 14 (by decide)
          obtain rfl : v14 = .slice na n nc := r14
          obtain ⟨v15, h15, r15⟩ := hall 15 (by decide)
          obtain rfl : v15 = .int .i64 (n : Int) := r15
          obtain ⟨v16, h16, r16⟩ := hall 16 (by decide)
          obtain rfl : v16 = .int .i64 (n : Int) := r16
          obtain ⟨v17, h17, r17⟩ := hall 17 (by decide)
          obtain rfl : v17 = .bool true := r17
          obtain ⟨v18, h18, r18⟩ := hall 18 (by decide)
          obtain rfl : v18 = .bool true := r18
          obtain ⟨v19, h19, r19⟩ := hall 19 (by decide)
          obtain rfl : v19 = .bool true := r19
          obtain ⟨v20, h20, r20⟩ := hall 20 (by decide)
          obtain rfl : v20 = .agg #[.int .i64 tp, .int .i64 ta, .slice ka kn kc] := r20
          obtain ⟨v21, h21, r21⟩ := hall 21 (by decide)
          obtain ⟨v22, h22, r22⟩ := hall 22 (by decide)
          obtain rfl : v22 = .agg #[.int .i64 G.terms, .slice sa G.syms.length sc, .slice (some ⟨pb, po, none⟩) G.prods.length pc] := r22
          obtain ⟨v23, h23, r23⟩ := hall 23 (by decide)
          obtain rfl : v23 = .agg #[.slice tpa an tpc, .slice tga gn tgc] := r23
          obtain ⟨v24, h24, r24⟩ := hall 24 (by decide)
          obtain rfl : v24 = .slice na n nc := r24
          obtain ⟨v25, h25, r25⟩ := hall 25 (by decide)
          obtain ⟨v26, h26, r26⟩ := hall 26 (by decide)
          obtain rfl : v26 = .bool true := r26
          obtain ⟨v27, h27, r27⟩ := hall 27 (by decide)
          obtain rfl : v27 = .bool true := r27
          obtain ⟨v28, h28, r28⟩ := hall 28 (by decide)
          obtain rfl : v28 = .bool true := r28
          simp only [dstL, fillL, List.map_cons, List.map_nil, Nat.zero_add, Nat.reduceAdd, h0, h1, h2, h3, h4, h5, h6, h7, h8, h9, h10, h11, h12, h13, h14, h15, h16, h17, h18, h19, h20, h21, h22, h23, h24, h25, h26, h27, h28, Act.put, List.setIfInBounds_toArray, List.set_cons_zero, List.set_cons_succ]
          go_wp2
          go_ret
          exact ⟨rfl, HB9.out.trans (((Fr.drew (ch := nothing) w8).trans hf).below_new.mono HB9.out.size)⟩
      · have htn : (⟨tp, ta, tk⟩ : Tr) = noTr := by have h := HTO.out.2; unfold treeOf at h; rw [if_neg herr] at h; exact h.symm
        have e1 : tp = 0 := congrArg Tr.p htn
        have e2 : tk = .nil := congrArg Tr.kids htn
        have e3 : kn = 0 := by rw [← HKN.out, e2]; rfl
        obtain ⟨p, hp⟩ : ∃ p, st.pos = p := ⟨_, rfl⟩
        rw [hp] at hpos ⊢
        rw [e1] at x0
        rw [e3] at x2
        have be : (err == 0) = false := beq_eq_false_iff_ne.2 herr
        have be2 : (err != 0) = true := bne_iff_ne.2 herr
        have dn : decide ((p : Int) < 0) = false := decide_eq_false (by omega)
        have dn2 : decide ((n : Int) < (p : Int)) = false := decide_eq_false (by omega)
        have dn3 : decide (n < p) = false := decide_eq_false (by omega)
        clear htn e1 e2 e3 hp HTO
        go_wp2
        go_ret
        exact ⟨rfl, HB8.out.1⟩
end Go.Proofs.Ytpnihegmhalcfaa
