/-
  ItemsClosed: the walk.
-/
import Derived.Test.YtgmkpncpcikecaaItY
namespace Go.Proofs.Ytgmkpncpcikecaa
open Go.RowKit Go.MapKept Go.ChangeMaps
set_option maxHeartbeats 400000

theorem closE_bad {G : Gram} {K : List It} {x : It} (hx : x ∈ K) (h : ¬ InI G x) : closE G K = [] := by
  unfold closE
  rw [if_neg]
  unfold okI
  rw [Bool.and_eq_true, List.all_eq_true]
  exact fun ⟨_, h2⟩ => h (of_decide_eq_true (h2 x hx))
theorem closE_good {G : Gram} {K : List It} (hr : rightG G = true) (h : ∀ x ∈ K, InI G x) : closE G K = cloL G K := by
  unfold closE okI
  rw [if_pos]
  rw [hr, Bool.true_and, List.all_eq_true]
  exact fun x hx => decide_eq_true (h x hx)
/-- What a production at a place of a grammar in memory reads as. -/
theorem prd_at {w : World} {pa : Option Addr} {n c : Nat} {l : List Prd} (h : IsPrds w (.slice pa n c) l) {k : Nat} (hk : k < l.length) :
    ∃ b o ra rc, pa = some ⟨b, o, none⟩ ∧ w.cell? ⟨b, o + k * 6, none⟩ = some (.int .i64 l[k].left) ∧ w.cell? ⟨b, o + k * 6 + 1, none⟩ = some (.slice ra l[k].right.length rc) ∧ Ints w (.slice ra l[k].right.length rc) l[k].right := by
  obtain ⟨pg, po, ra, rc, rfl, hprd, hcs⟩ := h.get k hk
  have c0 := hcs 0 (by simp [prdCells])
  have c1 := hcs 1 (by simp [prdCells])
  simp only [prdCells, List.getElem_cons_zero, List.getElem_cons_succ, Nat.add_zero] at c0 c1
  obtain ⟨_, r, hr, e⟩ := hprd
  have e' : Value.slice ra l[k].right.length rc = r := by simpa [prdVal] using e
  subst e'
  exact ⟨pg, po, ra, rc, rfl, c0, c1, hr⟩
set_option maxRecDepth 100000 in
set_option maxHeartbeats 8000000 in
theorem closed_any (G : Gram) (v kv : Value) (K : List It) (w : World) (h : IsGram w v G) (hf : Fits G) (hk : IsItems w kv K) :
    Calls Try.prog 5 #[v, kv] w fun e w' => e = .returned (.bool true) ∧ Below w.heap.size w w' := by
  have hG := h
  obtain ⟨hterms, vs, vp, rfl, hs, hp⟩ := h
  obtain ⟨-, sa, sc, rfl, -, -, -⟩ := id hs
  obtain ⟨-, pa, pc, rfl, -, -, -⟩ := id hp
  obtain ⟨ka, kc, rfl, -, -, hkl⟩ := id hk.parts
  have hS0 : Stands w.heap.size w G sa pa sc pc (w.alloc (grO G sa pa sc pc)) := ⟨alloc_obj _ _, hG.fr (Fr.alloc _ _), (Below.refl _ w).alloc (Nat.le_refl _) _⟩
  have HS0 := Lib.hid hS0
  have HA := Lib.hid (awake19_any (w.alloc (grO G sa pa sc pc)))
  have HF := Lib.hid hf
  have HK := Lib.hid hk
  unfold grO at HA
  clear hS0 hs hp hG hf hk
  obtain ⟨nK, hnK⟩ : ∃ n, K.length = n := ⟨_, rfl⟩
  rw [hnK] at hkl HK ⊢
  have HNK := Lib.hid hnK
  clear hnK
  go_enter Try.func5, Try.ntmps5
  go_upto_region 3 with (go_at_call 10; refine HA.out.mono ?_; rintro e w1 ⟨rfl, hb1⟩)
  have hS1 := HS0.out.keep hb1
  clear hb1 HA HS0
  have HGO := Lib.hid (grammarOf_any G 90 _ w1 hS1.gram HF.out (by omega))
  unfold grV at HGO
  have d0 := hS1.d0
  have d1 := hS1.d1
  have d2 := hS1.d2
  have HS1 := Lib.hid hS1
  clear hS1
  by_cases hP : partsG G 90 ≤ 90
  case neg =>
    have hP' : decide (partsG G 90 > 90) = true := decide_eq_true (by omega)
    as_aux_lemma =>
      go_wp2_with (go_at_call 11; refine HGO.out.mono ?_; rintro e w2 ⟨rfl, hb2⟩)
      go_ret
      exact ⟨rfl, (HS1.out.keep hb2).below⟩
  case pos =>
    have hlen := partsG_len hP
    have hP' : decide (partsG G 90 > 90) = false := decide_eq_false (by omega)
    by_cases hK2 : 200 < nK
    · have hK2' : decide (200 < nK) = true := decide_eq_true hK2
      as_aux_lemma =>
        go_wp2_with (go_at_call 11; refine HGO.out.mono ?_; rintro e w2 ⟨rfl, hb2⟩)
        go_ret
        exact ⟨rfl, (HS1.out.keep hb2).below⟩
    have hK2' : decide (200 < nK) = false := decide_eq_false hK2
    go_upto_region 5 with (go_at_call 11; refine HGO.out.mono ?_; rintro e w2 ⟨rfl, hb2⟩)
    have hS2 := HS1.out.keep hb2
    clear d0 d1 d2 HGO hP hb2 HS1 hP'
    have d0 := hS2.d0
    have d1 := hS2.d1
    have d2 := hS2.d2
    have HCL := Lib.hid (closureF_any G (grV G sa pa sc pc) (.slice ka nK kc) K w2 hS2.gram (HK.out.fr (Fr.new hS2.below)) (by omega) (by rw [HNK.out]; omega))
    have HS2 := Lib.hid hS2
    clear hS2
    have HR := Lib.hid fun W (k : Below w2.heap.size w2 W) => right_gram G _ W (HS2.out.keep k).gram
    unfold grV at HR HCL
    go_upto_region 6 with (go_at_call 15; refine HCL.out.mono ?_; rintro e w3 ⟨u, rfl, hu, hb3⟩)
    have HR3 := Lib.hid (HR.out _ hb3)
    have hS3 := HS2.out.keep hb3
    clear d0 d1 d2 HR HCL
    have d0 := hS3.d0
    have d1 := hS3.d1
    have d2 := hS3.d2
    obtain ⟨ua, uc, rfl, -, -, -⟩ := own_as_cells2 hu
    have HS3 := Lib.hid (And.intro hS3 hu)
    clear hS3 hu hb3
    cases hr : rightG G with
    | false =>
      rw [hr] at HR3
      have hz : closE G K = [] := by unfold closE okI; rw [hr]; rfl
      rw [hz]
      simp only [List.length_nil]
      clear hr hz
      as_aux_lemma =>
        go_wp2_with (go_at_call 12; refine HR3.out.mono ?_; rintro e w4 ⟨rfl, hb4⟩)
        go_ret
        exact ⟨rfl, (HS3.out.1.keep hb4).below⟩
    | true =>
      rw [hr] at HR3
      have HRR := Lib.hid hr
      clear hr
      generalize hlL : (closE G K).length = nL at *
      have HLL := Lib.hid hlL
      clear hlL
      go_upto_region 8 with (go_at_call 12; refine HR3.out.mono ?_; rintro e w4 ⟨rfl, hb4⟩)
      have hS4 := HS3.out.1.keep hb4
      have hu4 := own_fr HS3.out.2 (Fr.new hb4) fun _ _ => id
      have HS4 := Lib.hid (And.intro hS4 hu4)
      clear hS4 hu4 hb4 d0 d1 d2 HR3 HS3
      go_wp2
      go_loopw [6] (fun i wr => ∃ k : Nat, k ≤ nK ∧ i = .int .i64 k ∧ (∀ x ∈ K.take k, InI G x) ∧ Below w4.heap.size w4 wr) (fun i _ => nK - (intOf i).toNat)
      case atStart => exact ⟨0, Nat.zero_le _, rfl, by simp, Below.refl _ _⟩
      case round =>
        obtain ⟨k, hk, rfl, hall, hbr⟩ := hrel
        have hS := HS4.out.1.keep hbr
        have d2 := hS.d2
        by_cases hlt : k < nK
        · have hkk : k < K.length := by rw [HNK.out]; exact hlt
          obtain ⟨kb, ko, rfl, c0, c1, ⟨i0, i1⟩, ⟨i2, i3⟩⟩ := (HK.out.fr (Fr.new hS.below)).at hkk
          have hbad : ¬ InI G K[k] → nL = 0 := fun hn => by rw [← HLL.out, closE_bad (List.getElem_mem hkk) hn]; rfl
          have hgood : InI G K[k] → ∀ x ∈ K.take (k + 1), InI G x := fun hi x hx => by
            rcases (take_more hkk x).1 hx with rfl | hx
            · exact hi
            · exact hall x hx
          have HBR := Lib.hid hbr
          have HH := Lib.hid (And.intro hbad hgood)
          have hS' := hS
          clear hbad hgood hall hbr
          generalize K[k] = x at *
          obtain ⟨p, dt⟩ := x
          simp only at c0 c1 i0 i1 i2 i3
          have ht : decide ((k : Int) < (nK : Int)) = true := decide_eq_true (by omega)
          by_cases t1 : p < 0
          · have hz := HH.out.1 fun hi => by have := hi.1; simp only at this; omega
            have t1' : decide (p < 0) = true := decide_eq_true t1
            subst hz
            as_aux_lemma =>
              go_upto_region 11 with fail
              go_quiet (fail)
              go_wp2
              go_ret
              exact ⟨rfl, hS.below.trans (below_drewN (Below.refl _ _) _)⟩
          have t1' : decide (p < 0) = false := decide_eq_false t1
          obtain ⟨pn, rfl⟩ : ∃ n : Nat, p = (n : Int) := ⟨p.toNat, by omega⟩
          by_cases t2 : G.prods.length ≤ pn
          · have hz := HH.out.1 fun hi => by have := hi.2.1; simp only at this; omega
            subst hz
            clear hS' t1
            generalize G.prods.length = m at *
            have t2' : decide (m ≤ pn) = true := decide_eq_true t2
            as_aux_lemma =>
              go_upto_region 11 with fail
              go_quiet (fail)
              go_wp2
              go_ret
              exact ⟨rfl, hS.below.trans (below_drewN (Below.refl _ _) _)⟩
          have t2' : decide (G.prods.length ≤ pn) = false := decide_eq_false t2
          have hpn : pn < G.prods.length := by omega
          obtain ⟨_, vs', vp', he, _, hPr⟩ := id hS'.gram
          unfold grV at he
          simp only [Value.agg.injEq, Array.mk.injEq, List.cons.injEq, true_and, and_true] at he
          obtain ⟨rfl, rfl⟩ := he
          obtain ⟨pb, po, ra, rc, rfl, -, q1, hr1⟩ := prd_at hPr hpn
          have hrl := hr1.2.1
          have hrr := rightOf_at G hpn
          have hin : ∀ b, (0 ≤ dt ∧ dt ≤ (G.prods[pn].right.length : Int)) = b → (InI G ((pn : Int), dt) ↔ b) := fun b hb => by
            subst hb
            unfold InI
            simp only [hrr]
            constructor
            · rintro ⟨_, _, h3, h4⟩; exact ⟨h3, h4⟩
            · rintro ⟨h3, h4⟩; exact ⟨by omega, by omega, h3, h4⟩
          have hin := hin _ rfl
          have HIN := Lib.hid hin
          clear hin hrr hPr hr1 hS' t1
          generalize G.prods[pn].right.length = rl at *
          have HPN := Lib.hid hpn
          have hpl : G.prods.length ≤ 1000 := by omega
          clear hpn t2
          generalize G.prods.length = m at *
          have hpm := HPN.out
          by_cases t3 : dt < 0
          · have hz := HH.out.1 fun hi => by have := HIN.out.1 hi; omega
            have t3' : decide (dt < 0) = true := decide_eq_true t3
            subst hz
            as_aux_lemma =>
              go_upto_region 11 with fail
              go_quiet (fail)
              go_wp2
              go_ret
              exact ⟨rfl, hS.below.trans (below_drewN (Below.refl _ _) _)⟩
          have t3' : decide (dt < 0) = false := decide_eq_false t3
          by_cases t4 : (rl : Int) < dt
          · have hz := HH.out.1 fun hi => by have := HIN.out.1 hi; omega
            have t4' : decide ((rl : Int) < dt) = true := decide_eq_true t4
            subst hz
            clear t3 t4
            as_aux_lemma =>
              go_upto_region 11 with fail
              go_quiet (fail)
              go_wp2
              go_ret
              exact ⟨rfl, hS.below.trans (below_drewN (Below.refl _ _) _)⟩
          · have hgo := HH.out.2 (HIN.out.2 ⟨by omega, by omega⟩)
            have t4' : decide ((rl : Int) < dt) = false := decide_eq_false t4
            have HGO := Lib.hid hgo
            clear hgo t3 t4
            as_aux_lemma =>
              go_upto_region 11 with fail
              go_quiet (fail)
              go_wp2
              go_roundw
              case rel => exact ⟨k + 1, by omega, by simp, HGO.out, below_drewN HBR.out _⟩
              case measure => simp [intOf]; omega
        · obtain rfl : k = nK := by omega
          have hall' : ∀ x ∈ K, InI G x := fun x hx => hall x (by rw [List.take_of_length_le (Nat.le_of_eq HNK.out)]; exact hx)
          have hcE : closE G K = cloL G K := closE_good HRR.out hall'
          have hcl := cloL_len G K
          rw [HNK.out] at hcl
          have hLi : ∀ x ∈ cloL G K, InI G x := fun x hx => inClo_in hall' (cloL_mem.1 hx)
          have hL6 : ∀ x ∈ cloL G K, i64 x.1 ∧ i64 x.2 := fun x hx => smallI_i64 (inI_small HRR.out (hLi x hx))
          have hK6 : ∀ x ∈ K, i64 x.1 ∧ i64 x.2 := fun x hx => smallI_i64 (inI_small HRR.out (hall' x hx))
          have hLl : (cloL G K).length = nL := by rw [← HLL.out, hcE]
          have hIL : IsItems wr (.slice ua nL uc) (cloL G K) := by
            have := own_fr HS4.out.2 (Fr.new hbr) fun _ _ => id
            rw [hcE] at this
            exact OwnI.items this hL6 (by omega)
          have hnL : nL ≤ 1000 := by omega
          have HW := Lib.hid (And.intro hS (And.intro hIL (HK.out.fr (Fr.new hS.below))))
          have HL := Lib.hid (And.intro hLl (And.intro hLi (And.intro hL6 hK6)))
          clear hall hall' hcE hcl hLi hL6 hK6 hLl hIL hlt hbr hS d2 HS4 HK
          generalize wr = W0 at *
          have hmm := @run_makeMap Try.prog
          go_upto_region 14 with fail
          refine wp_at (F := fun W => ItSet W W0.heap.size [] ∧ Below W0.heap.size W0 W) ⟨itSet_new _, (Below.refl _ _).alloc (Nat.le_refl _) _⟩ ?_
          intro W1 ⟨hset1, hb1⟩
          have H1 := Lib.hid (And.intro hset1 hb1)
          clear hset1 hb1
          generalize hbm : W0.heap.size = bm at *
          have HBM := Lib.hid hbm
          clear hbm
          go_wp2
          go_loopw [8] (fun i wq => ∃ (j : Nat) (S : List It), j ≤ nL ∧ i = .int .i64 j ∧ ItSet wq bm S ∧ (∀ y, y ∈ S ↔ y ∈ (cloL G K).take j) ∧ Below bm W0 wq) (fun i _ => nL - (intOf i).toNat)
          case atStart => exact ⟨0, [], Nat.zero_le _, rfl, H1.out.1, by simp, H1.out.2⟩
          case round =>
            obtain ⟨j, S, hj, rfl, hset, hmem, hbq⟩ := hrel
            by_cases hlj : j < nL
            · have hjj : j < (cloL G K).length := by rw [HL.out.1]; exact hlj
              have hx6 := HL.out.2.2.1 _ (List.getElem_mem hjj)
              have hnew : ¬ (cloL G K)[j] ∈ S := fun hx => ris_new (cloL_ris G K) hjj ((hmem _).1 hx)
              have HBQ := Lib.hid (show Below W0.heap.size W0 wr from by rw [HBM.out]; exact hbq)
              obtain ⟨lb, lo, rfl, c0, c1, -, -⟩ := (HW.out.2.1.fr (Fr.new HBQ.out)).at hjj
              have hlk : ∀ n, (Instr.lookup 49 (.map (some bm)) (itVal (cloL G K)[j]) false).run Try.prog (wr.drewN n) = .ok (.bool false) (wr.drewN n) := fun n => by
                have := (hset.fr (ch := nothing) (Fr.drewN wr n) id).look _ hx6.1 hx6.2
                rwa [decide_eq_false hnew] at this
              have hprev : ∀ i, (h : i < j) → ltI ((cloL G K)[i]'(by omega)) (cloL G K)[j] := fun i h => ris_lt (cloL_ris G K) h hjj
              have hmem' := take_more hjj
              have HS := Lib.hid (And.intro hset (And.intro hmem (And.intro hmem' hx6)))
              have hprc : ∀ i, (h : i < j) → wr.cell? ⟨lb, lo + i * 2, none⟩ = some (.int .i64 ((cloL G K)[i]'(by omega)).1) ∧ wr.cell? ⟨lb, lo + i * 2 + 1, none⟩ = some (.int .i64 ((cloL G K)[i]'(by omega)).2) := fun i h => by
                obtain ⟨lb', lo', e, q0, q1, -, -⟩ := (HW.out.2.1.fr (Fr.new HBQ.out)).at (k := i) (by omega)
                simp only [Option.some.injEq, Addr.mk.injEq, and_true] at e
                obtain ⟨rfl, rfl⟩ := e
                exact ⟨q0, q1⟩
              have HCC := Lib.hid fun W (kb : Below wr.heap.size wr W) => And.intro ((Fr.new kb).cell c0 id) ((Fr.new kb).cell c1 id)
              clear hset hmem hmem' hx6 hnew hbq
              have ht : decide ((j : Int) < (nL : Int)) = true := decide_eq_true (by omega)
              generalize hx : (cloL G K)[j] = x at *
              clear hx
              obtain ⟨xa, xb⟩ := x
              unfold itVal at hlk
              simp only at c0 c1 hlk
              rcases j with _ | j
              · clear hprev hprc hjj
                simp only [Nat.zero_mul, Nat.add_zero] at c0 c1
                as_aux_lemma =>
                  go_upto_region 17 with fail
                  go_quiet (fail)
                  go_upto_region 19 with fail
                  refine wp_at (F := fun W => ItSet W bm S ∧ Below wr.heap.size wr W) ⟨HS.out.1.fr (ch := nothing) (Fr.drewN _ _) id, below_drewN (Below.refl _ _) _⟩ ?_
                  intro W2 ⟨hs2, hb2⟩
                  obtain ⟨q0, q1⟩ := HCC.out W2 hb2
                  simp only [Nat.zero_mul, Nat.add_zero] at q0 q1
                  obtain ⟨w7, S7, hrun, hset7, hmem7, hF7⟩ := hs2.store (xa, xb) HS.out.2.2.2.1 HS.out.2.2.2.2
                  unfold itVal at hrun
                  have hbq2 : Below bm W0 w7 := by
                    have h1 := HBQ.out.trans (hb2.mono HBQ.out.size)
                    have h2 := h1.trans (hF7.below h1.size fun g (e : g = bm) => by rw [HBM.out]; omega)
                    rwa [HBM.out] at h2
                  have HS7 := Lib.hid (And.intro hset7 (And.intro hmem7 hbq2))
                  clear hset7 hmem7 hbq2 hF7 hs2 hb2 c0 c1 hlk
                  go_wp2
                  go_roundw
                  case rel => exact ⟨0 + 1, S7, by omega, by simp, HS7.out.1, fun y => by rw [HS7.out.2.1, HS.out.2.1, HS.out.2.2.1], HS7.out.2.2⟩
                  case measure => simp [intOf]; omega
              · have hlt' := hprev j (by omega)
                obtain ⟨p0, p1⟩ := hprc j (by omega)
                generalize (cloL G K)[j]'(by omega) = z at *
                obtain ⟨za, zb⟩ := z
                simp only at p0 p1
                have i1 : (0 : Int) ≤ (j : Int) + 1 := by omega
                have i3 : ((j : Int) + 1).toNat = j + 1 := by omega
                have i4 : IntKind.i64.wrap ((j : Int) + 1 - 1) = j := by rw [show (j : Int) + 1 - 1 = j by omega]; exact IntWalk.i64_in _ (by omega)
                have i5 : IntKind.i64.wrap (j : Int) = j := IntWalk.i64_in _ (by omega)
                have i6 : (j : Int) < (nL : Int) := by omega
                have i7 : (0 : Int) ≤ (j : Int) := by omega
                have i8 : ((j : Int)).toNat = j := by omega
                have t0 : decide (xa < za) = false := decide_eq_false (by unfold ltI at hlt'; simp only at hlt'; omega)
                clear hprev hprc hjj
                by_cases hz : za = xa
                · have t1 : (za == xa) = true := by simp [hz]
                  have t2 : decide (xb ≤ zb) = false := decide_eq_false (by unfold ltI at hlt'; simp only at hlt'; omega)
                  clear hlt' hz
                  as_aux_lemma =>
                    go_upto_region 17 with fail
                    go_quiet (fail)
                    go_upto_region 19 with fail
                    refine wp_at (F := fun W => ItSet W bm S ∧ Below wr.heap.size wr W) ⟨HS.out.1.fr (ch := nothing) (Fr.drewN _ _) id, below_drewN (Below.refl _ _) _⟩ ?_
                    intro W2 ⟨hs2, hb2⟩
                    obtain ⟨q0, q1⟩ := HCC.out W2 hb2
                    simp only at q0 q1
                    obtain ⟨w7, S7, hrun, hset7, hmem7, hF7⟩ := hs2.store (xa, xb) HS.out.2.2.2.1 HS.out.2.2.2.2
                    unfold itVal at hrun
                    have hbq2 : Below bm W0 w7 := by
                      have h1 := HBQ.out.trans (hb2.mono HBQ.out.size)
                      have h2 := h1.trans (hF7.below h1.size fun g (e : g = bm) => by rw [HBM.out]; omega)
                      rwa [HBM.out] at h2
                    have HS7 := Lib.hid (And.intro hset7 (And.intro hmem7 hbq2))
                    clear hset7 hmem7 hbq2 hF7 hs2 hb2 c0 c1 hlk
                    go_wp2
                    go_roundw
                    case rel => exact ⟨j + 1 + 1, S7, by omega, by simp, HS7.out.1, fun y => by rw [HS7.out.2.1, HS.out.2.1, HS.out.2.2.1], HS7.out.2.2⟩
                    case measure => simp [intOf]; omega
                · have t1 : (za == xa) = false := by simp [hz]
                  clear hlt' hz
                  as_aux_lemma =>
                    go_upto_region 17 with fail
                    go_quiet (fail)
                    go_upto_region 19 with fail
                    refine wp_at (F := fun W => ItSet W bm S ∧ Below wr.heap.size wr W) ⟨HS.out.1.fr (ch := nothing) (Fr.drewN _ _) id, below_drewN (Below.refl _ _) _⟩ ?_
                    intro W2 ⟨hs2, hb2⟩
                    obtain ⟨q0, q1⟩ := HCC.out W2 hb2
                    simp only at q0 q1
                    obtain ⟨w7, S7, hrun, hset7, hmem7, hF7⟩ := hs2.store (xa, xb) HS.out.2.2.2.1 HS.out.2.2.2.2
                    unfold itVal at hrun
                    have hbq2 : Below bm W0 w7 := by
                      have h1 := HBQ.out.trans (hb2.mono HBQ.out.size)
                      have h2 := h1.trans (hF7.below h1.size fun g (e : g = bm) => by rw [HBM.out]; omega)
                      rwa [HBM.out] at h2
                    have HS7 := Lib.hid (And.intro hset7 (And.intro hmem7 hbq2))
                    clear hset7 hmem7 hbq2 hF7 hs2 hb2 c0 c1 hlk
                    go_wp2
                    go_roundw
                    case rel => exact ⟨j + 1 + 1, S7, by omega, by simp, HS7.out.1, fun y => by rw [HS7.out.2.1, HS.out.2.1, HS.out.2.2.1], HS7.out.2.2⟩
                    case measure => simp [intOf]; omega
            · obtain rfl : nL = j := by omega
              have hSL : ∀ y, y ∈ S ↔ y ∈ cloL G K := fun y => by rw [hmem, List.take_of_length_le (Nat.le_of_eq HL.out.1)]
              have HSL := Lib.hid (And.intro hset (And.intro hSL hbq))
              have hlt0 := hset.lt
              clear hset hSL hbq hmem hlj hj H1
              generalize wr = WL at *
              go_wp2_with fail
              refine wp_at (F := fun W => ItSet W WL.heap.size [] ∧ ItSet W bm S ∧ Below bm W0 W) ⟨itSet_new _, HSL.out.1.fr (ch := nothing) (Fr.alloc _ _) id, HSL.out.2.2.alloc (Nat.le_of_lt hlt0) _⟩ ?_
              intro W1 ⟨hset1, hsb1, hb1⟩
              have H1 := Lib.hid (And.intro hset1 (And.intro hsb1 hb1))
              clear hset1 hsb1 hb1
              generalize WL.heap.size = bs at *
              go_wp2
              go_loopw [10] (fun i wq => ∃ (k' : Nat) (S' : List It), k' ≤ k ∧ i = .int .i64 k' ∧ ItSet wq bs S' ∧ (∀ y, y ∈ S' ↔ y ∈ K.take k') ∧ ItSet wq bm S ∧ Below bm W0 wq) (fun i _ => k - (intOf i).toNat)
              case atStart => exact ⟨0, [], Nat.zero_le _, rfl, H1.out.1, by simp, H1.out.2.1, H1.out.2.2⟩
              case round =>
                obtain ⟨k', S', hk', rfl, hset, hmem, hsb, hbq⟩ := hrel
                have HBQ := Lib.hid (show Below W0.heap.size W0 wr from by rw [HBM.out]; exact hbq)
                by_cases hlk' : k' < k
                · have hkk : k' < K.length := by rw [HNK.out]; exact hlk'
                  have hx6 := HL.out.2.2.2 _ (List.getElem_mem hkk)
                  have hinL : K[k'] ∈ S := (HSL.out.2.1 _).2 (cloL_ker (List.getElem_mem hkk))
                  obtain ⟨kb, ko, rfl, c0, c1, -, -⟩ := (HW.out.2.2.fr (Fr.new HBQ.out)).at hkk
                  have hmem' := take_more hkk
                  obtain ⟨w7, S7, hrun, hset7, hmem7, hF7⟩ := hset.store K[k'] hx6.1 hx6.2
                  have hne : bm ≠ bs := fun e => by have := hset.lt; omega
                  have hsb7 := hsb.fr hF7 fun (e : bm = bs) => hne e
                  have hlk7 := hsb7.look K[k'] hx6.1 hx6.2
                  rw [decide_eq_true hinL] at hlk7
                  have hb7 : Below W0.heap.size W0 w7 := HBQ.out.trans (hF7.below HBQ.out.size fun g (e : g = bs) => by rw [HBM.out]; omega)
                  obtain ⟨kb', ko', e, q0, q1, -, -⟩ := (HW.out.2.2.fr (Fr.new hb7)).at hkk
                  simp only [Option.some.injEq, Addr.mk.injEq, and_true] at e
                  obtain ⟨rfl, rfl⟩ := e
                  have HS7 := Lib.hid (show ItSet w7 bs S7 ∧ (∀ y, y ∈ S7 ↔ y ∈ K.take (k' + 1)) ∧ ItSet w7 bm S ∧ Below bm W0 w7 from ⟨hset7, fun y => by rw [hmem7, hmem, hmem'], hsb7, by rw [HBM.out] at hb7; exact hb7⟩)
                  have ht : decide ((k' : Int) < (k : Int)) = true := decide_eq_true (by omega)
                  clear hset hmem hsb hbq hmem' hset7 hmem7 hF7 hsb7 hb7 hinL hx6 hne HBQ
                  generalize K[k'] = x at *
                  clear hkk
                  obtain ⟨xa, xb⟩ := x
                  unfold itVal at hrun hlk7
                  simp only at c0 c1 q0 q1 hrun hlk7
                  as_aux_lemma =>
                    go_wp2
                    go_roundw
                    case rel => exact ⟨k' + 1, S7, by omega, by simp, HS7.out.1, HS7.out.2.1, HS7.out.2.2.1, HS7.out.2.2.2⟩
                    case measure => simp [intOf]; omega
                · obtain rfl : k' = k := by omega
                  have hS0 : ∀ y, y ∈ S' ↔ AskTo G K (cloL G K) 0 y := fun y => by
                    rw [hmem, List.take_of_length_le (Nat.le_of_eq HNK.out)]
                    exact ⟨.inl, fun h => h.elim id fun ⟨x, hx, _⟩ => by simp at hx⟩
                  have HS := Lib.hid (And.intro hset (And.intro hS0 (And.intro hsb hbq)))
                  have hlt1 := hset.lt
                  clear hset hS0 hsb hbq hmem H1 hlk' hk' HBQ
                  go_wp2
                  go_loopw [11, 12, 13] (fun i _ _ wq => ∃ (j : Nat) (S' : List It), j ≤ nL ∧ i = .int .i64 j ∧ ItSet wq bs S' ∧ (∀ y, y ∈ S' ↔ AskTo G K (cloL G K) j y) ∧ ItSet wq bm S ∧ Below bm W0 wq) (fun i _ _ _ => nL - (intOf i).toNat)
                  case atStart => exact ⟨0, S', Nat.zero_le _, rfl, HS.out⟩
                  case round =>
                    obtain ⟨j, S2, hj, rfl, hset, hmem, hsb, hbq⟩ := hrel
                    have hS := HW.out.1.keep (show Below W0.heap.size W0 wr from by rw [HBM.out]; exact hbq)
                    have d2 := hS.d2
                    by_cases hlj : j < nL
                    · have hjj : j < (cloL G K).length := by rw [HL.out.1]; exact hlj
                      have hx6 := HL.out.2.2.1 _ (List.getElem_mem hjj)
                      have hxi := HL.out.2.1 _ (List.getElem_mem hjj)
                      have hstep := fun y => cloL_step (y := y) (List.getElem_mem hjj)
                      have HBQ := Lib.hid (show Below W0.heap.size W0 wr from by rw [HBM.out]; exact hbq)
                      obtain ⟨lb, lo, rfl, c0, c1, -, -⟩ := (HW.out.2.1.fr (Fr.new HBQ.out)).at hjj
                      have HLC := Lib.hid fun W (kb : Below W0.heap.size W0 W) => (show W.cell? ⟨lb, lo + j * 2 + 1, none⟩ = some (.int .i64 (cloL G K)[j].2) from by
                        obtain ⟨lb', lo', e, q0, q1, -, -⟩ := (HW.out.2.1.fr (Fr.new kb)).at hjj
                        simp only [Option.some.injEq, Addr.mk.injEq, and_true] at e
                        obtain ⟨rfl, rfl⟩ := e
                        exact q1)
                      have hask := askTo_next (G := G) (K := K) hjj
                      have HM := Lib.hid (And.intro hset (And.intro hmem (And.intro hsb (And.intro hask hstep))))
                      clear hset hmem hsb hask hstep hbq
                      generalize (cloL G K)[j] = x at *
                      clear hjj
                      obtain ⟨p, dt⟩ := x
                      have hxi' := hxi
                      obtain ⟨p0, p1, e0, e1⟩ := hxi
                      simp only at p0 p1 e0 e1 c0 c1
                      obtain ⟨pn, rfl⟩ : ∃ n : Nat, p = (n : Int) := ⟨p.toNat, by omega⟩
                      obtain ⟨dn, rfl⟩ : ∃ n : Nat, dt = (n : Int) := ⟨dt.toNat, by omega⟩
                      have hpn : pn < G.prods.length := by omega
                      obtain ⟨_, vs', vp', he, _, hPr⟩ := id HW.out.1.gram
                      unfold grV at he
                      simp only [Value.agg.injEq, Array.mk.injEq, List.cons.injEq, true_and, and_true] at he
                      obtain ⟨rfl, rfl⟩ := he
                      obtain ⟨pb, po, ra, rc, rfl, -, q1, hr1⟩ := prd_at hPr hpn
                      have q1 := (Fr.new HBQ.out).cell q1 id
                      have HPR := Lib.hid fun q P (hq : G.prods[q]? = some P) W (kb : Below W0.heap.size W0 W) => (show W.cell? ⟨pb, po + q * 6, none⟩ = some (.int .i64 P.left) from by
                        obtain ⟨hq1, rfl⟩ := List.getElem?_eq_some_iff.1 hq
                        obtain ⟨pb', po', _, _, e, z0, _, _⟩ := prd_at hPr hq1
                        simp only [Option.some.injEq, Addr.mk.injEq, and_true] at e
                        obtain ⟨rfl, rfl⟩ := e
                        exact (Fr.new kb).cell z0 id)
                      have hrl := hr1.2.1
                      have hrr := rightOf_at G hpn
                      rw [hrr] at e1
                      have hbe : behI G ((pn : Int), (dn : Int)) = G.prods[pn].right[dn]? := by
                        unfold behI
                        simp only [Int.toNat_natCast, hrr]
                      have HR1 := Lib.hid (And.intro hr1 (And.intro hbe hxi'))
                      have hPL : G.prods.length ≤ 1000 := by omega
                      clear hrr hPr hr1 hS hbe hxi' hx6
                      generalize hre : G.prods[pn].right = rt at *
                      clear hre
                      generalize hrle : rt.length = rl at *
                      have HRL := Lib.hid hrle
                      clear hrle
                      have HPN := Lib.hid hpn
                      clear hpn p0 p1 e0
                      generalize hme : G.prods.length = m at *
                      have HME := Lib.hid hme
                      clear hme
                      have hpm := HPN.out
                      have hdm : dn ≤ rl := by omega
                      have t2' : decide (m ≤ pn) = false := decide_eq_false (by omega)
                      have t4' : decide (rl < dn) = false := decide_eq_false (by omega)
                      have ht : decide ((j : Int) < (nL : Int)) = true := decide_eq_true (by omega)
                      clear e1
                      go_upto_region 30 with fail
                      go_quiet (fail)
                      go_upto_region 32 with fail
                      go_quiet (fail)
                      go_upto_region 33 with fail
                      refine wp_at (F := fun W => ItSet W bs S2 ∧ ItSet W bm S ∧ Below W0.heap.size W0 W) ⟨?_, ?_, ?_⟩ ?_
                      · exact HM.out.1.fr (ch := nothing) ((Fr.drewN _ _).trans (Fr.drewN _ _)) id
                      · exact HM.out.2.2.1.fr (ch := nothing) ((Fr.drewN _ _).trans (Fr.drewN _ _)) id
                      · exact below_drewN (below_drewN HBQ.out _) _
                      intro WC ⟨hsC, hmC, hbC⟩
                      have HC := Lib.hid (And.intro hsC (And.intro hmC hbC))
                      clear hsC hmC hbC c0 c1 q1 d2 t2' t4' hpm
                      go_wp2
                      go_loopw [13] (fun i wq => ∃ (q : Nat) (S' : List It), q ≤ m ∧ i = .int .i64 q ∧ ItSet wq bs S' ∧ (∀ y, y ∈ S' ↔ AskTo G K (cloL G K) j y ∨ StepTo G ((pn : Int), (dn : Int)) q y) ∧ ItSet wq bm S ∧ Below W0.heap.size W0 wq) (fun i _ => m - (intOf i).toNat)
                      case atStart => exact ⟨0, S2, Nat.zero_le _, rfl, HC.out.1, fun y => by rw [HM.out.2.1]; exact ⟨.inl, fun h => h.elim id fun h => absurd h stepTo_zero⟩, HC.out.2⟩
                      case round =>
                        obtain ⟨q, S3, hq, rfl, hset, hmem, hsb, hbq⟩ := hrel
                        have d2 := (HW.out.1.keep hbq).d2
                        rw [HME.out] at d2
                        have c1 := HLC.out wr hbq
                        by_cases hgo : q < m ∧ dn < rl
                        · obtain ⟨hqm, hdl⟩ := hgo
                          have hqp : q < G.prods.length := by rw [HME.out]; exact hqm
                          have hdr : dn < rt.length := by rw [HRL.out]; exact hdl
                          have z0 := HPR.out q _ (List.getElem?_eq_getElem hqp) wr hbq
                          have hbe := HR1.out.2.1
                          rw [List.getElem?_eq_getElem hdr] at hbe
                          obtain ⟨rb, ro, rfl, -, hrc, z1, hi1⟩ := intsAt (HR1.out.1.fr (Fr.new hbq)) hdr
                          have hdt : decide (dn < rl) = true := decide_eq_true hdl
                          have hqt : decide (q < m) = true := decide_eq_true hqm
                          have HQ := Lib.hid (And.intro hset (And.intro hmem (And.intro hsb hbq)))
                          have HLC2 := Lib.hid (And.intro hqp (And.intro hbe (And.intro (fun y => stepTo_hit (y := y) (x := ((pn : Int), (dn : Int))) hqp) fun y => stepTo_miss (y := y) (x := ((pn : Int), (dn : Int))) hqp)))
                          have hst : behI G ((pn : Int), (dn : Int)) = some G.prods[q].left → StepI G ((pn : Int), (dn : Int)) ((q : Int), 0) := fun h => ⟨q, hqp, h, rfl⟩
                          have HST := Lib.hid hst
                          clear hset hmem hsb hbq hbe hst
                          generalize G.prods[q].left = lf at *
                          generalize rt[dn] = sy at *
                          clear hqp hdr
                          by_cases hit : lf = sy
                          · subst hit
                            have hlin := HM.out.2.2.2.2 _ (HST.out HLC2.out.2.1)
                            as_aux_lemma =>
                              go_upto_region 36 with fail
                              go_quiet (fail)
                              go_upto_region 37 with fail
                              refine wp_at (F := fun W => ItSet W bs S3 ∧ ItSet W bm S ∧ Below W0.heap.size W0 W) ⟨HQ.out.1.fr (ch := nothing) (Fr.drewN _ _) id, HQ.out.2.2.1.fr (ch := nothing) (Fr.drewN _ _) id, below_drewN HQ.out.2.2.2 _⟩ ?_
                              intro WD ⟨hsD, hmD, hbD⟩
                              have hq6 : i64 (((q : Int), (0 : Int)) : It).1 ∧ i64 (((q : Int), (0 : Int)) : It).2 := ⟨by unfold i64; simp only; omega, by unfold i64; simp only; omega⟩
                              obtain ⟨w7, S7, hrun, hset7, hmem7, hF7⟩ := hsD.store ((q : Int), 0) hq6.1 hq6.2
                              have hne : bm ≠ bs := by omega
                              have hsb7 := hmD.fr hF7 fun (e : bm = bs) => hne e
                              have hlk7 := hsb7.look ((q : Int), 0) hq6.1 hq6.2
                              rw [decide_eq_true ((HSL.out.2.1 _).2 hlin)] at hlk7
                              have hb7 : Below W0.heap.size W0 w7 := hbD.trans (hF7.below hbD.size fun g (e : g = bs) => by rw [HBM.out]; omega)
                              have HS7 := Lib.hid (show ItSet w7 bs S7 ∧ (∀ y, y ∈ S7 ↔ AskTo G K (cloL G K) j y ∨ StepTo G ((pn : Int), (dn : Int)) (q + 1) y) ∧ ItSet w7 bm S ∧ Below W0.heap.size W0 w7 from ⟨hset7, fun y => by
                                rw [hmem7, HQ.out.2.1, HLC2.out.2.2.1 y HLC2.out.2.1]
                                constructor
                                · rintro (h | h | h)
                                  · exact .inr (.inl h)
                                  · exact .inl h
                                  · exact .inr (.inr h)
                                · rintro (h | h | h)
                                  · exact .inr (.inl h)
                                  · exact .inl h
                                  · exact .inr (.inr h), hsb7, hb7⟩)
                              unfold itVal at hrun hlk7
                              simp only at hrun hlk7
                              clear hsD hmD hbD hset7 hmem7 hF7 hsb7 hb7 hlin hne hq6 d2 c1 z0 z1
                              go_wp2
                              go_roundw
                              case rel => exact ⟨q + 1, S7, by omega, by simp, HS7.out⟩
                              case measure => simp [intOf]; omega
                          · have HN := Lib.hid (HLC2.out.2.2.2 · (fun h => hit ((Option.some.inj (HLC2.out.2.1.symm.trans h)).symm)))
                            have hit' : (lf == sy) = false := beq_eq_false_iff_ne.2 hit
                            clear hit
                            as_aux_lemma =>
                              go_upto_region 36 with fail
                              go_quiet (fail)
                              go_wp2
                              go_roundw
                              case rel => exact ⟨q + 1, S3, by omega, by simp, HQ.out.1.fr (ch := nothing) (Fr.drewN _ _) id, fun y => by rw [HQ.out.2.1, HN.out], HQ.out.2.2.1.fr (ch := nothing) (Fr.drewN _ _) id, below_drewN HQ.out.2.2.2 _⟩
                              case measure => simp [intOf]; omega
                        · have hmem' : ∀ y, y ∈ S3 ↔ AskTo G K (cloL G K) (j + 1) y := fun y => by
                            rw [hmem, HM.out.2.2.2.1]
                            by_cases hqm : q < m
                            · have hdl : ¬ dn < rl := fun h => hgo ⟨hqm, h⟩
                              have hb : behI G ((pn : Int), (dn : Int)) = none := by
                                rw [HR1.out.2.1, List.getElem?_eq_none]
                                rw [HRL.out]
                                omega
                              constructor
                              · rintro (h | ⟨p, hp, _, h1, h2⟩)
                                · exact .inl h
                                · exact absurd ⟨p, hp, h1, h2⟩ (stepI_none hb)
                              · rintro (h | h)
                                · exact .inl h
                                · exact absurd h (stepI_none hb)
                            · rw [stepTo_all (by rw [HME.out]; omega)]
                          have HQ := Lib.hid (And.intro hset (And.intro hmem' (And.intro hsb (show Below bm W0 wr from by rw [HBM.out] at hbq; exact hbq))))
                          clear hset hmem hmem' hsb hbq
                          by_cases hqm : q < m
                          · have hdl : ¬ dn < rl := fun h => hgo ⟨hqm, h⟩
                            have hdt : decide (dn < rl) = false := decide_eq_false hdl
                            have hqt : decide (q < m) = true := decide_eq_true hqm
                            clear hgo hdl
                            as_aux_lemma =>
                              go_wp2
                              go_roundw
                              case rel => exact ⟨j + 1, S3, by omega, by simp, HQ.out⟩
                              case measure => simp [intOf]; omega
                          · have hqt : decide (q < m) = false := decide_eq_false hqm
                            clear hgo
                            as_aux_lemma =>
                              go_wp2
                              go_roundw
                              case rel => exact ⟨j + 1, S3, by omega, by simp, HQ.out⟩
                              case measure => simp [intOf]; omega
                    · obtain rfl : j = nL := by omega
                      have hbq' : Below W0.heap.size W0 wr := by rw [HBM.out]; exact hbq
                      have hall : ∀ x ∈ cloL G K, x ∈ S2 := fun x hx => (hmem x).2 (askTo_end (Nat.le_of_eq HL.out.1) hx)
                      have HZ := Lib.hid (And.intro hset (And.intro hall (And.intro hS ((HW.out.2.1).fr (Fr.new hbq')))))
                      clear hset hall hmem hsb hbq hbq' d2 hS hlj hj HS
                      generalize wr = WZ at *
                      go_wp2
                      go_loopw [14] (fun i wq => ∃ k' : Nat, k' ≤ j ∧ i = .int .i64 k' ∧ WZ = wq) (fun i _ => j - (intOf i).toNat)
                      case atStart => exact ⟨0, Nat.zero_le _, rfl, rfl⟩
                      case round =>
                        obtain ⟨k', hk', rfl, rfl⟩ := hrel
                        by_cases hlt' : k' < j
                        · have hjj : k' < (cloL G K).length := by rw [HL.out.1]; exact hlt'
                          have hx6 := HL.out.2.2.1 _ (List.getElem_mem hjj)
                          obtain ⟨lb, lo, rfl, c0, c1, -, -⟩ := HZ.out.2.2.2.at hjj
                          have hlk := HZ.out.1.look _ hx6.1 hx6.2
                          rw [decide_eq_true (HZ.out.2.1 _ (List.getElem_mem hjj))] at hlk
                          generalize (cloL G K)[k'] = x at *
                          clear hjj hx6
                          obtain ⟨xa, xb⟩ := x
                          unfold itVal at hlk
                          simp only at c0 c1 hlk
                          as_aux_lemma =>
                            go_wp2
                            go_roundw
                            case rel => exact ⟨k' + 1, by omega, by simp, trivial⟩
                            case measure => simp [intOf]; omega
                        · obtain rfl : k' = j := by omega
                          have hcc : closE G (cloL G K) = cloL G K := by rw [closE_good HRR.out HL.out.2.1, cloL_again]
                          have hgr := HZ.out.2.2.1
                          have d0 := hgr.d0
                          have d1 := hgr.d1
                          have d2 := hgr.d2
                          have hcl := closureF_any G (grV G sa pa sc pc) (.slice ua k' uc) (cloL G K) WZ hgr.gram HZ.out.2.2.2 (by omega) (by rw [HL.out.1]; omega)
                          rw [hcc] at hcl
                          unfold grV at hcl
                          have HCL := Lib.hid hcl
                          have HB := Lib.hid hgr.below
                          have HSI := Lib.hid fun W u (kb : Below WZ.heap.size WZ W) (hu : OwnI W WZ.heap.size u (cloL G K)) => sameItems_any u (.slice ua k' uc) (cloL G K) (cloL G K) W (OwnI.items hu HL.out.2.2.1 (by rw [HL.out.1]; omega)) (HZ.out.2.2.2.fr (Fr.new kb))
                          clear hgr hcl hcc hlt' hk'
                          as_aux_lemma =>
                            go_wp2_with (first
                              | (go_at_call 15; refine HCL.out.mono ?_; rintro e w8 ⟨u, rfl, hu8, hb8⟩; have HS8 := Lib.hid (HSI.out _ _ hb8 hu8))
                              | (go_at_call 13; refine HS8.out.mono ?_; rintro e w9 ⟨rfl, n9, rfl⟩))
                            go_ret
                            exact ⟨rfl, below_drewN (HB.out.trans (hb8.mono HB.out.size)) _⟩
end Go.Proofs.Ytgmkpncpcikecaa
