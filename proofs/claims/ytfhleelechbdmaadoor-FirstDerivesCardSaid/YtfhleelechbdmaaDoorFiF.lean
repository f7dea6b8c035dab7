/-
  Package first: Of, of a row of symbols that are there.
-/
import Derived.Test.YtfhleelechbdmaaDoorFiE
namespace Go.Proofs.YtfhleelechbdmaaDoor
open Go.RowKit
set_option maxHeartbeats 400000

/-- What Of's set has. -/
def ofB (T : Nat) (S : List (List Bool)) (no : List Bool) (l : List Int) (b : Int) : List Bool :=
  if allE no l && decide (0 ≤ b) then addB (orB (List.replicate T false) (flatS S (preR no l))) b else orB (List.replicate T false) (flatS S (preR no l))

set_option maxRecDepth 100000 in
set_option maxHeartbeats 4000000 in
theorem of_any (G : Gram) (hr : rightG G = true) (v : Value) (w : World) (h : IsGram w v G) (hT : Tab w) (lv : Value) (l : List Int) (hl : Ints w lv l) (hlin : ∀ x ∈ l, 0 ≤ x ∧ x < (G.syms.length : Int)) (b : Int) (hb : -1 ≤ b ∧ b < G.terms) :
    Calls Tryd.prog 13 #[v, lv, .int .i64 b] w fun e w' => ∃ r S, e = .returned r ∧ RowsOk G.syms.length G.terms.toNat S ∧ RowI w' w.heap.size r (trues (ofB G.terms.toNat S (nulL G) l b)) ∧ (∀ s t, atB (rowAt S s) t = true ↔ Fst G s t) ∧ Below w.heap.size w w' := by
  obtain ⟨⟨ht0, ht1, hn0, hn1, _, _⟩, _, _⟩ := rightG_parts hr
  have hG := h
  obtain ⟨hterms, vs, vp, rfl, hs, hp⟩ := h
  have HO := Lib.hid (alloc_obj w (Obj.cells #[.int .i64 G.terms, vs, vp] 25 (0, 0)))
  have HB1 := Lib.hid ((Below.refl _ w).alloc (Nat.le_refl _) (Obj.cells #[.int .i64 G.terms, vs, vp] 25 (0, 0)))
  have HV := Lib.hid (begin_any G hr _ (w.alloc (Obj.cells #[.int .i64 G.terms, vs, vp] 25 (0, 0))) (hG.fr (Fr.alloc _ _)) (hT.fr (Fr.alloc (ch := nothing) _ _) fun e => e))
  obtain ⟨_, sa, sc, rfl, _, _, _⟩ := id hs
  obtain ⟨_, pa, pc, rfl, _, _, _⟩ := id hp
  obtain ⟨_, hll, la, lc, rfl, _, _, _⟩ := id hl
  have htb := World.block_lt_of_cell? w _ (hT 0 (by omega))
  simp only at htb
  have HL := Lib.hid hl
  have HIN := Lib.hid hlin
  have HNL := Lib.hid (nulL_len G)
  clear hG hs hp hT hl hlin
  obtain ⟨n, hn⟩ : ∃ n, G.syms.length = n := ⟨_, rfl⟩
  obtain ⟨T, hTe⟩ : ∃ T : Nat, G.terms = (T : Int) := ⟨G.terms.toNat, by omega⟩
  have hTT : ((T : Nat) : Int).toNat = T := by simp
  rw [hTe, hTT] at HV
  rw [hn] at HV HB1 HO HIN HNL hn0 hn1 ⊢
  rw [hTe] at HO HB1 ht0 ht1 hn0 hn1 hb ⊢
  rw [hTT]
  have hn2 : n ≤ 200 := by omega
  obtain ⟨N, hN⟩ : ∃ N, l.length = N := ⟨_, rfl⟩
  rw [hN] at hll ⊢
  have HNN := Lib.hid hN
  have HLT := Lib.hid htb
  clear hn hTT hN hTe htb
  generalize nulL G = no at *
  have g1 : decide (-1 ≤ b) = true := decide_eq_true hb.1
  have g2 : decide (b < (T : Int)) = true := decide_eq_true hb.2
  have HGB := Lib.hid hb
  clear hb hterms
  go_enter_defers Tryd.func13, Tryd.ntmps13
  go_upto_region 3 with (go_at_call 19; refine HV.out.mono ?_; rintro e w2 ⟨q, nb, ps, S, rfl, hx⟩; have HX := Lib.hid hx; clear hx)
  obtain ⟨hps, hok, hM, hnb, hlaw, hBw⟩ := HX.out
  have hB2 := HB1.out.trans (hBw.mono HB1.out.size)
  have hO2 := (Fr.new hBw).obj HO.out fun e => e
  have e0 := obj_cell hO2 0 rfl
  have HF := Lib.hid (And.intro hps (And.intro hok (And.intro hM (And.intro hnb (And.intro hlaw hB2)))))
  have HO2 := Lib.hid hO2
  have hz2 := hB2.size
  clear HX HV HO HB1 hps hok hM hnb hlaw hBw hB2 hO2
  go_upto_region 4 with (go_at_call 21; refine (sure_any [true, true] w2.heap.size (w2.alloc (Obj.cells #[.bool true, .bool true] 4 (0, 0))) (alloc_obj _ _) (by decide) (fun i hi => by rcases (by simp at hi; omega : i = 0 ∨ i = 1) with rfl | rfl <;> rfl)).mono ?_; rintro e w3 ⟨rfl, rfl⟩)
  refine wp_atW (F := fun W => Fr nothing w2 W) (Fr.alloc _ _) ?_
  intro W hW
  clear e0 g1 g2
  go_wp2
  go_loopw [29] (fun i wr => ∃ k : Nat, k ≤ N ∧ i = .int .i64 k ∧ Fr nothing w2 wr) (fun i _ => N - (intOf i).toNat)
  case atStart => exact ⟨0, Nat.zero_le _, rfl, hW⟩
  case round =>
    obtain ⟨k, hk, rfl, hF⟩ := hrel
    by_cases hlt : k < N
    · have hkl : k < l.length := by rw [HNN.out]; exact hlt
      obtain ⟨lb, lo, hla, -, -, hcx, -⟩ := (HL.out.fr (Fr.new (HF.out.2.2.2.2.2.trans (hF.below_new.mono HF.out.2.2.2.2.2.size)))).at hkl
      subst hla
      obtain ⟨hx0, hx1⟩ := HIN.out _ (List.getElem_mem hkl)
      have hO3 := hF.obj HO2.out id
      have c1 := obj_cell hO3 1 rfl
      have HK := Lib.hid hF
      generalize l[k] = x at hcx hx0 hx1
      have g1 : decide (0 ≤ x) = true := decide_eq_true hx0
      have g2 : decide (x < (n : Int)) = true := decide_eq_true hx1
      clear hF hO3 hx0 hx1
      go_wp2_with (go_at_call 21; refine (sure_any [true, true] wr.heap.size (wr.alloc (Obj.cells #[.bool true, .bool true] 4 (0, 0))) (alloc_obj _ _) (by decide) (fun i hi => by rcases (by simp at hi; omega : i = 0 ∨ i = 1) with rfl | rfl <;> rfl)).mono ?_; rintro e w3 ⟨rfl, rfl⟩)
      go_roundw
      case rel => exact ⟨k + 1, by omega, by simp, HK.out.trans (Fr.alloc _ _)⟩
      case measure => simp [intOf]; omega
    · obtain rfl : k = N := by omega
      clear hlt
      have HK := Lib.hid hF
      have c0 := obj_cell (hF.obj HO2.out id) 0 rfl
      clear hF
      have HNEW := Lib.hid (pNew T wr (by omega))
      go_upto_region 10 with (go_at_call 22; refine HNEW.out.mono ?_; rintro e w4 ⟨p, pv, rfl, hp4, hb4⟩)
      obtain ⟨hps, hok, hM0, hnb, hlaw, hB2⟩ := HF.out
      have hM := hM0
      simp only [World.size_alloc] at hM
      have hF4 : Fr nothing w2 w4 := HK.out.trans (Fr.new hb4)
      have hBw4 : Below w.heap.size w w4 := hB2.trans (hF4.below_new.mono hB2.size)
      have hM4 := hM.fresh hF4
      have hnb4 := hF4.obj hnb id
      have hwr := HK.out.size
      have hpg := hp4.ge
      have hI4 : PSet w4 (w.heap.size + 1) p pv (List.replicate T false) := hp4.weaken (by have := (Array.getElem?_eq_some_iff.1 HO2.out).1; omega)
      have hT4 : 0 < w.heap.size + 1 := by have := HLT.out; omega
      have hrowc := row_any w4 (w.heap.size + 1) p pv (List.replicate T false) _ l q ps S nb no ⟨hI4, HL.out.fr (Fr.new hBw4), hM4.ptrs, hM4.sets, fun i hi => .inr ⟨fun e => by
          have h1 := (hM.sets i hi).lt.1
          have h2 := hpg.1
          omega, fun g hg e => by
          have h1 := (hM.sets i hi).lt.2 g e
          have h2 := hpg.2 g hg
          omega, fun g hg e => by
          have h1 := (hM.sets i hi).lt.1
          have h2 := hpg.2 g hg
          omega⟩, hnb4, by rw [HNL.out, hps], hM4.tab, hT4, fun W k => HL.out.fr (Fr.new (hBw4.trans (k.below hBw4.size fun g e => by
          have := hpg.2 g e
          omega))), hI4.not hM4.ptrs (by decide), hI4.not hnb4 (by decide), by rw [hps]; exact HIN.out⟩
      have hgT : ∀ g, pv.ownBlock = some g → g ≠ 0 := fun g hg e => by have := hpg.2 g hg; have := HLT.out; omega
      have htab := hM4.tab
      rw [hps, HNN.out] at hrowc
      have HR := Lib.hid hrowc
      have HP := Lib.hid (And.intro hpg (And.intro htab (And.intro hgT (And.intro hBw4 (And.intro hok hlaw)))))
      have hge : w.heap.size ≤ p := by have := hpg.1; omega
      have HGE := Lib.hid (show ∀ g, pv.ownBlock = some g → w.heap.size ≤ g from fun g hg => by have := hpg.2 g hg; omega)
      have hz4 := hBw4.size
      clear hps hok hM0 hM hnb hlaw hB2 hF4 hBw4 hM4 hnb4 hwr hpg hI4 hT4 hrowc hgT htab hp4 hb4 HF HK HO2
      have HOF := Lib.hid (show ofB T S no l b = if allE no l && decide (0 ≤ b) then addB (orB (List.replicate T false) (flatS S (preR no l))) b else orB (List.replicate T false) (flatS S (preR no l)) from rfl)
      generalize orB (List.replicate T false) (flatS S (preR no l)) = bs at *
      generalize newB (List.replicate T false) (flatS S (preR no l)) = nbs at *
      generalize allE no l = al at *
      go_upto_region 11 with (go_at_call 23; refine HR.out.mono ?_; rintro e w5 ⟨rfl, hp5, hf5⟩)
      obtain ⟨hpg, htab, hgT, hBw4, hok, hlaw⟩ := HP.out
      have ht5 := htab.fr hf5 fun e => hgT _ e rfl
      have hB5 : Below w.heap.size w w5 := hBw4.trans (hf5.below hBw4.size HGE.out)
      by_cases hal : al = true ∧ 0 ≤ b
      · obtain ⟨rfl, hb0⟩ := hal
        have hb1 : decide (0 ≤ b) = true := decide_eq_true hb0
        have HO1 := Lib.hid (show ofB T S no l b = addB bs b by rw [HOF.out, hb1]; rfl)
        clear HOF
        have hAdd := pAdd w5 _ p pv bs hp5 b
        have HAD := Lib.hid hAdd
        have HE := Lib.hid (And.intro ht5 (And.intro hB5 (And.intro hgT (And.intro hok hlaw))))
        clear hAdd ht5 hB5 hp5 hf5 hpg htab hgT hBw4 hok hlaw HP
        go_upto_region 13 with (go_at_call 24; refine HAD.out.mono ?_; rintro e w6 ⟨rfl, hp6, hf6⟩)
        obtain ⟨ht5, hB5, hgT, hok, hlaw⟩ := HE.out
        have hB6 : Below w.heap.size w w6 := hB5.trans (hf6.below hB5.size fun g e => HGE.out g e.2)
        have HALL := Lib.hid (pAll w6 _ p pv _ hp6 (ht5.fr hf6 fun e => hgT _ e.2 rfl))
        have HE2 := Lib.hid (And.intro hB6 (And.intro hok hlaw))
        clear ht5 hB5 hgT hok hlaw hB6 hp6 hf6 HE
        generalize addB bs b = bs at *
        go_wp2_with (go_at_call 20; refine HALL.out.mono ?_; rintro e w7 ⟨u, rfl, hb7, ho7⟩)
        refine leaves_cons (f := 17) (args := #[]) (by simp) (by simp [go_sem]) ?_
        refine (quiet_idle _).mono ?_
        rintro e u' w3 ⟨rfl, rfl, rfl⟩
        simp [Leaves, settle, results, Tryd.results13, go_sem]
        exact ⟨S, HE2.out.2.1, by rw [HO1.out]; exact own_down ho7 HE2.out.1.size, HE2.out.2.2, HE2.out.1.trans (hb7.mono HE2.out.1.size)⟩
      · have hal2 : (al && decide (0 ≤ b)) = false := by
          cases al
          · rfl
          · simp only [true_and] at hal
            rw [decide_eq_false hal]
            rfl
        have HO1 := Lib.hid (show ofB T S no l b = bs by rw [HOF.out, hal2]; rfl)
        clear HOF
        have HALL := Lib.hid (pAll w5 _ p pv _ hp5 ht5)
        have HE2 := Lib.hid (And.intro hB5 (And.intro hok hlaw))
        clear ht5 hB5 hp5 hf5 hpg htab hgT hBw4 hok hlaw HP hal
        cases al
        · clear hal2
          go_wp2_with (go_at_call 20; refine HALL.out.mono ?_; rintro e w7 ⟨u, rfl, hb7, ho7⟩)
          refine leaves_cons (f := 17) (args := #[]) (by simp) (by simp [go_sem]) ?_
          refine (quiet_idle _).mono ?_
          rintro e u' w3 ⟨rfl, rfl, rfl⟩
          simp [Leaves, settle, results, Tryd.results13, go_sem]
          exact ⟨S, HE2.out.2.1, by rw [HO1.out]; exact own_down ho7 HE2.out.1.size, HE2.out.2.2, HE2.out.1.trans (hb7.mono HE2.out.1.size)⟩
        · simp only [Bool.true_and] at hal2
          go_wp2_with (go_at_call 20; refine HALL.out.mono ?_; rintro e w7 ⟨u, rfl, hb7, ho7⟩)
          refine leaves_cons (f := 17) (args := #[]) (by simp) (by simp [go_sem]) ?_
          refine (quiet_idle _).mono ?_
          rintro e u' w3 ⟨rfl, rfl, rfl⟩
          simp [Leaves, settle, results, Tryd.results13, go_sem]
          exact ⟨S, HE2.out.2.1, by rw [HO1.out]; exact own_down ho7 HE2.out.1.size, HE2.out.2.2, HE2.out.1.trans (hb7.mono HE2.out.1.size)⟩
end Go.Proofs.YtfhleelechbdmaaDoor
