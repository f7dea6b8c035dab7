/-
  gristmillref18: has (what symbols may begin with).
-/
import Derived.Test.YtpnihegmhalcfaaRunG20
import Derived.Test.YtpnihegmhalcfaaRunG08
namespace Go.Proofs.Ytpnihegmhalcfaa
open Go.RowKit
set_option maxHeartbeats 400000

theorem has_take {m : Nat} {nl : List Bool} {ps : List Prd} {k : Nat} (hk : k < ps.length) (s : Bool × List (List Bool)) : hasRound m nl (ps.take (k + 1)) s = hasProd m nl ps[k].left.toNat ps[k].right (hasRound m nl (ps.take k) s) := by
  have e : ps.take (k + 1) = ps.take k ++ [ps[k]] := by rw [List.take_add_one, List.getElem?_eq_getElem hk]; rfl
  unfold hasRound
  rw [e, List.foldl_append]
  rfl
def has0row (m k : Nat) : List Bool := (List.range m).map fun j => decide (j = k) && decide (k < m)
theorem has0_succ (m k : Nat) : has0 m (k + 1) = has0 m k ++ [has0row m k] := by
  unfold has0 has0row
  rw [List.range_succ, List.map_append]
  rfl
@[simp] theorem has0row_len (m k : Nat) : (has0row m k).length = m := by simp [has0row]
theorem has0row_at {m k i : Nat} (h : i < (has0row m k).length) : (has0row m k)[i] = (decide (i = k) && decide (k < m)) := by
  simp [has0row]
theorem has0row_set {m k : Nat} (h : k < m) : (List.replicate m false).set k true = has0row m k := by
  refine List.ext_getElem (by simp) fun i h1 h2 => ?_
  rw [List.getElem_set, has0row_at]
  by_cases e : k = i
  · subst e; simp [h]
  · have e' : ¬ i = k := fun x => e x.symm
    simp [e, e']
theorem has0row_none {m k : Nat} (h : ¬ k < m) : List.replicate m false = has0row m k := by
  refine List.ext_getElem (by simp) fun i h1 h2 => ?_
  rw [has0row_at]
  simp [h]
def orTo (x l t : Nat) (s : Bool × List (List Bool)) : Bool × List (List Bool) := (List.range t).foldl (orStep x l) s
theorem orTo_succ (x l t : Nat) (s : Bool × List (List Bool)) : orTo x l (t + 1) s = orStep x l (orTo x l t s) t := by
  unfold orTo
  rw [List.range_succ, List.foldl_append]
  rfl
theorem orTo_fits {n m x l t : Nat} (hl : l < n) (ht : t ≤ m) {s : Bool × List (List Bool)} (hs : fitsT n m s.2) : fitsT n m (orTo x l t s).2 :=
  (Dn.fold (f := orStep x l) (I := fitsT n m) (μ := missT) (List.range t) fun i hi s hs => by
    show fitsT n m (orStep x l s i).2 ∧ (orStep x l s i = s ∨ (orStep x l s i).1 = true ∧ missT (orStep x l s i).2 < missT s.2)
    unfold orStep
    split
    · rename_i hc
      simp only [Bool.and_eq_true, Bool.not_eq_true'] at hc
      exact ⟨hs.set hl i, .inr ⟨rfl, missT_set hs hl (by have := List.mem_range.1 hi; omega) hc.2⟩⟩
    · exact ⟨hs, .inl rfl⟩).inv hs
theorem Try.infoBools : (Try.prog.info? 118).map (fun i => (i.zero, i.size, i.bytes)) = some (some (.slice none 0 0), 1, 24) := by kernel_rfl

set_option maxRecDepth 100000 in
set_option maxHeartbeats 8000000 in
theorem has18_any (G : Gram) (v : Value) (nb : Nat) (NL : List Bool) (w : World) (h : IsGram w v G) (hr : rightG G = true) (hnb : w.heap[nb]? = some (boolsObj NL)) (hNL : NL.length = G.syms.length) :
    Calls Try.prog 101 #[v, .slice (some ⟨nb, 0, none⟩) G.syms.length G.syms.length] w fun e w' => ∃ B r bs, e = .returned r ∧ w.heap.size ≤ B ∧ TabM w' B r G.terms.toNat bs (hasL G NL) ∧ Below w.heap.size w w' := by
  have hG := h
  obtain ⟨hterms, vs, vp, rfl, hs, hp⟩ := h
  obtain ⟨-, sa, sc, rfl, -, -, -⟩ := id hs
  obtain ⟨-, pa, pc, rfl, -, -, -⟩ := id hp
  have hS0 : Stands w.heap.size w G sa pa sc pc (w.alloc (grO G sa pa sc pc)) := ⟨alloc_obj _ _, hG.fr (Fr.alloc _ _), (Below.refl _ w).alloc (Nat.le_refl _) _⟩
  have HS0 := Lib.hid (And.intro hS0 ((Fr.alloc (ch := nothing) w (grO G sa pa sc pc)).obj hnb id))
  have hin := right_in hr
  have HIN := Lib.hid hin
  have hn1 := (rightG_parts hr).1
  obtain ⟨tn, htn⟩ : ∃ tn : Nat, G.terms = (tn : Int) := ⟨G.terms.toNat, by omega⟩
  have htn' : G.terms.toNat = tn := by omega
  have HDN := Lib.hid (has_dn (m := tn) NL hin)
  have HNL := Lib.hid hNL
  have HHL := Lib.hid (show hasL G NL = untilF (fun A => hasRound tn NL G.prods (false, A)) (G.syms.length * tn + 1) (has0 tn G.syms.length) by unfold hasL; rw [htn'])
  have HTN := Lib.hid htn
  rw [htn']
  have htn1 : tn ≤ 64 := by omega
  have htnl : tn < G.syms.length := by omega
  have hnl1 : G.syms.length ≤ 128 := by omega
  have hpn1 : G.prods.length ≤ 128 := by omega
  have HG := Lib.hid hG
  obtain ⟨i0, hi, hz0, hz1, hz2⟩ := info_parts Try.infoBool
  obtain ⟨j0, hj, hy0, hy1, hy2⟩ := info_parts Try.infoBools
  clear hS0 hs hp hG hnb hNL htn hin hn1 htn' hr
  go_enter Try.func101, Try.ntmps101
  go_upto_region 1 with fail
  unfold grO at HS0
  generalize hw1 : w.alloc (Obj.cells #[.int .i64 G.terms, .slice sa G.syms.length sc, .slice pa G.prods.length pc] 25 (0, 0)) = W1 at *
  clear hw1
  have HS1 := Lib.hid HS0.out.1.below
  have HS0' := Lib.hid HS0.out.1
  go_wp2
  go_loopw [5, 6, 7] (fun o i _ wr => ∃ (k : Nat) (bs : List Nat), k ≤ G.syms.length ∧ i = .int .i64 (k : Int) ∧ bs.length = k ∧ TabM wr W1.heap.size o tn bs (has0 tn k) ∧ Below W1.heap.size W1 wr) (fun _ i _ _ => G.syms.length - (intOf i).toNat)
  case atStart => exact ⟨0, [], Nat.zero_le _, rfl, rfl, TabM.nil _ _ _, Below.refl _ _⟩
  case round =>
    obtain ⟨k, bs, hkn, rfl, hbk, hT, hbel⟩ := hrel
    have hS := HS0.out.1.keep hbel
    have d0 := hS.d0
    have d1 := hS.d1
    rw [HTN.out] at d0
    by_cases hlt : k < G.syms.length
    · obtain ⟨oa, oc, rfl, -, -, -⟩ := own_as_cells hT.own
      rw [hbk] at hT
      have HT := Lib.hid (And.intro hT (And.intro hbel hS))
      clear hT hbel hS
      go_upto_region 6 with (at_make; refine wpList_make_full _ rfl _ _ 118 rfl wr.heap.size 4 i0 (.bool false) 1 Try.underlying118 hi hz0 hz1 .i64 .i64 _ _ tn rfl rfl rfl rfl (by rw [hz2]; omega) (by unfold maxLen; omega) (Nat.le_refl _) ?_; intro W hown hgrow)
      have hb := made_bools hown
      have kW : Fr nothing wr W := (Fr.grown hgrow).mono fun _ _ e => by cases e
      have d0 := kW.cell d0 id
      have hrb : wr.heap.size < W.heap.size := (Array.getElem?_eq_some_iff.1 hb).1
      have hltT := HT.out.1.lt
      obtain ⟨rb, hrbe⟩ : ∃ rb, wr.heap.size = rb := ⟨_, rfl⟩
      rw [hrbe] at hb hrb hltT
      have hrbn : W1.heap.size ≤ rb ∧ rb ∉ bs := ⟨by have := HT.out.2.1.size; omega, fun e => by have := hltT.2 _ e; omega⟩
      have hbW : Below W1.heap.size W1 W := HT.out.2.1.trans (kW.below HT.out.2.1.size fun _ e => e.elim)
      have HTW := HT.out.1.keep kW
      rw [hrbe]
      clear hown hgrow kW d1
      by_cases hkt : k < tn
      · have c0 := bools_cell hb k (by simpa using hkt)
        have f0 := obj_frozen hb k
        have hrow2 := bools_set hb k true
        rw [has0row_set hkt] at hrow2
        have kS := Fr.setCell W ⟨rb, k, none⟩ (.bool true)
        have hT2 := HTW.off kS (fun g hg e => by have := hltT.1 g hg; have e' : g = rb := e; omega) (fun b hb e => by have := hltT.2 b hb; have e' : b = rb := e; omega)
        have hbel2 : Below W1.heap.size W1 (W.setCell ⟨rb, k, none⟩ (.bool true)) := hbW.trans (kS.below hbW.size fun g e => by have e' : g = rb := e; have := hrbn.1; omega)
        have HC := Lib.hid (And.intro hT2 (And.intro hrow2 hbel2))
        clear hT2 hrow2 hbel2 kS HTW hbW hb
        go_upto_region 8 with fail
        · obtain ⟨hT2, hrow2, hbel2⟩ := HC.out
          clear c0 f0 d0 HC hltT hrb HT
          generalize hW2x : W.setCell ⟨rb, k, none⟩ (.bool true) = W2x at *
          clear hW2x
          generalize W2x = W2 at *
          have hown2 := hT2.own.alloc (Obj.cells #[.slice (some ⟨rb, 0, none⟩) tn tn] 118 (0, 0))
          have hna := one_news (alloc_obj W2 (Obj.cells #[.slice (some ⟨rb, 0, none⟩) tn tn] 118 (0, 0)))
          have hBa : W1.heap.size ≤ (W2.alloc (Obj.cells #[.slice (some ⟨rb, 0, none⟩) tn tn] 118 (0, 0))).heap.size := by have := hbel2.size; simp; omega
          rw [hbk] at hown2
          have HX := Lib.hid (And.intro hT2 (And.intro hrow2 (And.intro hbel2 (And.intro hbk hrbn))))
          clear hT2 hrow2 hbel2 hbk hrbn
          go_wp2_with (at_builtin; refine wpList_append_lies _ rfl _ _ 115 rfl W1.heap.size 118 j0 _ 1 24 Try.underlying115 hj hy0 hy1 hy2 rfl (by decide) (.slice oa k oc) _ _ rfl hown2 ⟨W2.heap.size, 0, none⟩ 1 1 [.slice (some ⟨rb, 0, none⟩) tn tn] rfl rfl hna (by simp [Value.oneCell']) (by omega) (by unfold maxLen; omega) (by omega) hBa _ rfl ?_
                       intro g cap w4 hown4 hgrow4 hat4 hlt4)
          go_roundw
          case rel =>
            obtain ⟨hT2, hrow2, hbel2, hbk, hrbn⟩ := HX.out
            have k4 : Fr (fun b => (Value.slice oa k oc).ownBlock = some b) W2 w4 := (Fr.alloc _ _).trans (Fr.grown hgrow4)
            refine ⟨k + 1, bs ++ [rb], by omega, by simp, by simp [hbk], ?_, ?_⟩
            · rw [has0_succ]
              exact hT2.snoc hrow2 (by simp) (hrbn.1) hrbn.2 (by rw [hbk]; exact hown4) k4
            · exact hbel2.trans (k4.below hbel2.size fun g e => (ownObj hT2.own g e).1)
          case measure => simp [intOf]; omega
      · have hrow2 := hb
        rw [has0row_none hkt] at hrow2
        have hT2 := HTW
        have hbel2 := hbW
        have HC := Lib.hid (And.intro hT2 (And.intro hrow2 hbel2))
        clear hT2 hrow2 hbel2 HTW hbW hb
        go_upto_region 8 with fail
        · obtain ⟨hT2, hrow2, hbel2⟩ := HC.out
          clear d0 HC hltT hrb HT
          generalize W = W2x at *
          generalize W2x = W2 at *
          have hown2 := hT2.own.alloc (Obj.cells #[.slice (some ⟨rb, 0, none⟩) tn tn] 118 (0, 0))
          have hna := one_news (alloc_obj W2 (Obj.cells #[.slice (some ⟨rb, 0, none⟩) tn tn] 118 (0, 0)))
          have hBa : W1.heap.size ≤ (W2.alloc (Obj.cells #[.slice (some ⟨rb, 0, none⟩) tn tn] 118 (0, 0))).heap.size := by have := hbel2.size; simp; omega
          rw [hbk] at hown2
          have HX := Lib.hid (And.intro hT2 (And.intro hrow2 (And.intro hbel2 (And.intro hbk hrbn))))
          clear hT2 hrow2 hbel2 hbk hrbn
          go_wp2_with (at_builtin; refine wpList_append_lies _ rfl _ _ 115 rfl W1.heap.size 118 j0 _ 1 24 Try.underlying115 hj hy0 hy1 hy2 rfl (by decide) (.slice oa k oc) _ _ rfl hown2 ⟨W2.heap.size, 0, none⟩ 1 1 [.slice (some ⟨rb, 0, none⟩) tn tn] rfl rfl hna (by simp [Value.oneCell']) (by omega) (by unfold maxLen; omega) (by omega) hBa _ rfl ?_
                       intro g cap w4 hown4 hgrow4 hat4 hlt4)
          go_roundw
          case rel =>
            obtain ⟨hT2, hrow2, hbel2, hbk, hrbn⟩ := HX.out
            have k4 : Fr (fun b => (Value.slice oa k oc).ownBlock = some b) W2 w4 := (Fr.alloc _ _).trans (Fr.grown hgrow4)
            refine ⟨k + 1, bs ++ [rb], by omega, by simp, by simp [hbk], ?_, ?_⟩
            · rw [has0_succ]
              exact hT2.snoc hrow2 (by simp) (hrbn.1) hrbn.2 (by rw [hbk]; exact hown4) k4
            · exact hbel2.trans (k4.below hbel2.size fun g e => (ownObj hT2.own g e).1)
          case measure => simp [intOf]; omega
    · obtain rfl : k = G.syms.length := by omega
      clear d0 hlt
      have hbls := hT.lt
      have hU : UntilAt (fun A => hasRound tn NL G.prods (false, A)) missT (hasL G NL) true (has0 tn G.syms.length) := by
        rw [HHL.out]
        exact UntilAt.start _ _ _ (by have := missT_le (has0_fits G.syms.length tn); omega)
      have HT := Lib.hid (And.intro hT (And.intro hbel (And.intro hbls hU)))
      have HB := Lib.hid (And.intro hS (hS.below.size))
      have HNB := Lib.hid ((Fr.new hbel).obj HS0.out.2 id)
      have HNBlt := Lib.hid ((Array.getElem?_eq_some_iff.1 HS0.out.2).1)
      clear hT hbel hS hbls hU HS0
      generalize wr = W at *
      obtain ⟨oa, oc, hoe, -, -, -⟩ := own_as_cells HT.out.1.own
      rw [hbk] at hoe
      subst hoe
      go_wp2
      go_loopw [8, 9, 10, 11, 12] (fun g _ _ _ _ wr => ∃ (gb : Bool) (A : List (List Bool)), g = .bool gb ∧ UntilAt (fun A => hasRound tn NL G.prods (false, A)) missT (hasL G NL) gb A ∧ TabM wr W1.heap.size (.slice oa G.syms.length oc) tn bs A ∧ Fr (fun b => b ∈ bs) W wr) (fun g _ _ _ _ wr => if boolOf g then outT wr bs + 1 else 0)
      case atStart => exact ⟨true, _, rfl, HT.out.2.2.2, HT.out.1, Fr.refl _ _⟩
      case round =>
        obtain ⟨gb, A, rfl, hU, hT, hF⟩ := hrel
        cases gb with
        | false =>
          have hfin : A = hasL G NL := by
            rcases hU with ⟨h, _⟩ | ⟨_, h⟩
            · cases h
            · exact h
          subst hfin
          have hbw := HB.out.1.below.trans (hF.below HB.out.2 fun g e => Nat.le_trans HS1.out.size (HT.out.1.low g e))
          have HE := Lib.hid (And.intro hT hbw)
          clear hU hT hF hbw
          go_wp2
          go_ret
          exact ⟨_, _, _, rfl, HS1.out.size, HE.out.1, HE.out.2⟩
        | true =>
          have hfA : fitsT G.syms.length tn A := by have := hT.fits; rw [hbk] at this; exact this
          have hnx := UntilAt.next HDN.out hfA hU
          have hlen2 := (HDN.out.inv (s := (false, A)) hfA)
          have hcnt := hT.out
          have HNX := Lib.hid (And.intro hnx (And.intro hlen2 hcnt))
          have HR := Lib.hid (And.intro hT hF)
          have HFA := Lib.hid hfA
          clear hnx hlen2 hcnt hT hF hU hfA
          generalize wr = wA at *
          go_wp2
          go_loopw [8, 9, 10, 11, 12] (fun g i _ _ _ wq => ∃ j : Nat, j ≤ G.prods.length ∧ i = .int .i64 (j : Int) ∧ g = .bool (hasRound tn NL (G.prods.take j) (false, A)).1 ∧ TabM wq W1.heap.size (.slice oa G.syms.length oc) tn bs (hasRound tn NL (G.prods.take j) (false, A)).2 ∧ Fr (fun b => b ∈ bs) W wq) (fun _ i _ _ _ _ => G.prods.length - (intOf i).toNat)
          case atStart => exact ⟨0, Nat.zero_le _, rfl, rfl, HR.out.1, HR.out.2⟩
          case round =>
            obtain ⟨j, hj, rfl, rfl, hT, hF⟩ := hrel
            clear HT d1
            have hbw := HB.out.1.below.trans (hF.below HB.out.2 fun g e => Nat.le_trans HS1.out.size (HR.out.1.low g e))
            have hob := hF.obj HB.out.1.obj (fun e => by have h1 := HR.out.1.low _ e; have h2 := (Array.getElem?_eq_some_iff.1 HS0'.out.obj).1; omega)
            have d2 : wr.cell? ⟨w.heap.size, 2, none⟩ = some (.slice pa G.prods.length pc) := obj_cell hob 2 rfl
            by_cases hlt : j < G.prods.length
            · obtain ⟨pb, po, ra, rc, rfl, hri, -, hcx⟩ := IsGram.prd (show IsGram wr (.agg #[.int .i64 G.terms, .slice sa G.syms.length sc, .slice pa G.prods.length pc]) G from HG.out.fr (Fr.new hbw)) j hlt
              have x0 := hcx 0 (by simp [prdCells])
              have x1 := hcx 1 (by simp [prdCells])
              have x2 := hcx 2 (by simp [prdCells])
              have x3 := hcx 3 (by simp [prdCells])
              have x4 := hcx 4 (by simp [prdCells])
              have x5 := hcx 5 (by simp [prdCells])
              simp only [prdCells, List.getElem_cons_zero, List.getElem_cons_succ, Nat.add_zero] at x0 x1 x2 x3 x4 x5
              clear hcx
              have hpin := HIN.out _ (List.getElem_mem hlt)
              have htk := has_take (m := tn) (nl := NL) hlt (false, A)
              obtain ⟨gb, hgb⟩ : ∃ gb, (hasRound tn NL (G.prods.take j) (false, A)).1 = gb := ⟨_, rfl⟩
              generalize hM : hasRound tn NL (G.prods.take j) (false, A) = M at *
              generalize G.prods[j] = q at *
              obtain ⟨left, right, prec, has, action, whr⟩ := q
              obtain ⟨⟨hl0, hl1⟩, hri1⟩ := hpin
              simp only at hl0 hl1 hri1 x0 x1 x2 x3 x4 x5 hri htk
              obtain ⟨pl, rfl⟩ : ∃ pl : Nat, left = pl := ⟨left.toNat, by omega⟩
              have hpl : pl < G.syms.length := by omega
              rw [Int.toNat_natCast] at htk
              rw [hgb]
              have HM := Lib.hid (And.intro htk hgb)
              have hTl := hT.lt
              have HT := Lib.hid (And.intro hT (And.intro hF (And.intro hbw hob)))
              clear htk hgb hT hF hbw hM hob
              have hrl := hri.2.1
              generalize hSZ : wr.heap.size = sz at *
              go_upto_region 16 with fail
              refine wp_at (F := fun W => W.heap[sz]? = some (.cells #[.int .i64 pl, .slice ra right.length rc, .int .i64 prec, .bool has, .string action, .int .i64 whr] 46 (0, 0)) ∧ Fr nothing wr W) ⟨?_, ?_⟩ ?_
              · rw [← hSZ]
                exact alloc_obj _ _
              · exact Fr.alloc _ _
              rintro wB ⟨hpB, hkB⟩
              have d0 : wB.cell? ⟨w.heap.size, 0, none⟩ = some (.int .i64 (tn : Int)) := by
                rw [← HTN.out]
                exact hkB.cell (obj_cell HT.out.2.2.2 0 rfl) id
              have hTB := HT.out.1.keep hkB
              have hriB := hri.fr hkB
              have hszB : sz < wB.heap.size := (Array.getElem?_eq_some_iff.1 hpB).1
              have hszb : ∀ b, b ∈ bs → b ≠ sz := fun b hb e => by have := hTl.2 b hb; omega
              have hnbB : wB.heap[nb]? = some (boolsObj NL) := hkB.obj ((HT.out.2.1).obj HNB.out (fun e => by have h1 := HT.out.1.low _ e; have h2 := HNBlt.out; omega)) id
              have hszw : w.heap.size ≠ sz ∧ w.heap.size ∉ bs := ⟨fun e => by have := (Array.getElem?_eq_some_iff.1 HT.out.2.2.2).1; omega, fun e => by have h1 := HR.out.1.low _ e; have h2 := (Array.getElem?_eq_some_iff.1 HS0'.out.obj).1; omega⟩
              obtain ⟨F, hF⟩ : ∃ F, hasProd tn NL pl right M = F := ⟨_, rfl⟩
              rw [hF] at HM
              have HP := Lib.hid (And.intro hpB (And.intro hriB (And.intro hszb (And.intro hnbB (And.intro hszw (And.intro hkB hri1))))))
              have HTB := Lib.hid (And.intro hTB hF)
              have hgb := HM.out.2
              have HD0 := Lib.hid d0
              clear hpB hriB hszb hnbB hszw hTB hF hri hri1 hkB x0 x1 x2 x3 x4 x5 hTl d2 hszB d0
              obtain ⟨g1, A1⟩ := M
              simp only at hgb
              subst hgb
              go_wp2
              go_loopw [8, 11, 12] (fun g i _ wq => ∃ (k : Nat) (s : Bool × List (List Bool)), k ≤ right.length ∧ i = .int .i64 (k : Int) ∧ g = .bool s.1 ∧ hasProd tn NL pl (right.drop k) s = F ∧ TabM wq W1.heap.size (.slice oa G.syms.length oc) tn bs s.2 ∧ Fr (fun b => b ∈ bs) wB wq) (fun _ i _ _ => right.length - (intOf i).toNat)
              case atStart => exact ⟨0, (g1, A1), Nat.zero_le _, rfl, rfl, HTB.out.2, HTB.out.1, Fr.refl _ _⟩
              case round =>
                obtain ⟨k, ⟨g2, A2⟩, hk, rfl, rfl, hFk, hTk, hkk⟩ := hrel
                simp only at hTk hFk
                clear HTB
                have q0 : wr.cell? ⟨sz, 0, none⟩ = some (.int .i64 (pl : Int)) := hkk.cell (obj_cell HP.out.1 0 rfl) fun e => HP.out.2.2.1 _ e rfl
                have q1 : wr.cell? ⟨sz, 1, none⟩ = some (.slice ra right.length rc) := hkk.cell (obj_cell HP.out.1 1 rfl) fun e => HP.out.2.2.1 _ e rfl
                by_cases hltk : k < right.length
                · obtain ⟨rb, ro, rfl, -, -, r0, -⟩ := intsAt HP.out.2.1 hltk
                  have hx := HP.out.2.2.2.2.2.2 _ (List.getElem_mem hltk)
                  have hrbb : rb ∉ bs := fun e => by
                    obtain ⟨i, hi, e2⟩ := List.getElem_of_mem e
                    have h1 := (HT.out.1.keep HP.out.2.2.2.2.2.1).row i hi
                    rw [e2] at h1
                    have h2 : ∀ (b o : Nat) (L : List Bool) (x : Int), wB.heap[b]? = some (boolsObj L) → wB.cell? ⟨b, o, none⟩ = some (.int .i64 x) → False := fun b o L x h1 h2 => by
                      simp only [World.cell?, h1, boolsObj] at h2
                      simp at h2
                    exact h2 _ _ _ _ h1 r0
                  rw [List.drop_eq_getElem_cons hltk] at hFk
                  unfold hasProd at hFk
                  generalize right[k] = x at *
                  obtain ⟨xn, rfl⟩ : ∃ xn : Nat, x = xn := ⟨x.toNat, by omega⟩
                  have hxn : xn < G.syms.length := by omega
                  rw [Int.toNat_natCast] at hFk
                  have hnlx : NL.getD xn false = NL[xn]'(by rw [HNL.out]; exact hxn) := by rw [List.getD_eq_getElem?_getD, List.getElem?_eq_getElem (by rw [HNL.out]; exact hxn)]; rfl
                  have n0 := bools_cell HP.out.2.2.2.1 xn (by rw [HNL.out]; exact hxn)
                  have hnbb : nb ∉ bs := fun e => by have h1 := HT.out.1.low _ e; have h2 := HNBlt.out; omega
                  rw [hnlx] at hFk
                  generalize NL[xn]'(by rw [HNL.out]; exact hxn) = nv at *
                  have HK := Lib.hid (And.intro hFk (And.intro hTk (And.intro hkk (And.intro hrbb (And.intro r0 (And.intro n0 hnbb))))))
                  clear hFk hTk hkk hrbb r0 n0 hnbb hnlx hx
                  generalize wr = wC at *
                  go_wp2
                  go_loopw [8, 12] (fun g i wq => ∃ t : Nat, t ≤ tn ∧ i = .int .i64 (t : Int) ∧ g = .bool (orTo xn pl t (g2, A2)).1 ∧ TabM wq W1.heap.size (.slice oa G.syms.length oc) tn bs (orTo xn pl t (g2, A2)).2 ∧ Fr (fun b => b ∈ bs) wB wq) (fun _ i _ => tn - (intOf i).toNat)
                  case atStart => exact ⟨0, Nat.zero_le _, rfl, rfl, HK.out.2.1, HK.out.2.2.1⟩
                  case round =>
                    obtain ⟨t, ht, rfl, rfl, hTt, hkt⟩ := hrel
                    clear q0 q1
                    have q0 : wr.cell? ⟨sz, 0, none⟩ = some (.int .i64 (pl : Int)) := hkt.cell (obj_cell HP.out.1 0 rfl) fun e => HP.out.2.2.1 _ e rfl
                    have q1 : wr.cell? ⟨sz, 1, none⟩ = some (.slice (some ⟨rb, ro, none⟩) right.length rc) := hkt.cell (obj_cell HP.out.1 1 rfl) fun e => HP.out.2.2.1 _ e rfl
                    have r0 := hkt.cell HK.out.2.2.2.2.1 HK.out.2.2.2.1
                    have d0 := hkt.cell HD0.out HP.out.2.2.2.2.1.2
                    have n0 := hkt.cell HK.out.2.2.2.2.2.1 HK.out.2.2.2.2.2.2
                    by_cases hltt : t < tn
                    · have hst := orTo_succ xn pl t (g2, A2)
                      obtain ⟨gb2, hgb2⟩ : ∃ gb2, (orTo xn pl t (g2, A2)).1 = gb2 := ⟨_, rfl⟩
                      generalize orTo xn pl t (g2, A2) = M2 at *
                      obtain ⟨g3, A3⟩ := M2
                      simp only at hgb2 hTt
                      subst hgb2
                      have hxb : xn < bs.length := by rw [hbk]; exact hxn
                      have hpb : pl < bs.length := by rw [hbk]; exact hpl
                      obtain ⟨og, oc', e, o1, -, -⟩ := hTt.at hxb
                      obtain ⟨og', oc'', e', o2, -, -⟩ := hTt.at hpb
                      rw [hbk] at e e'
                      simp only [Value.slice.injEq, true_and] at e e'
                      obtain ⟨rfl, rfl⟩ := e
                      obtain ⟨e', -⟩ := e'
                      simp only [Option.some.injEq, Addr.mk.injEq, and_true] at e'
                      subst e'
                      have b1 := hTt.bit hxb hltt
                      have b2 := hTt.bit hpb hltt
                      have f2 := hTt.frozen hpb t
                      have hput := hTt.put hpb t
                      have hkp : Fr (fun b => b ∈ bs) wB (wr.setCell ⟨bs[pl], t, none⟩ (.bool true)) := hkt.trans (Fr.setCell' _ _ (List.getElem_mem hpb))
                      unfold orStep at hst
                      simp only at hst
                      have HE := Lib.hid (And.intro hTt (And.intro hkt (And.intro hput hkp)))
                      clear hTt hkt hput hkp HM HT HNX
                      generalize bs[xn] = bx at *
                      generalize bs[pl] = bp at *
                      cases ht1 : tt A3 xn t
                      · rw [ht1] at hst b1
                        have HST := Lib.hid hst
                        clear hst
                        go_wp2
                        go_roundw
                        case rel => exact ⟨t + 1, by omega, by simp, by rw [HST.out]; rfl, by rw [HST.out]; exact HE.out.1, HE.out.2.1⟩
                        case measure => simp [intOf]; omega
                      · rw [ht1] at hst b1
                        cases ht2 : tt A3 pl t
                        · rw [ht2] at hst b2
                          have HST := Lib.hid hst
                          clear hst
                          go_wp2
                          go_roundw
                          case rel => exact ⟨t + 1, by omega, by simp, by rw [HST.out]; rfl, by rw [HST.out]; exact HE.out.2.2.1, HE.out.2.2.2⟩
                          case measure => simp [intOf]; omega
                        · rw [ht2] at hst b2
                          have HST := Lib.hid hst
                          clear hst
                          go_wp2
                          go_roundw
                          case rel => exact ⟨t + 1, by omega, by simp, by rw [HST.out]; rfl, by rw [HST.out]; exact HE.out.1, HE.out.2.1⟩
                          case measure => simp [intOf]; omega
                    · obtain rfl : t = tn := by omega
                      have HFk := Lib.hid HK.out.1
                      have HE := Lib.hid (And.intro hTt hkt)
                      clear hTt hltt HK
                      generalize hM2 : orTo xn pl t (g2, A2) = M2 at *
                      have HM2 := Lib.hid (show orRow t xn pl (g2, A2) = M2 from hM2)
                      clear hM2
                      rw [HM2.out] at HFk
                      obtain ⟨g3, A3⟩ := M2
                      simp only at HE
                      cases nv
                      · have hfin := HFk.out
                        rw [if_neg (by decide)] at hfin
                        have HFIN := Lib.hid hfin
                        have hbB : Fr (fun b => b ∈ bs) W wr := HT.out.2.1.trans (HP.out.2.2.2.2.2.1.wide.trans hkt)
                        have HBB := Lib.hid hbB
                        clear hfin hkt hbB
                        go_wp2
                        go_roundw
                        case rel => exact ⟨j + 1, by omega, by simp, by rw [HM.out.1, ← HFIN.out], by rw [HM.out.1, ← HFIN.out]; exact HE.out.1, HBB.out⟩
                        case measure => simp [intOf]; omega
                      · have hfin := HFk.out
                        rw [if_pos rfl] at hfin
                        have HFIN := Lib.hid hfin
                        clear hfin hkt
                        go_wp2
                        go_roundw
                        case rel => exact ⟨k + 1, (g3, A3), by omega, by simp, rfl, HFIN.out, HE.out.1, HE.out.2⟩
                        case measure => simp [intOf]; omega
                · obtain rfl : k = right.length := by omega
                  rw [List.drop_length] at hFk
                  unfold hasProd at hFk
                  have hbB : Fr (fun b => b ∈ bs) W wr := HT.out.2.1.trans (HP.out.2.2.2.2.2.1.wide.trans hkk)
                  have HBB := Lib.hid (And.intro hFk (And.intro hbB hTk))
                  clear hFk hTk hkk hbB hltk q0
                  go_wp2
                  go_roundw
                  case rel => exact ⟨j + 1, by omega, by simp, by rw [HM.out.1, ← HBB.out.1], by rw [HM.out.1, ← HBB.out.1]; exact HBB.out.2.2, HBB.out.2.1⟩
                  case measure => simp [intOf]; omega
            · obtain rfl : j = G.prods.length := by omega
              rw [List.take_length] at hT ⊢
              have hcnt2 := hT.out
              generalize hM : hasRound tn NL G.prods (false, A) = M at *
              obtain ⟨g1, A1⟩ := M
              simp only at hT hcnt2 HNX ⊢
              have HE := Lib.hid (And.intro hT (And.intro hF hcnt2))
              clear hT hF hcnt2 hlt hM hob hbw
              go_wp2
              go_roundw
              case rel => exact ⟨g1, A1, rfl, HNX.out.1.1, HE.out.1, HE.out.2.1⟩
              case measure =>
                have h1 := HNX.out.1.2
                have h2 := HNX.out.2.2
                rw [HE.out.2.2, h2]
                simp only [boolOf, if_true]
                cases g1
                · simp
                · have := h1 rfl
                  simp only [if_true]
                  omega
end Go.Proofs.Ytpnihegmhalcfaa

