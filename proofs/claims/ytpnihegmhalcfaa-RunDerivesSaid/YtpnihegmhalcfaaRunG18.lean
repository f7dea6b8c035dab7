/-
  gristmillref18: Nullable.
  The document's answer on conflicts: Pick. It is what package clash says.
-/
import Derived.Test.YtpnihegmhalcfaaRunG11
import Derived.Test.YtpnihegmhalcfaaRunG16
import Derived.Test.YtpnihegmhalcfaaRunG03
import Derived.Test.YtpnihegmhalcfaaRunG06
namespace Go.Proofs.Ytpnihegmhalcfaa
open Go.RowKit
set_option maxHeartbeats 400000

theorem nul_take {ps : List Prd} {k : Nat} (hk : k < ps.length) (s : Bool × List Bool) : nulRound (ps.take (k + 1)) s = nulStep (nulRound (ps.take k) s) ps[k] := by
  have e : ps.take (k + 1) = ps.take k ++ [ps[k]] := by rw [List.take_add_one, List.getElem?_eq_getElem hk]; rfl
  unfold nulRound
  rw [e, List.foldl_append]
  rfl
theorem allE_take {L : List Bool} {R : List Int} {k : Nat} (hk : k < R.length) : allE L (R.take (k + 1)) = (allE L (R.take k) && L.getD R[k].toNat false) := by
  unfold allE
  rw [List.take_add_one, List.getElem?_eq_getElem hk, List.all_append]
  simp

set_option maxRecDepth 100000 in
set_option maxHeartbeats 8000000 in
theorem nullable_any (G : Gram) (v : Value) (w : World) (h : IsGram w v G) (hr : rightG G = true) :
    Calls Try.prog 100 #[v] w fun e w' => ∃ r, e = .returned r ∧ NewB w w' r (nullL G) := by
  have hG := h
  obtain ⟨hterms, vs, vp, rfl, hs, hp⟩ := h
  obtain ⟨-, sa, sc, rfl, -, -, -⟩ := id hs
  obtain ⟨-, pa, pc, rfl, -, -, -⟩ := id hp
  have hS0 : Stands w.heap.size w G sa pa sc pc (w.alloc (grO G sa pa sc pc)) := ⟨alloc_obj _ _, hG.fr (Fr.alloc _ _), (Below.refl _ w).alloc (Nat.le_refl _) _⟩
  have HS0 := Lib.hid hS0
  have hin := right_in hr
  have HIN := Lib.hid hin
  have HDN := Lib.hid (nul_dn hin)
  have hn1 := (rightG_parts hr).1
  have HG := Lib.hid hG
  obtain ⟨i0, hi, hz0, hz1, hz2⟩ := info_parts Try.infoBool
  clear hS0 hs hp hG
  go_enter Try.func100, Try.ntmps100
  go_upto_region 1 with fail
  unfold grO at HS0
  generalize hw1 : w.alloc (Obj.cells #[.int .i64 G.terms, .slice sa G.syms.length sc, .slice pa G.prods.length pc] 25 (0, 0)) = W1 at *
  clear hw1
  have HRT := Lib.hid (right14_gram G _ W1 HS0.out.gram)
  unfold grV at HRT
  rw [hr] at HRT
  have d0 := HS0.out.d0
  have d1 := HS0.out.d1
  have d2 := HS0.out.d2
  go_upto_region 4 with (first
    | (go_at_call 48; refine HRT.out.mono ?_; rintro e w2 ⟨rfl, hb2⟩; have hS2 := HS0.out.keep hb2; have d1 := hS2.d1)
    | (at_make; refine wpList_make_full _ rfl _ _ 118 rfl w2.heap.size 4 i0 (.bool false) 1 Try.underlying118 hi hz0 hz1 .i64 .i64 _ _ G.syms.length rfl rfl rfl rfl (by rw [hz2]; omega) (by unfold maxLen; omega) (Nat.le_refl _) ?_; intro W hown hgrow))
  have hb := made_bools hown
  have hS := hS2.keep ((Fr.grown hgrow).mono fun _ _ e => by cases e).below_new
  have hbl : w.heap.size < w2.heap.size := (Array.getElem?_eq_some_iff.1 hS2.obj).1
  have hbW : w2.heap.size < W.heap.size := (Array.getElem?_eq_some_iff.1 hb).1
  have HS := Lib.hid (And.intro hS (And.intro hbl hbW))
  have HB := Lib.hid hb
  clear hown hgrow hb hS hS2 hbl hbW hb2 d0 d1 d2 HRT HS0
  generalize w2.heap.size = b at *
  go_wp2
  go_loopw [4, 5, 6, 7] (fun g _ _ _ wr => ∃ (gb : Bool) (L : List Bool), g = .bool gb ∧ L.length = G.syms.length ∧ UntilAt (fun L => nulRound G.prods (false, L)) (fun L => L.count false) (nullL G) gb L ∧ wr.heap[b]? = some (boolsObj L) ∧ Fr (only b) W wr) (fun g _ _ _ wr => if boolOf g then outW wr b + 1 else 0)
  case atStart => exact ⟨true, _, rfl, by simp, UntilAt.start _ _ _ (by simp), HB.out, Fr.refl _ _⟩
  case round =>
    obtain ⟨gb, L, rfl, hL, hU, hb, hF⟩ := hrel
    clear HB
    have hS := HS.out.1.wide HG.out hF fun g e => by have e' : g = b := e; have := HS.out.2.1; omega
    cases gb with
    | false =>
      have hfin : L = nullL G := by
        rcases hU with ⟨h, _⟩ | ⟨_, h⟩
        · cases h
        · exact h
      subst hfin
      have HE := Lib.hid (And.intro hb hS.below)
      clear hU hb hF hS
      go_wp2
      go_ret
      exact ⟨_, rfl, b, by rw [hL]; rfl, by have := HS.out.2.1; omega, HE.out.1, HE.out.2⟩
    | true =>
      have hnx := UntilAt.next HDN.out hL hU
      have hlen2 := (HDN.out.inv (s := (false, L)) hL)
      have hcnt := outW_bools hb
      have HNX := Lib.hid (And.intro hnx (And.intro hlen2 hcnt))
      have HR := Lib.hid (And.intro hb hF)
      clear hnx hlen2 hcnt hb hF hU hS
      have HLL := Lib.hid hL
      clear hL
      generalize wr = wA at *
      go_wp2
      go_loopw [4, 5, 6, 7] (fun g i _ _ wq => ∃ j : Nat, j ≤ G.prods.length ∧ i = .int .i64 (j : Int) ∧ g = .bool (nulRound (G.prods.take j) (false, L)).1 ∧ wq.heap[b]? = some (boolsObj (nulRound (G.prods.take j) (false, L)).2) ∧ Fr (only b) W wq) (fun _ i _ _ _ => G.prods.length - (intOf i).toNat)
      case atStart => exact ⟨0, Nat.zero_le _, rfl, rfl, HR.out.1, HR.out.2⟩
      case round =>
        obtain ⟨j, hj, rfl, rfl, hb, hF⟩ := hrel
        have hS := HS.out.1.wide HG.out hF fun g e => by have e' : g = b := e; have := HS.out.2.1; omega
        have d2 := hS.d2
        by_cases hlt : j < G.prods.length
        · obtain ⟨pb, po, ra, rc, rfl, hri, -, hcx⟩ := IsGram.prd (show IsGram wr (.agg #[.int .i64 G.terms, .slice sa G.syms.length sc, .slice pa G.prods.length pc]) G from hS.gram) j hlt
          have x0 := hcx 0 (by simp [prdCells])
          have x1 := hcx 1 (by simp [prdCells])
          simp only [prdCells, List.getElem_cons_zero, List.getElem_cons_succ, Nat.add_zero] at x0 x1
          clear hcx
          have hpin := HIN.out _ (List.getElem_mem hlt)
          have htk := nul_take hlt (false, L)
          have hl2 : (nulRound (G.prods.take j) (false, L)).2.length = G.syms.length := ((nul_dn fun p hp => HIN.out p (List.mem_of_mem_take hp)).inv (s := (false, L)) HLL.out)
          have hgb : ∃ gb, (nulRound (G.prods.take j) (false, L)).1 = gb := ⟨_, rfl⟩
          obtain ⟨gb, hgb⟩ := hgb
          generalize hM : nulRound (G.prods.take j) (false, L) = M at *
          obtain ⟨g1, L1⟩ := M
          simp only at hgb hl2 hb
          subst hgb
          generalize G.prods[j] = q at *
          obtain ⟨left, right, prec, has, action, whr⟩ := q
          obtain ⟨⟨hl0, hl1⟩, hri1⟩ := hpin
          simp only at hl0 hl1 hri1 x0 x1 hri htk
          obtain ⟨pl, rfl⟩ : ∃ pl : Nat, left = pl := ⟨left.toNat, by omega⟩
          have hpl : pl < G.syms.length := by omega
          have HT := Lib.hid (And.intro htk (And.intro hF hb))
          have HRI := Lib.hid (And.intro hri hri1)
          have hrl := hri.2.1
          have hbc := fun (i : Nat) (hi : i < L1.length) => bools_cell hb i hi
          have HBC := Lib.hid hbc
          have HFZ := Lib.hid (fun i => obj_frozen hb i)
          have c0 := bools_cell hb pl (by rw [hl2]; exact hpl)
          clear htk hF hri hri1 hS hbc hM hb
          generalize wr = wB at *
          go_wp2
          go_loopw [6, 7] (fun a i wq => ∃ k : Nat, k ≤ right.length ∧ i = .int .i64 (k : Int) ∧ a = .bool (allE L1 (right.take k)) ∧ wB = wq) (fun _ i _ => right.length - (intOf i).toNat)
          case atStart => exact ⟨0, Nat.zero_le _, rfl, rfl, rfl⟩
          case round =>
            obtain ⟨k, hk, rfl, rfl, rfl⟩ := hrel
            by_cases hltk : k < right.length
            · obtain ⟨rb, ro, rfl, -, -, r0, -⟩ := intsAt HRI.out.1 hltk
              have hx := HRI.out.2 _ (List.getElem_mem hltk)
              have ha := allE_take (L := L1) hltk
              generalize right[k] = x at *
              obtain ⟨xn, rfl⟩ : ∃ xn : Nat, x = xn := ⟨x.toNat, by omega⟩
              have hxl : xn < L1.length := by omega
              have r1 := HBC.out xn hxl
              have hxs : xn < G.syms.length := by omega
              have hxe : L1.getD (xn : Int).toNat false = L1[xn] := by rw [Int.toNat_natCast, List.getD_eq_getElem?_getD, List.getElem?_eq_getElem hxl]; rfl
              rw [hxe] at ha
              generalize L1[xn] = xv at *
              have HA := Lib.hid ha
              clear ha hxe hx
              cases ht : allE L1 (right.take k)
              · have HT2 := Lib.hid ht
                clear ht
                go_wp2
                go_roundw
                case rel => exact ⟨k + 1, by omega, by simp, by rw [HA.out, HT2.out]; rfl, trivial⟩
                case measure => simp [intOf]; omega
              · have HT2 := Lib.hid ht
                clear ht
                go_wp2
                go_roundw
                case rel => exact ⟨k + 1, by omega, by simp, by rw [HA.out, HT2.out]; rfl, trivial⟩
                case measure => simp [intOf]; omega
            · obtain rfl : k = right.length := by omega
              rw [List.take_length]
              clear hltk
              have f0 := HFZ.out pl
              have hq : nulStep (g1, L1) ⟨(pl : Int), right, prec, has, action, whr⟩ = if allE L1 right && !L1[pl]'(by omega) then (true, L1.set pl true) else (g1, L1) := by
                have hpl1 : pl < L1.length := by omega
                unfold nulStep
                simp only [Int.toNat_natCast]
                rw [List.getD_eq_getElem?_getD, List.getElem?_eq_getElem hpl1]
                rfl
              generalize L1[pl]'(by omega) = lpl at *
              cases hal : allE L1 right
              · rw [hal, Bool.false_and] at hq
                have HQ := Lib.hid (HT.out.1.trans hq)
                clear hq hal
                go_wp2
                go_roundw
                case rel => exact ⟨j + 1, by omega, by simp, by rw [HQ.out]; rfl, by rw [HQ.out]; exact HT.out.2.2, HT.out.2.1⟩
                case measure => simp [intOf]; omega
              · rw [hal, Bool.true_and] at hq
                cases lpl
                · have HQ := Lib.hid (HT.out.1.trans hq)
                  clear hq hal
                  go_wp2
                  go_roundw
                  case rel => exact ⟨j + 1, by omega, by simp, by rw [HQ.out]; rfl, by rw [HQ.out]; exact bools_set HT.out.2.2 _ _, HT.out.2.1.trans (Fr.setCell _ ⟨b, pl, none⟩ _)⟩
                  case measure => simp [intOf]; omega
                · have HQ := Lib.hid (HT.out.1.trans hq)
                  clear hq hal
                  go_wp2
                  go_roundw
                  case rel => exact ⟨j + 1, by omega, by simp, by rw [HQ.out]; rfl, by rw [HQ.out]; exact HT.out.2.2, HT.out.2.1⟩
                  case measure => simp [intOf]; omega
        · obtain rfl : j = G.prods.length := by omega
          rw [List.take_length] at hb ⊢
          have hcnt2 := outW_bools hb
          generalize hM : nulRound G.prods (false, L) = M at *
          obtain ⟨g1, L1⟩ := M
          simp only at hb hcnt2 HNX ⊢
          have HE := Lib.hid (And.intro hb (And.intro hF hcnt2))
          clear hb hF hcnt2 hS hlt hM
          go_wp2
          go_roundw
          case rel => exact ⟨g1, L1, rfl, HNX.out.2.1, HNX.out.1.1, HE.out.1, HE.out.2.1⟩
          case measure =>
            have h1 := HNX.out.1.2
            have h2 := HNX.out.2.2
            rw [HE.out.2.2, h2]
            simp only [boolOf, if_true]
            cases g1
            · simp
            · have := h1 rfl
              simp only [if_true]
              omega
end Go.Proofs.Ytpnihegmhalcfaa
namespace Go.Proofs.Ytpnihegmhalcfaa
open Go.RowKit
set_option maxHeartbeats 400000

def isRed (np : Nat) (a : Ent) : Prop := a.kind = 2 ∧ 1 ≤ a.to ∧ a.to < (np : Int)
instance (np : Nat) (a : Ent) : Decidable (isRed np a) := by unfold isRed; infer_instance
theorem reduce22_any (terms : Int) (vs : Value) (b : Option Addr) (np c : Nat) (a : Ent) (w : World) :
    Calls Try.prog 94 #[.agg #[.int .i64 terms, vs, .slice b np c], .agg #[.int .u8 a.kind, .int .i64 a.to]] w fun e w' => e = .returned (.bool (decide (isRed np a))) ∧ Below w.heap.size w w' := by
  obtain ⟨ak, av⟩ := a
  have hB := (two_boxes w (.cells #[.int .i64 terms, vs, .slice b np c] 25 (0, 0)) (.cells #[.int .u8 ak, .int .i64 av] 81 (0, 0))).2.2
  have HB := Lib.hid hB
  have e : decide (isRed np ⟨ak, av⟩) = (decide (ak = 2) && (decide (1 ≤ av) && decide (av < (np : Int)))) := by
    by_cases h1 : ak = 2 <;> by_cases h2 : 1 ≤ av <;> by_cases h3 : av < (np : Int) <;> simp [isRed, h1, h2, h3]
  rw [e]
  clear hB e
  obtain ⟨B1, b1⟩ : ∃ x, decide (ak = 2) = x := ⟨_, rfl⟩
  obtain ⟨B2, b2⟩ : ∃ x, decide (1 ≤ av) = x := ⟨_, rfl⟩
  obtain ⟨B3, b3⟩ : ∃ x, decide (av < (np : Int)) = x := ⟨_, rfl⟩
  rw [b1, b2, b3]
  have t1 : (ak == 2) = B1 := by rw [← b1]; rfl
  clear b1
  cases B1 <;> cases B2 <;> cases B3
  all_goals
    go_enter Try.func94, Try.ntmps94
    go_wp2
    go_ret
    exact ⟨rfl, HB.out⟩

/-- P22.1, as the document has it. -/
def pick22 (G : Gram) (t : Int) (a b : Ent) : Int × Bool :=
  if rightG G = true ∧ 0 ≤ t ∧ t < G.terms then
    if isRed G.prods.length a then
      if isRed G.prods.length b then (if b.to < a.to then 1 else 0, false)
      else if b.kind = 3 ∧ b.to = 0 ∧ t = 0 then (1, false)
      else if b.kind = 1 ∧ 0 ≤ b.to ∧ 0 < t then metE G t a.to 1 else (2, false)
    else
      if isRed G.prods.length b then
        if a.kind = 3 ∧ a.to = 0 ∧ t = 0 then (0, false)
        else if a.kind = 1 ∧ 0 ≤ a.to ∧ 0 < t then metE G t b.to 0 else (2, false)
      else (2, false)
  else (2, false)
theorem pick22_is (G : Gram) (t : Int) (a b : Ent) : pick22 G t a b = pickE G t a b := by
  obtain ⟨ak, av⟩ := a
  obtain ⟨bk, bv⟩ := b
  unfold pick22 pickE
  by_cases hg : rightG G = true ∧ 0 ≤ t ∧ t < G.terms
  · rw [if_pos hg]
    have hm : ∀ x y : Ent, mayE G.prods.length t [x, y] = true ↔ (okE G.prods.length t x = true ∧ okE G.prods.length t y = true ∧ (x.kind = 2 ∨ y.kind = 2)) := fun x y => by
      refine ⟨fun h => mayE_true h, fun h => ?_⟩
      unfold mayE cntK
      simp only [List.all_cons, List.all_nil, Bool.and_true, h.1, h.2.1, Bool.true_and, decide_eq_true_eq]
      rcases h.2.2 with h | h <;> by_cases h2 : y.kind = 2 <;> by_cases h3 : x.kind = 2 <;> simp_all
    have hm' := hm ⟨ak, av⟩ ⟨bk, bv⟩
    rw [okE_iff, okE_iff] at hm'
    simp only at hm'
    simp only [isRed, firstE]
    by_cases ha : ak = 2 ∧ 1 ≤ av ∧ av < (G.prods.length : Int)
    · rw [if_pos ha]
      by_cases hb : bk = 2 ∧ 1 ≤ bv ∧ bv < (G.prods.length : Int)
      · rw [if_pos hb, if_pos (show rightG G = true ∧ 0 ≤ t ∧ t < G.terms ∧ mayE G.prods.length t [⟨ak, av⟩, ⟨bk, bv⟩] = true from ⟨hg.1, hg.2.1, hg.2.2, hm'.2 (by omega)⟩), if_neg (show ¬ ak = 1 by omega), if_neg (show ¬ bk = 1 by omega)]
        by_cases hc : bv < av
        · have h1 : ¬ av ≤ bv := by omega
          simp [hc, h1, ha.1]
        · have h1 : av ≤ bv := by omega
          simp [hc, h1, hb.1]
      · rw [if_neg hb]
        by_cases hc : bk = 3 ∧ bv = 0 ∧ t = 0
        · rw [if_pos hc, if_pos (show rightG G = true ∧ 0 ≤ t ∧ t < G.terms ∧ mayE G.prods.length t [⟨ak, av⟩, ⟨bk, bv⟩] = true from ⟨hg.1, hg.2.1, hg.2.2, hm'.2 (by omega)⟩), if_neg (show ¬ ak = 1 by omega), if_neg (show ¬ bk = 1 by omega)]
          simp [ha.1, hc.1]
        · rw [if_neg hc]
          by_cases hd : bk = 1 ∧ 0 ≤ bv ∧ 0 < t
          · rw [if_pos hd, if_pos (show rightG G = true ∧ 0 ≤ t ∧ t < G.terms ∧ mayE G.prods.length t [⟨ak, av⟩, ⟨bk, bv⟩] = true from ⟨hg.1, hg.2.1, hg.2.2, hm'.2 (by omega)⟩), if_neg (show ¬ ak = 1 by omega), if_pos hd.1]
          · rw [if_neg hd, if_neg (show ¬ (rightG G = true ∧ 0 ≤ t ∧ t < G.terms ∧ mayE G.prods.length t [⟨ak, av⟩, ⟨bk, bv⟩] = true) from fun h => by have := hm'.1 h.2.2.2; omega)]
    · rw [if_neg ha]
      by_cases hb : bk = 2 ∧ 1 ≤ bv ∧ bv < (G.prods.length : Int)
      · rw [if_pos hb]
        by_cases hc : ak = 3 ∧ av = 0 ∧ t = 0
        · rw [if_pos hc, if_pos (show rightG G = true ∧ 0 ≤ t ∧ t < G.terms ∧ mayE G.prods.length t [⟨ak, av⟩, ⟨bk, bv⟩] = true from ⟨hg.1, hg.2.1, hg.2.2, hm'.2 (by omega)⟩), if_neg (show ¬ ak = 1 by omega), if_neg (show ¬ bk = 1 by omega)]
          simp [hc.1]
        · rw [if_neg hc]
          by_cases hd : ak = 1 ∧ 0 ≤ av ∧ 0 < t
          · rw [if_pos hd, if_pos (show rightG G = true ∧ 0 ≤ t ∧ t < G.terms ∧ mayE G.prods.length t [⟨ak, av⟩, ⟨bk, bv⟩] = true from ⟨hg.1, hg.2.1, hg.2.2, hm'.2 (by omega)⟩), if_pos hd.1]
          · rw [if_neg hd, if_neg (show ¬ (rightG G = true ∧ 0 ≤ t ∧ t < G.terms ∧ mayE G.prods.length t [⟨ak, av⟩, ⟨bk, bv⟩] = true) from fun h => by have := hm'.1 h.2.2.2; omega)]
      · rw [if_neg hb, if_neg (show ¬ (rightG G = true ∧ 0 ≤ t ∧ t < G.terms ∧ mayE G.prods.length t [⟨ak, av⟩, ⟨bk, bv⟩] = true) from fun h => by have := hm'.1 h.2.2.2; omega)]
  · rw [if_neg hg, if_neg (fun h => hg ⟨h.1, h.2.1, h.2.2.1⟩)]
end Go.Proofs.Ytpnihegmhalcfaa
