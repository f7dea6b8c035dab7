/-
  The document's answer on useless: all, Makes.
  gristmillref19: Collection, plain relations.
  The document's answer on conflicts: levels, a shift against a production.
-/
import Derived.Test.YtpnihegmhalcfaaRunG11
import Derived.Test.YtpnihegmhalcfaaRunG15
import Derived.Test.YtpnihegmhalcfaaRunG14
import Derived.Test.YtpnihegmhalcfaaRunG10
namespace Go.Proofs.Ytpnihegmhalcfaa
open Go.RowKit
set_option maxHeartbeats 400000

set_option maxRecDepth 100000 in
set_option maxHeartbeats 1000000 in
theorem all16_any (L : List Bool) (R : List Int) (b : Nat) (v : Value) (w : World) (hb : w.heap[b]? = some (boolsObj L)) (hv : Ints w v R) (hin : ∀ x ∈ R, 0 ≤ x ∧ x < L.length) :
    Calls Try.prog 99 #[.slice (some ⟨b, 0, none⟩) L.length L.length, v] w fun e w' => e = .returned (.bool (allE L R)) ∧ w = w' := by
  obtain ⟨_, hlen, a, cap, rfl, _, _, hx⟩ := hv
  go_enter Try.func99, Try.ntmps99
  go_wp2
  go_loopw [5] (fun i wr => ∃ k : Nat, k ≤ R.length ∧ i = .int .i64 k ∧ allE L (R.take k) = true ∧ w = wr) (fun i _ => R.length - (intOf i).toNat)
  case atStart => exact ⟨0, Nat.zero_le _, rfl, rfl, rfl⟩
  case round =>
    obtain ⟨k, hk, rfl, he, rfl⟩ := hrel
    have HE := Lib.hid he
    clear he
    by_cases hlt : k < R.length
    · obtain ⟨b', o, rfl, hcx⟩ : ∃ b' o, a = some ⟨b', o, none⟩ ∧ Cells w b' o (R.map (Value.int .i64)) := by
        rcases hx with rfl | h
        · simp at hlt
        · exact h
      have h1 := hcx k (by simpa using hlt)
      rw [List.getElem_map] at h1
      have hm := hin _ (List.getElem_mem hlt)
      have ht : allE L (R.take (k + 1)) = L.getD R[k].toNat false := by
        have := HE.out
        unfold allE at this ⊢
        rw [List.take_add_one, List.getElem?_eq_getElem hlt, List.all_append, this]
        simp
      have hf : L.getD R[k].toNat false = false → allE L R = false := by
        intro h
        unfold allE
        rw [List.all_eq_false]
        exact ⟨_, List.getElem_mem hlt, by simp only [h]; simp⟩
      generalize R[k] = m at *
      obtain ⟨m, rfl⟩ : ∃ n : Nat, m = (n : Int) := ⟨m.toNat, by omega⟩
      have hml : m < L.length := by omega
      have h2 := bools_cell hb m hml
      rw [Int.toNat_natCast, List.getD_eq_getElem?_getD, List.getElem?_eq_getElem hml, Option.getD_some] at ht hf
      generalize L[m] = c at *
      have HT := Lib.hid ht
      have HF := Lib.hid hf
      clear ht hf hcx hx hb hin
      cases c
      · go_wp2
        go_ret
        exact ⟨by rw [HF.out trivial]; rfl, rfl⟩
      · go_wp2
        go_roundw
        case rel => exact ⟨k + 1, by omega, by simp, HT.out, trivial⟩
        case measure => simp [intOf]; omega
    · obtain rfl : k = R.length := by omega
      have hfin := HE.out
      rw [List.take_length] at hfin
      have HF := Lib.hid hfin
      clear hlt hfin
      go_wp2
      go_ret
      exact ⟨by rw [HF.out]; rfl, rfl⟩

/-- A production that stands in a row, in memory. -/
theorem IsGram.prd {w : World} {G : Gram} {s : Value} {pa : Option Addr} {n pc : Nat} (h : IsGram w (.agg #[.int .i64 G.terms, s, .slice pa n pc]) G) (k : Nat) (hk : k < G.prods.length) :
    ∃ b o ra rc, pa = some ⟨b, o, none⟩ ∧ Ints w (.slice ra G.prods[k].right.length rc) G.prods[k].right ∧ IsPrd w (prdVal G.prods[k] (.slice ra G.prods[k].right.length rc)) G.prods[k] ∧ Cells w b (o + k * 6) (prdCells G.prods[k] (.slice ra G.prods[k].right.length rc)) := by
  obtain ⟨_, vs', vp', hv', _, hps⟩ := h
  simp only [Value.agg.injEq, Array.mk.injEq, List.cons.injEq, and_true, true_and] at hv'
  obtain ⟨rfl, rfl⟩ := hv'
  obtain ⟨b, o, ra, rc, rfl, hq, hcx⟩ := hps.get k hk
  obtain ⟨ok, r, hr, hv⟩ := id hq
  unfold prdVal at hv
  simp only [Value.agg.injEq, Array.mk.injEq, List.cons.injEq, and_true, true_and] at hv
  exact ⟨b, o, ra, rc, rfl, hv ▸ hr, hq, hcx⟩

set_option maxRecDepth 100000 in
set_option maxHeartbeats 4000000 in
theorem makes16_any (G : Gram) (v : Value) (w : World) (h : IsGram w v G) :
    Calls Try.prog 89 #[v] w fun e w' => ∃ r, e = .returned r ∧ AnsB w w' r (rightG G) (makesL G) := by
  have hG := h
  obtain ⟨hterms, vs, vp, rfl, hs, hp⟩ := h
  obtain ⟨_, sa, sc, rfl, _, _, _⟩ := id hs
  obtain ⟨_, pa, pc, rfl, _, _, _⟩ := id hp
  have HO := Lib.hid (alloc_obj w (Obj.cells #[.int .i64 G.terms, .slice sa G.syms.length sc, .slice pa G.prods.length pc] 25 (0, 0)))
  have HB1 := Lib.hid ((Below.refl _ w).alloc (Nat.le_refl _) (Obj.cells #[.int .i64 G.terms, .slice sa G.syms.length sc, .slice pa G.prods.length pc] 25 (0, 0)))
  have HG := Lib.hid hG
  have HR := Lib.hid (right14_gram G _ _ (hG.fr (Fr.new HB1.out)))
  clear hG hs hp
  cases hr : rightG G
  · rw [hr] at HR
    go_enter Try.func89, Try.ntmps89
    go_wp2_with (go_at_call 48; refine HR.out.mono ?_; rintro e w2 ⟨rfl, hb2⟩)
    go_ret
    exact ⟨_, rfl, .inr ⟨rfl, rfl, HB1.out.trans (hb2.mono HB1.out.size)⟩⟩
  · have hin := right_in hr
    obtain ⟨⟨ht0, ht1, hn0, hn1, _, _⟩, _, _⟩ := rightG_parts hr
    obtain ⟨i0, hi, hz0, hz1, hz2⟩ := info_parts Try.infoBool
    have hfin := rounds_makes hin
    have HFIN := Lib.hid hfin
    have HIN := Lib.hid hin
    have HLEN := Lib.hid fun k => (rounds_law (good_mk hin) (L0 := initM G.syms.length G.terms.toNat) (by simp [initM]) k).1
    have HGD := Lib.hid (good_mk hin)
    rw [hr] at HR
    clear hr hfin hin
    obtain ⟨tn, htn⟩ : ∃ tn : Nat, G.terms = (tn : Int) := ⟨G.terms.toNat, by omega⟩
    have htn' : G.terms.toNat = tn := by omega
    have HTN := Lib.hid htn
    have htnl : tn < G.syms.length := by omega
    clear htn
    rw [htn'] at HFIN HLEN
    go_enter Try.func89, Try.ntmps89
    go_upto_region 4 with (first
      | (go_at_call 48; refine HR.out.mono ?_; rintro e w2 ⟨rfl, hb2⟩; have hB2 := HB1.out.trans (hb2.mono HB1.out.size); have hO2 := (Fr.new hb2).obj HO.out fun e => e; have d1 : w2.cell? ⟨w.heap.size, 1, none⟩ = some (.slice sa G.syms.length sc) := obj_cell hO2 1 rfl)
      | (at_make; refine wpList_make_full _ rfl _ _ 118 rfl w2.heap.size 4 i0 (.bool false) 1 Try.underlying118 hi hz0 hz1 .i64 .i64 _ _ G.syms.length rfl rfl rfl rfl (by rw [hz2]; omega) (by unfold maxLen; omega) (Nat.le_refl _) ?_; intro W hown hgrow))
    have hb := made_bools hown
    rw [initM_zero] at hb
    have hF2 := Fr.grown hgrow
    have hOW := hF2.obj hO2 (fun e => by cases e)
    have hBW : Below w.heap.size w W := hB2.grown hgrow hB2.size (fun k e => by cases e)
    have hlt0 : w.heap.size < w2.heap.size := (Array.getElem?_eq_some_iff.1 hO2).1
    have HO2 := Lib.hid hOW
    have HBW := Lib.hid hBW
    have HB := Lib.hid hb
    clear hown hgrow hb hF2 hOW hBW hO2 hb2 hB2 d1 HR HO HB1
    generalize w2.heap.size = b at *
    go_wp2
    go_loopw [4] (fun i wr => ∃ k : Nat, k ≤ tn ∧ i = .int .i64 k ∧ wr.heap[b]? = some (boolsObj (initM G.syms.length k)) ∧ Fr (only b) W wr) (fun i _ => tn - (intOf i).toNat)
    case atStart => exact ⟨0, Nat.zero_le _, rfl, HB.out, Fr.refl _ _⟩
    case round =>
      obtain ⟨k, hk, rfl, hbk, hF⟩ := hrel
      clear HB
      have hO := hF.obj HO2.out (show ¬ only b w.heap.size from fun e => by have e' : w.heap.size = b := e; omega)
      have d0 : wr.cell? ⟨w.heap.size, 0, none⟩ = some (.int .i64 G.terms) := obj_cell hO 0 rfl
      have HBK := Lib.hid (And.intro hbk hF)
      by_cases hlt : k < tn
      · have ht : decide ((k : Int) < G.terms) = true := decide_eq_true (by have := HTN.out; omega)
        have c0 := bools_cell hbk k (by simp [initM]; omega)
        have f0 := obj_frozen hbk k
        clear hbk hF hO
        go_wp2
        go_roundw
        case rel => exact ⟨k + 1, by omega, by simp, by rw [← initM_set (by omega)]; exact bools_set HBK.out.1 _ _, HBK.out.2.trans (Fr.setCell _ ⟨b, k, none⟩ _)⟩
        case measure => simp [intOf]; omega
      · obtain rfl : k = tn := by omega
        have ht : decide ((k : Int) < G.terms) = false := decide_eq_false (by have := HTN.out; omega)
        clear hbk hF hO hlt
        go_wp2
        go_loopw [5, 6] (fun i _ wq => ∃ r : Nat, r ≤ G.syms.length ∧ i = .int .i64 r ∧ wq.heap[b]? = some (boolsObj (roundsF mkStep G.prods r (initM G.syms.length k))) ∧ Fr (only b) W wq) (fun i _ _ => G.syms.length - (intOf i).toNat)
        case atStart => exact ⟨0, Nat.zero_le _, rfl, HBK.out.1, HBK.out.2⟩
        case round =>
          obtain ⟨r, hr, rfl, hbr, hFr⟩ := hrel
          clear HBK d0
          have hO := hFr.obj HO2.out (show ¬ only b w.heap.size from fun e => by have e' : w.heap.size = b := e; omega)
          have d1 : wr.cell? ⟨w.heap.size, 1, none⟩ = some (.slice sa G.syms.length sc) := obj_cell hO 1 rfl
          have HBR := Lib.hid (And.intro hbr hFr)
          by_cases hltr : r < G.syms.length
          · clear hbr hFr hO
            have HBR' := HBR.out
            generalize wr = wA at *
            go_wp2
            go_loopw [6] (fun i wq => ∃ j : Nat, j ≤ G.prods.length ∧ i = .int .i64 j ∧ wq.heap[b]? = some (boolsObj (passTo mkStep G.prods j (roundsF mkStep G.prods r (initM G.syms.length k)))) ∧ Fr (only b) W wq) (fun i _ => G.prods.length - (intOf i).toNat)
            case atStart => exact ⟨0, Nat.zero_le _, rfl, HBR'.1, HBR'.2⟩
            case round =>
              obtain ⟨j, hj, rfl, hbj, hFj⟩ := hrel
              clear HBR' d1
              have hO := hFj.obj HO2.out (show ¬ only b w.heap.size from fun e => by have e' : w.heap.size = b := e; omega)
              have d2 : wr.cell? ⟨w.heap.size, 2, none⟩ = some (.slice pa G.prods.length pc) := obj_cell hO 2 rfl
              have HBJ := Lib.hid (And.intro hbj hFj)
              by_cases hltj : j < G.prods.length
              · have hBw : Below w.heap.size w wr := HBW.out.trans (hFj.below HBW.out.size fun g e => by have e' : g = b := e; omega)
                obtain ⟨pb, po, ra, rc, rfl, hints, _, hcx⟩ := HG.out.prd j hltj
                have hinp := HIN.out _ (List.getElem_mem hltj)
                have hnx := passTo_succ mkStep G.prods j (roundsF mkStep G.prods r (initM G.syms.length k)) hltj
                rw [mk_step] at hnx
                have hlenj : (passTo mkStep G.prods j (roundsF mkStep G.prods r (initM G.syms.length k))).length = G.syms.length := (round_sub HGD.out (G.prods.take j) _ (fun p hp => List.mem_of_mem_take hp) (HLEN.out r)).1
                generalize passTo mkStep G.prods j (roundsF mkStep G.prods r (initM G.syms.length k)) = L at *
                have x0 := (Fr.new hBw).cell (hcx 0 (by simp [prdCells])) fun e => e
                have x1 := (Fr.new hBw).cell (hcx 1 (by simp [prdCells])) fun e => e
                simp only [prdCells, List.getElem_cons_zero, List.getElem_cons_succ, Nat.add_zero] at x0 x1
                generalize G.prods[j] = q at *
                obtain ⟨left, right, prec, has, action, whr⟩ := q
                obtain ⟨⟨hl0, hl1⟩, hri⟩ := hinp
                simp only at hl0 hl1 hri x0 x1 hnx hints
                obtain ⟨pl, rfl⟩ : ∃ pl : Nat, left = pl := ⟨left.toNat, by omega⟩
                rw [Int.toNat_natCast] at hnx
                have hpl : pl < G.syms.length := by omega
                have HA := Lib.hid (all16_any L right b _ wr hbj (hints.fr (Fr.new hBw)) (by rw [hlenj]; exact hri))
                rw [hlenj] at HA
                have hpl2 : pl < L.length := by rw [hlenj]; exact hpl
                have c0 := bools_cell hbj pl hpl2
                have f0 := obj_frozen hbj pl
                have HNX := Lib.hid hnx
                generalize L[pl] = lpl at c0
                clear hnx hbj hFj hO hBw hcx hints hri hlenj hpl2
                cases hal : allE L right
                · rw [hal] at HA
                  have HAL := Lib.hid hal
                  clear hal
                  go_wp2_with (go_at_call 99; refine HA.out.mono ?_; rintro e w' ⟨rfl, rfl⟩)
                  go_roundw
                  case rel => exact ⟨j + 1, by omega, by simp, by rw [HNX.out, HAL.out]; exact HBJ.out.1, HBJ.out.2⟩
                  case measure => simp [intOf]; omega
                · rw [hal] at HA
                  have HAL := Lib.hid hal
                  clear hal
                  go_wp2_with (go_at_call 99; refine HA.out.mono ?_; rintro e w' ⟨rfl, rfl⟩)
                  go_roundw
                  case rel => exact ⟨j + 1, by omega, by simp, by rw [HNX.out, HAL.out]; exact bools_set HBJ.out.1 _ _, HBJ.out.2.trans (Fr.setCell _ ⟨b, pl, none⟩ _)⟩
                  case measure => simp [intOf]; omega
              · obtain rfl : j = G.prods.length := by omega
                clear hbj hFj hO hltj
                go_wp2
                go_roundw
                case rel => exact ⟨r + 1, by omega, by simp, HBJ.out.1.trans (congrArg (fun l => some (boolsObj l)) (roundsF_succ mkStep G.prods r _).symm), HBJ.out.2⟩
                case measure => simp [intOf]; omega
          · obtain rfl : r = G.syms.length := by omega
            clear hbr hFr hO hltr
            go_wp2
            go_ret
            refine ⟨_, rfl, .inl ⟨rfl, b, by rw [makesL_len]; rfl, by omega, by rw [← HFIN.out]; exact HBR.out.1, HBW.out.trans (HBR.out.2.below HBW.out.size fun g e => by have e' : g = b := e; omega)⟩⟩
end Go.Proofs.Ytpnihegmhalcfaa
namespace Go.Proofs.Ytpnihegmhalcfaa
open Go.RowKit Go.MapKept Go.ChangeMaps
set_option maxHeartbeats 400000

/-- The states at a round's head. -/
structure ColR (G : Gram) (w : World) (B k : Nat) (lv : Value) (vs : List (Value × Value)) (ks : List (List It)) (gs : List (List (Int × Int))) : Prop where
  sts : StsR w B lv vs ks (gs ++ List.replicate (ks.length - k) [])
  lg : gs.length = k
  lk : k ≤ ks.length
  le : ks.length ≤ 256
  ok : KOk G ks
  go : colGo G (257 - k) k ks gs = colI G
/-- The states in a round: the symbols up to s have been gone through. -/
structure InR (G : Gram) (L : List It) (w : World) (B k : Nat) (av : Value) (gs : List (List (Int × Int))) (s : Nat) (lv : Value) (vs : List (Value × Value)) (ks : List (List It)) (es : List (Int × Int)) : Prop where
  sts : StsR w B lv vs ks (gs ++ [es] ++ List.replicate (ks.length - (k + 1)) [])
  all : OwnI w B av L
  lk : k < ks.length
  le : ks.length ≤ 256
  ok : KOk G ks
  lg : gs.length = k
  ln : es.length ≤ s
  go : colI G = match edgesGo G L ((symsI G).drop s) ks es with
    | none => none
    | some (ks', es') => colGo G (257 - (k + 1)) (k + 1) ks' (gs ++ [es'])
theorem colR_none {G : Gram} {w : World} {B k : Nat} {lv : Value} {vs : List (Value × Value)} {ks : List (List It)} {gs : List (List (Int × Int))} (h : ColR G w B k lv vs ks gs) (hk : ¬ k < ks.length) : colI G = some (ks, gs) ∧ StsR w B lv vs ks gs := by
  obtain ⟨h1, h2, h3, h4, h5, h6⟩ := h
  have : k = ks.length := by omega
  subst this
  rw [Nat.sub_self, List.replicate_zero, List.append_nil] at h1
  refine ⟨?_, h1⟩
  rw [← h6, show 257 - ks.length = (256 - ks.length) + 1 by omega]
  unfold colGo
  rw [List.getElem?_eq_none (Nat.le_refl _)]
theorem colR_start {G : Gram} {w w' : World} {B k : Nat} {lv av : Value} {vs : List (Value × Value)} {ks : List (List It)} {gs : List (List (Int × Int))} {L : List It} (h : ColR G w B k lv vs ks gs) (hk : k < ks.length) (hF : Fr nothing w w') (hL : L = cloL G ks[k]) (ha : OwnI w' B av L) : InR G L w' B k av gs 0 lv vs ks [] := by
  have h4 := h.le
  have hm := h.sts.fr hF
  refine ⟨?_, ha, hk, h4, h.ok, h.lg, Nat.le_refl _, ?_⟩
  · rw [rep_succ (show ks.length - k = (ks.length - (k + 1)) + 1 by omega)] at hm
    simpa using hm
  · rw [← h.go, show 257 - k = (257 - (k + 1)) + 1 by omega, List.drop_zero, hL]
    conv => lhs; unfold colGo
    rw [List.getElem?_eq_getElem hk]
    rfl
theorem inR_end {G : Gram} {L : List It} {w : World} {B k s : Nat} {av lv : Value} {gs : List (List (Int × Int))} {vs : List (Value × Value)} {ks : List (List It)} {es : List (Int × Int)} (h : InR G L w B k av gs s lv vs ks es) (hs : G.syms.length ≤ s) : ColR G w B (k + 1) lv vs ks (gs ++ [es]) := by
  have h1 := h.go
  rw [List.drop_eq_nil_of_le (by rw [symsI, List.length_map, List.length_range]; exact hs)] at h1
  exact ⟨h.sts, by simp [h.lg], h.lk, h.le, h.ok, h1.symm⟩
theorem symsI_drop' {G : Gram} {s : Nat} (hs : s < G.syms.length) : (symsI G).drop s = (s : Int) :: (symsI G).drop (s + 1) := by
  rw [List.drop_eq_getElem_cons (by rw [symsI, List.length_map, List.length_range]; exact hs)]
  simp [symsI]
theorem inR_skip {G : Gram} {L : List It} {w w' : World} {B k s : Nat} {av lv : Value} {gs : List (List (Int × Int))} {vs : List (Value × Value)} {ks : List (List It)} {es : List (Int × Int)} (h : InR G L w B k av gs s lv vs ks es) (hs : s < G.syms.length) (hF : Fr nothing w w') (ho : onI G L (s : Int) = []) : InR G L w' B k av gs (s + 1) lv vs ks es := by
  refine ⟨h.sts.fr hF, own_fr h.all hF fun _ _ => id, h.lk, h.le, h.ok, h.lg, by have := h.ln; omega, ?_⟩
  have h1 := h.go
  rw [symsI_drop' hs] at h1
  unfold edgesGo at h1
  rwa [if_pos ho] at h1
theorem inR_many {G : Gram} {L : List It} {w : World} {B k s : Nat} {av lv : Value} {gs : List (List (Int × Int))} {vs : List (Value × Value)} {ks : List (List It)} {es : List (Int × Int)} (h : InR G L w B k av gs s lv vs ks es) (hs : s < G.syms.length) (ho : onI G L (s : Int) ≠ []) (hp : putK ks (onI G L (s : Int)) = none) : colI G = none := by
  rw [h.go, symsI_drop' hs]
  unfold edgesGo
  rw [if_neg ho, hp]
theorem putK_old {ks : List (List It)} {M : List It} {t : Nat} (ht : t < ks.length) (hM : ks[t] = M) (hn : ∀ j (h : j < ks.length), j < t → ks[j] ≠ M) : putK ks M = some (t, ks) := by
  have : ks.findIdx? (fun x => decide (x = M)) = some t := List.findIdx?_eq_some_iff_getElem.2 ⟨ht, decide_eq_true hM, fun j hj => by simpa using hn j (by omega) hj⟩
  unfold putK
  rw [this]
theorem putK_no {ks : List (List It)} {M : List It} (hn : ∀ j (h : j < ks.length), ks[j] ≠ M) : putK ks M = if ks.length = 256 then none else some (ks.length, ks ++ [M]) := by
  have : ks.findIdx? (fun x => decide (x = M)) = none := List.findIdx?_eq_none_iff.2 fun x hx => by
    obtain ⟨i, hi, rfl⟩ := List.getElem_of_mem hx
    simpa using hn i hi
  unfold putK
  rw [this]
/-- An edge behind state k's, the state it leads to laid or not: what is reckoned. -/
theorem inR_go {G : Gram} {L : List It} {w : World} {B k s c : Nat} {av lv : Value} {gs : List (List (Int × Int))} {vs : List (Value × Value)} {ks ks1 : List (List It)} {es : List (Int × Int)} (h : InR G L w B k av gs s lv vs ks es) (hs : s < G.syms.length) (ho : onI G L (s : Int) ≠ []) (hp : putK ks (onI G L (s : Int)) = some (c, ks1)) :
    colI G = match edgesGo G L ((symsI G).drop (s + 1)) ks1 (es ++ [((s : Int), (c : Int))]) with
    | none => none
    | some (ks', es') => colGo G (257 - (k + 1)) (k + 1) ks' (gs ++ [es']) := by
  have h1 := h.go
  rw [symsI_drop' hs] at h1
  unfold edgesGo at h1
  rw [if_neg ho, hp] at h1
  exact h1
/-- The same in memory: w5, the state laid; w4, w6: the edge. -/
theorem inR_edge {G : Gram} {L : List It} {w5 w0 w4 w6 : World} {B k s c lb n cp g cap : Nat} {av : Value} {gs : List (List (Int × Int))} {vs5 : List (Value × Value)} {ks1 : List (List It)} {es : List (Int × Int)}
    (hst : StsR w5 B (.slice (some ⟨lb, 0, none⟩) n cp) vs5 ks1 (gs ++ [es] ++ List.replicate (ks1.length - (k + 1)) [])) (hall : OwnI w5 B av L) (hlg : gs.length = k) (hln : es.length ≤ s)
    (hk1 : k < vs5.length) (hle1 : ks1.length ≤ 256) (hok1 : KOk G ks1) (hn : vs5.length = n) (k0 : Fr nothing w5 w0)
    (hown : w4.ownsRow B 111 2 (.slice (some ⟨g, 0, none⟩) (es.length + 1) cap) (es.length + 1) (es.flatMap encI ++ [.int .i64 (s : Int), .int .i64 (c : Int)])) (hgrow : w0.grownBy w4 vs5[k].2.ownBlock) (hat : vs5[k].2.ownBlock = some g ∨ w5.heap.size ≤ g)
    (h6 : w6 = w4.setCell ⟨lb, k * 2 + 1, none⟩ (.slice (some ⟨g, 0, none⟩) (es.length + 1) cap))
    (hgo : colI G = match edgesGo G L ((symsI G).drop (s + 1)) ks1 (es ++ [((s : Int), (c : Int))]) with
    | none => none
    | some (ks', es') => colGo G (257 - (k + 1)) (k + 1) ks' (gs ++ [es'])) :
    InR G L w6 B k av gs (s + 1) (.slice (some ⟨lb, 0, none⟩) n cp) (vs5.set k (vs5[k].1, .slice (some ⟨g, 0, none⟩) (es.length + 1) cap)) ks1 (es ++ [((s : Int), (c : Int))]) ∧ Fr (from_ B) w5 w6 := by
  have hE := mid_get hlg es (List.replicate (ks1.length - (k + 1)) [])
  obtain ⟨e1, e2⟩ := hst.edge (x := (s : Int)) (t := (c : Int)) (g := g) (cap := cap) (w0 := w0) (w4 := w4) hn hk1 k0 (by rw [hE]; exact hown) hgrow hat
  rw [hE, mid_set hlg] at e1
  rw [hE] at e2
  rw [← h6] at e1 e2
  obtain ⟨hbl, csl, hlb⟩ := ownObj hst.own lb rfl
  have hgo' := ownObj (hst.edg k hk1)
  refine ⟨⟨e1, own_fr hall e2 fun q hq hc => ?_, by rw [hst.lk]; exact hk1, hle1, hok1, hlg, by simp; omega, hgo⟩, e2.mono fun q _ hc => ?_⟩
  · obtain ⟨_, cs, hcs⟩ := ownObj hall q hq
    rcases hc with rfl | hc
    · rw [hlb] at hcs
      simp only [Option.some.injEq, Obj.cells.injEq] at hcs
      exact absurd hcs.2.1 (by decide)
    · obtain ⟨_, cs', hcs'⟩ := hgo' q hc
      rw [hcs'] at hcs
      simp only [Option.some.injEq, Obj.cells.injEq] at hcs
      exact absurd hcs.2.1 (by decide)
  · show B ≤ q
    rcases hc with rfl | hc
    · exact hbl
    · exact (hgo' q hc).1
end Go.Proofs.Ytpnihegmhalcfaa
namespace Go.Proofs.Ytpnihegmhalcfaa
open Go.RowKit
set_option maxHeartbeats 400000

theorem level22_any (G : Gram) (s : Int) (v : Value) (w : World) (h : IsGram w v G) (hs : s < (G.syms.length : Int)) (ht : G.terms ≤ (G.syms.length : Int)) :
    Calls Try.prog 103 #[v, .int .i64 s] w fun e w' => e = .returned (.int .i64 (if s < 1 ∨ G.terms ≤ s then 0 else levelE G s)) ∧ Below w.heap.size w w' := by
  obtain ⟨hterms, vs, vp, rfl, hvs, hvp⟩ := h
  have hsy := hvs
  obtain ⟨_, sa, sc, rfl, hz1⟩ := hvs
  obtain ⟨_, pa, pc, rfl, hz2⟩ := hvp
  clear hz1 hz2
  obtain ⟨terms, syms, prods⟩ := G
  simp only at hsy hs ht
  simp only
  by_cases h1 : s < 1
  · have t1 : decide (s < 1) = true := by simp [h1]
    rw [if_pos (.inl h1)]
    clear hsy
    go_enter Try.func103, Try.ntmps103
    go_wp2
    go_ret
    exact ⟨rfl, (Below.refl _ _).alloc (Nat.le_refl _) _⟩
  · have t1 : decide (s < 1) = false := by simp [h1]
    by_cases h2 : terms ≤ s
    · have t2 : decide (terms ≤ s) = true := by simp [h2]
      rw [if_pos (.inr h2)]
      clear hsy
      go_enter Try.func103, Try.ntmps103
      go_wp2
      go_ret
      exact ⟨rfl, (Below.refl _ _).alloc (Nat.le_refl _) _⟩
    · have t2 : decide (terms ≤ s) = false := by simp [h2]
      rw [if_neg (by omega)]
      obtain ⟨k, rfl⟩ : ∃ k : Nat, s = (k : Int) := ⟨s.toNat, by omega⟩
      have hk : k < syms.length := by omega
      obtain ⟨g, o, rfl, ok, hc⟩ := hsy.get k hk
      have e : levelE ⟨terms, syms, prods⟩ (k : Int) = syms[k].level := by
        simp [levelE, List.getElem?_eq_getElem hk]
        omega
      rw [e]
      clear e
      have c2 := (Fr.alloc (ch := nothing) w (.cells #[.int .i64 terms, .slice (some ⟨g, o, none⟩) syms.length sc, .slice pa prods.length pc] 25 (0, 0))).cell (hc 2 (by simp [symCells])) fun e => e
      simp only [symCells, List.getElem_cons_zero, List.getElem_cons_succ] at c2
      generalize syms[k].level = x at *
      clear hc ok hsy
      go_enter Try.func103, Try.ntmps103
      go_wp2
      go_ret
      exact ⟨rfl, (Below.refl _ _).alloc (Nat.le_refl _) _⟩

def whoByte (u : Int) : Int := if u = 0 then 115 else if u = 1 then 114 else 0
def lev22 (G : Gram) (s : Int) : Int := if s < 1 ∨ G.terms ≤ s then 0 else levelE G s
theorem lev22_term {G : Gram} (h : rightG G = true) (t : Nat) (ht : (t : Int) < G.terms) : lev22 G t = levelE G t := by
  unfold lev22
  by_cases h0 : t = 0
  · subst h0
    obtain ⟨⟨_, _, hl, _, _, _⟩, _, _⟩ := rightG_parts h
    have hs : 0 < G.syms.length := by omega
    have := (right_sym h 0 hs).2.2.2.2 rfl
    rw [if_pos (.inl (by decide))]
    simp [levelE, List.getElem?_eq_getElem hs, this]
  · rw [if_neg (by omega)]
theorem lev22_prec {G : Gram} (h : rightG G = true) (k : Nat) (hk : k < G.prods.length) : lev22 G (precE G k) = levelE G (precE G k) := by
  have e : precE G k = G.prods[k].prec := by simp [precE, List.getElem?_eq_getElem hk]
  rw [e]
  unfold lev22
  rcases right_prod h k hk with h1 | ⟨h1, h2⟩
  · rw [h1]
    rfl
  · rw [if_neg (by omega)]

theorem againstE_eq (la ac : Int) (h : la ≠ 0) : againstE la la ac = (bindsE ac, true) := by
  rw [againstE, if_neg (fun e => e.elim h h), if_neg (Int.lt_irrefl _), if_neg (Int.lt_irrefl _)]
set_option maxRecDepth 100000 in
set_option maxHeartbeats 2000000 in
theorem shift22_any (G : Gram) (t k : Nat) (v : Value) (w : World) (h : IsGram w v G) (hr : rightG G = true) (ht : (t : Int) < G.terms) (hk : k < G.prods.length) :
    Calls Try.prog 95 #[v, .int .i64 t, .int .i64 k] w fun e w' =>
      e = .returned (.tuple #[.int .u8 (whoByte (againstE (levelE G t) (levelE G (precE G k)) (assocE G t)).1), .bool (againstE (levelE G t) (levelE G (precE G k)) (assocE G t)).2]) ∧ Below w.heap.size w w' := by
  obtain ⟨⟨_, _, hl, _, _, _⟩, _, _⟩ := rightG_parts hr
  have hts : t < G.syms.length := by omega
  have hpr := right_prod hr k hk
  have hsy := right_sym hr t hts
  have e1 := lev22_term hr t ht
  have e2 := lev22_prec hr k hk
  have e3 : precE G k = G.prods[k].prec := by simp [precE, List.getElem?_eq_getElem hk]
  have e4 : assocE G t = G.syms[t].assoc := by simp [assocE, List.getElem?_eq_getElem hts]
  have hg := h
  obtain ⟨hterms, vs, vp, rfl, hvs, hvp⟩ := h
  obtain ⟨_, b, c, rfl, hz1⟩ := id hvs
  obtain ⟨_, b', c', rfl, hz2⟩ := id hvp
  clear hz1 hz2
  obtain ⟨g, o, rfl, ok, hc⟩ := hvs.get t hts
  obtain ⟨g', o', ra, rc, rfl, hq, hqc⟩ := hvp.get k hk
  have hLt := fun (x : World) (hx : Fr nothing w x) => level22_any G t _ x (hg.fr hx) (by omega) (by omega)
  have hLp := fun (x : World) (hx : Fr nothing w x) => level22_any G G.prods[k].prec _ x (hg.fr hx) (by omega) (by omega)
  have c3 := hc 3 (by simp [symCells])
  have q2 := hqc 2 (by simp [prdCells])
  simp only [symCells, prdCells, List.getElem_cons_zero, List.getElem_cons_succ] at c3 q2
  unfold lev22 at e1 e2
  rw [e3] at e2
  rw [e1] at hLt
  rw [e2] at hLp
  rw [e3, e4]
  generalize levelE G t = la at *
  generalize levelE G G.prods[k].prec = lb at *
  have hac1 := ok.assoc.1
  have hac2 := hsy.2.1
  clear hsy hpr e1 e2 e3 e4 hq hg ok hr
  generalize G.syms[t].assoc = ac at *
  generalize G.prods[k].prec = pr at *
  have hw1 := alloc_obj w (.cells #[.int .i64 G.terms, .slice (some ⟨g, o, none⟩) G.syms.length c, .slice (some ⟨g', o', none⟩) G.prods.length c'] 25 (0, 0))
  obtain ⟨w1, e1⟩ : ∃ w1, w1 = w.alloc (.cells #[.int .i64 G.terms, .slice (some ⟨g, o, none⟩) G.syms.length c, .slice (some ⟨g', o', none⟩) G.prods.length c'] 25 (0, 0)) := ⟨_, rfl⟩
  rw [← e1] at hw1
  have hB1 : Below w.heap.size w w1 := by rw [e1]; exact (Below.refl _ w).alloc (Nat.le_refl _) _
  have HA := Lib.hid fun p : After w1 => after_call p (hLt p.w ((Fr.new hB1).trans (Fr.new p.ok)))
  have HB := Lib.hid fun p : After w1 => after_call p (hLp p.w ((Fr.new hB1).trans (Fr.new p.ok)))
  have m0 : ∀ p : After w1, p.w.cell? ⟨w.heap.size, 0, none⟩ = some (.int .i64 G.terms) := after_obj hw1 0 rfl
  have m1 : ∀ p : After w1, p.w.cell? ⟨w.heap.size, 1, none⟩ = some (.slice (some ⟨g, o, none⟩) G.syms.length c) := after_obj hw1 1 rfl
  have m2 : ∀ p : After w1, p.w.cell? ⟨w.heap.size, 2, none⟩ = some (.slice (some ⟨g', o', none⟩) G.prods.length c') := after_obj hw1 2 rfl
  have r2 := after_cell ((Fr.new hB1).cell q2 fun e => e)
  have r3 := after_cell ((Fr.new hB1).cell c3 fun e => e)
  have hne := after_ne w1
  have HW := Lib.hid e1
  have HBB := Lib.hid hB1
  clear hLt hLp hc hqc c3 q2 hw1 e1 hB1 hvs hvp
  generalize G.syms.length = ns at *
  generalize G.prods.length = np at *
  have hcase : (la = 0) ∨ (la ≠ 0 ∧ lb = 0) ∨ (la ≠ 0 ∧ lb ≠ 0 ∧ lb < la) ∨ (la ≠ 0 ∧ lb ≠ 0 ∧ la < lb) ∨ (la ≠ 0 ∧ lb ≠ 0 ∧ la = lb) := by omega
  have hac : ac = 0 ∨ ac = 1 ∨ ac = 2 ∨ ac = 3 := by omega
  clear hac1 hac2
  rcases hcase with rfl | ⟨a1, rfl⟩ | ⟨a1, a2, a3⟩ | ⟨a1, a2, a3⟩ | ⟨a1, a2, rfl⟩
  · clear hac
    go_enter Try.func95, Try.ntmps95
    go_wp2_with fail
    refine wp_region_after w1 (by kernel_rfl) (by kernel_rfl) (by rw [HW.out]; exact Below.refl _ _) ?_
    repeat (go_big_quiet_step (first | with_reducible exact HA.out _ | with_reducible exact HB.out _))
    refine wpQuiet_nil ?_
    intro _ hw'
    obtain ⟨p, hw''⟩ := hw'
    subst hw''
    have HE := Lib.hid (HBB.out.trans (p.ok.mono HBB.out.size))
    go_wp2
    go_ret2
    exact ⟨rfl, HE.out⟩
  · have t1 : (la == 0) = false := by simp [a1]
    clear hac
    go_enter Try.func95, Try.ntmps95
    go_wp2_with fail
    refine wp_region_after w1 (by kernel_rfl) (by kernel_rfl) (by rw [HW.out]; exact Below.refl _ _) ?_
    repeat (go_big_quiet_step (first | with_reducible exact HA.out _ | with_reducible exact HB.out _))
    refine wpQuiet_nil ?_
    intro _ hw'
    obtain ⟨p, hw''⟩ := hw'
    subst hw''
    have HE := Lib.hid (HBB.out.trans (p.ok.mono HBB.out.size))
    go_wp2
    go_ret2
    have e : againstE la 0 ac = (0, false) := by rw [againstE, if_pos (.inr rfl)]
    exact ⟨by rw [e]; rfl, HE.out⟩
  · have t1 : (la == 0) = false := by simp [a1]
    have t2 : (lb == 0) = false := by simp [a2]
    have t3 : (la == lb) = false := by simp; omega
    have t4 : (la != lb) = true := by rw [bne, t3]; rfl
    have t5 : decide (lb < la) = true := decide_eq_true a3
    clear hac
    go_enter Try.func95, Try.ntmps95
    go_wp2_with fail
    refine wp_region_after w1 (by kernel_rfl) (by kernel_rfl) (by rw [HW.out]; exact Below.refl _ _) ?_
    repeat (go_big_quiet_step (first | with_reducible exact HA.out _ | with_reducible exact HB.out _))
    refine wpQuiet_nil ?_
    intro _ hw'
    obtain ⟨p, hw''⟩ := hw'
    subst hw''
    have HE := Lib.hid (HBB.out.trans (p.ok.mono HBB.out.size))
    go_wp2
    go_ret2
    have e : againstE la lb ac = (0, true) := by rw [againstE, if_neg (fun h => h.elim a1 a2), if_pos a3]
    exact ⟨by rw [e]; rfl, HE.out⟩
  · have t1 : (la == 0) = false := by simp [a1]
    have t2 : (lb == 0) = false := by simp [a2]
    have t3 : (la == lb) = false := by simp; omega
    have t4 : (la != lb) = true := by rw [bne, t3]; rfl
    have t5 : decide (lb < la) = false := decide_eq_false (by omega)
    clear hac
    go_enter Try.func95, Try.ntmps95
    go_wp2_with fail
    refine wp_region_after w1 (by kernel_rfl) (by kernel_rfl) (by rw [HW.out]; exact Below.refl _ _) ?_
    repeat (go_big_quiet_step (first | with_reducible exact HA.out _ | with_reducible exact HB.out _))
    refine wpQuiet_nil ?_
    intro _ hw'
    obtain ⟨p, hw''⟩ := hw'
    subst hw''
    have HE := Lib.hid (HBB.out.trans (p.ok.mono HBB.out.size))
    go_wp2
    go_ret2
    have e : againstE la lb ac = (1, true) := by rw [againstE, if_neg (fun h => h.elim a1 a2), if_neg (by omega), if_pos a3]
    exact ⟨by rw [e]; rfl, HE.out⟩
  · have t1 : (la == 0) = false := by simp [a1]
    rcases hac with rfl | rfl | rfl | rfl
    all_goals
      go_enter Try.func95, Try.ntmps95
      go_wp2_with fail
      refine wp_region_after w1 (by kernel_rfl) (by kernel_rfl) (by rw [HW.out]; exact Below.refl _ _) ?_
      repeat (go_big_quiet_step (first | with_reducible exact HA.out _ | with_reducible exact HB.out _))
      refine wpQuiet_nil ?_
      intro _ hw'
      obtain ⟨p, hw''⟩ := hw'
      subst hw''
      have HE := Lib.hid (HBB.out.trans (p.ok.mono HBB.out.size))
      go_wp2
      go_ret2
      exact ⟨by rw [againstE_eq _ _ a1]; rfl, HE.out⟩
end Go.Proofs.Ytpnihegmhalcfaa
