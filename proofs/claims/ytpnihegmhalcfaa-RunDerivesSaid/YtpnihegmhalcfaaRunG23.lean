/-
  gristmillref21: grow.
-/
import Derived.Test.YtpnihegmhalcfaaRunG22
import Derived.Test.YtpnihegmhalcfaaRunG14
namespace Go.Proofs.Ytpnihegmhalcfaa
open Go.RowKit Go.MapKept Go.ChangeMaps
set_option maxHeartbeats 400000

/-- Blocks that are younger. -/
theorem inB_old {w : World} {B : Nat} {v : Value} {m : Nat} {ps : List ItP} {Ls : List (List It)} {A : Tabs} (h : AllM w B v m ps Ls A) {b : Nat} (hb : w.heap.size ≤ b) : ¬ inB ps b := fun e => by
  obtain ⟨L, hL⟩ := h.isBool e
  have := (Array.getElem?_eq_some_iff.1 hL).1
  omega
theorem putA_or (Ls : List (List It)) (s : Nat) (x : It) (t : Nat) (g : Bool) (A : Tabs) : putA Ls s x t (g, A) = (g || (putA Ls s x t (false, A)).1, (putA Ls s x t (false, A)).2) := by
  unfold putA
  split
  · simp
  · split <;> simp
/-- A slice's rest, as numbers. -/
theorem Ints.rest {w : World} {b o n c : Nat} {xs : List Int} {va : Option Addr} (h : Ints w (.slice (some ⟨b, o, none⟩) n c) xs) {k : Nat} (hk : k ≤ xs.length) (hva : (if c = k then some (⟨b, o, none⟩ : Addr) else some ⟨b, o + k, none⟩) = va) : Ints w (.slice va (n - k) (c - k)) (xs.drop k) := by
  obtain ⟨h0, h1, a, cap, e, hc, hm, hx⟩ := h
  simp only [Value.slice.injEq] at e
  obtain ⟨rfl, rfl, rfl⟩ := e
  refine ⟨fun x hx => h0 x (List.mem_of_mem_drop hx), by rw [List.length_drop]; omega, va, c - k, by rw [List.length_drop], by rw [List.length_drop]; omega, by omega, ?_⟩
  by_cases e : c = k
  · left
    exact List.drop_eq_nil_of_le (by omega)
  · rw [if_neg e] at hva
    subst hva
    rcases hx with rfl | ⟨b', o', e', hx⟩
    · left; simp
    · simp only [Option.some.injEq, Addr.mk.injEq, and_true] at e'
      obtain ⟨rfl, rfl⟩ := e'
      refine .inr ⟨b, o + k, rfl, fun i hi => ?_⟩
      have hi' : i < (xs.drop k).length := by simpa using hi
      have hki : k + i < xs.length := by rw [List.length_drop] at hi'; omega
      have := hx (k + i) (by simpa using hki)
      rw [List.getElem_map] at this ⊢
      rw [List.getElem_drop, Nat.add_assoc]
      exact this
theorem AllM.notCell {w : World} {B : Nat} {v : Value} {m : Nat} {ps : List ItP} {Ls : List (List It)} {A : Tabs} (h : AllM w B v m ps Ls A) {b o : Nat} {x : Value} (hc : w.cell? ⟨b, o, none⟩ = some x) (hx : ∀ c, x ≠ .bool c) : ¬ inB ps b := fun e => by
  obtain ⟨L, hL⟩ := h.isBool e
  simp only [World.cell?, hL, boolsObj] at hc
  simp at hc
  rcases hc with ⟨_, hc⟩ | ⟨_, hc⟩
  · exact hx _ hc.symm
  · exact hx _ hc.symm

set_option maxRecDepth 100000 in
set_option maxHeartbeats 8000000 in
theorem grow21_any (G : Gram) (gv : Value) (B : Nat) (v : Value) (ps : List ItP) (Ls ks : List (List It)) (gs : List (List (Int × Int))) (A : Tabs) (s t : Nat) (x : It) (stv : Value) (w0 w : World)
    (hG : IsGram w0 gv G) (hr : rightG G = true) (hst : IsStates w0 stv (ks.zip gs)) (hks : ks.length = ps.length) (hgs : gs.length = ps.length) (hB : w0.heap.size ≤ B) (hbel : Below w0.heap.size w0 w)
    (h : AllM w B v G.terms.toNat ps Ls A) (hs : s < ps.length) (hpl : ps.length ≤ 1000) (ht : t < G.terms.toNat) (hx : InI G x) (hedge : edgesTo ps.length gs) (hi64 : ∀ L ∈ Ls, ∀ x ∈ L, i64 x.1 ∧ i64 x.2) (hl : ∀ L ∈ Ls, L.length ≤ 1000000) :
    Calls Try.prog 56 #[gv, stv, v, .int .i64 (s : Int), itVal x, .int .i64 (t : Int)] w fun e w' => e = .returned (.bool (growA G Ls gs s x t (false, A)).1) ∧ AllM w' B v G.terms.toNat ps Ls (growA G Ls gs s x t (false, A)).2 ∧ Fr (inB ps) w w' := by
  obtain ⟨xa, xb⟩ := x
  obtain ⟨hx0, hx1, hx2, hx3⟩ := hx
  simp only at hx0 hx1 hx2 hx3
  obtain ⟨p, rfl⟩ : ∃ n : Nat, xa = n := ⟨xa.toNat, by omega⟩
  obtain ⟨d, rfl⟩ : ∃ n : Nat, xb = n := ⟨xb.toNat, by omega⟩
  have hpG : p < G.prods.length := by omega
  have hro : rightOf G (p : Int) = G.prods[p].right := by
    unfold rightOf
    rw [Int.toNat_natCast, List.getElem?_eq_getElem hpG]
    rfl
  have hgin := right_in hr
  have hin := hgin _ (List.getElem_mem hpG)
  have hn1 := (rightG_parts hr).1
  obtain ⟨tn, htn⟩ : ∃ tn : Nat, G.terms = (tn : Int) := ⟨G.terms.toNat, by omega⟩
  have htn' : G.terms.toNat = tn := by omega
  rw [htn'] at h ht ⊢
  have hGG := hG
  obtain ⟨hterms, vs, vp, rfl, hsy, hp⟩ := hGG
  obtain ⟨-, sa, sc, rfl, -, -, -⟩ := id hsy
  obtain ⟨-, pa, pc, rfl, -, -, -⟩ := id hp
  obtain ⟨sta, stc, rfl, -, -, -⟩ := id hst.parts
  have hzl : (ks.zip gs).length = ps.length := by rw [List.length_zip]; omega
  rw [hzl] at hst ⊢
  obtain ⟨ag, ac, rfl, ap0, ac1, ac2⟩ := h.at hs
  -- what is put in boxes
  have hk1 := Fr.alloc (ch := nothing) w (grO G sa pa sc pc)
  have hk2 := Fr.alloc (ch := nothing) (w.alloc (grO G sa pa sc pc)) (Obj.cells #[.int .i64 (p : Int), .int .i64 (d : Int)] 102 (0, 0))
  have hgo := (hk2).obj (alloc_obj w (grO G sa pa sc pc)) id
  have hio := alloc_obj (w.alloc (grO G sa pa sc pc)) (Obj.cells #[.int .i64 (p : Int), .int .i64 (d : Int)] 102 (0, 0))
  have hsz1 : (w.alloc (grO G sa pa sc pc)).heap.size = w.heap.size + 1 := by simp
  rw [hsz1] at hio
  have hkk := hk1.trans hk2
  have hM := h.keep hkk
  have hnb1 : ¬ inB ps w.heap.size := inB_old h (Nat.le_refl _)
  have hnb2 : ¬ inB ps (w.heap.size + 1) := inB_old h (by omega)
  have hbel1 := hbel.trans (hkk.below_new.mono hbel.size)
  obtain ⟨gb, hgb⟩ : ∃ gb, w.heap.size = gb := ⟨_, rfl⟩
  rw [hgb] at hgo hio hnb1 hnb2
  have HW := Lib.hid (And.intro hkk (And.intro hM (And.intro hnb1 (And.intro hnb2 (And.intro hgo (And.intro hio hbel1))))))
  have HG := Lib.hid (And.intro hG hst)
  have HR := Lib.hid (And.intro hr (And.intro hro (And.intro hin (And.intro htn hedge))))
  have HPP := Lib.hid hi64
  have HL := Lib.hid hl
  have HKS := Lib.hid (And.intro hks hgs)
  have hgin0 := hgin
  clear hk1 hk2 hgo hio hsz1 hkk hM hnb1 hnb2 hG hst hr hro hin htn hedge hi64 hl h ap0 hgin hsy hp hbel hbel1 hks hgs hzl
  unfold itVal
  go_enter Try.func56, Try.ntmps56
  go_upto_region 1 with fail
  unfold grO at HW
  generalize (w.alloc (Obj.cells #[.int .i64 G.terms, .slice sa G.syms.length sc, .slice pa G.prods.length pc] 25 (0, 0))).alloc (Obj.cells #[.int .i64 (p : Int), .int .i64 (d : Int)] 102 (0, 0)) = W1 at *
  obtain ⟨pb, po, ra, rc, rfl, hri0, -, hcx⟩ := IsGram.prd HG.out.1 p hpG
  have kW := Fr.new HW.out.2.2.2.2.2.2
  have hri := hri0.fr kW
  have y1 := kW.cell (hcx 1 (by simp [prdCells])) id
  simp only [prdCells, List.getElem_cons_zero, List.getElem_cons_succ, Nat.add_zero] at y1
  have g2 := obj_cell HW.out.2.2.2.2.1 2 (v := .slice (some ⟨pb, po, none⟩) G.prods.length pc) rfl
  have x0 := obj_cell HW.out.2.2.2.2.2.1 0 (v := .int .i64 (p : Int)) rfl
  have x1 := obj_cell HW.out.2.2.2.2.2.1 1 (v := .int .i64 (d : Int)) rfl
  clear hcx kW
  have HRI := Lib.hid (And.intro hri HR.out.2.2.1.2)
  have hrl := hri.2.1
  have hdl : d ≤ G.prods[p].right.length := by rw [HR.out.2.1] at hx3; omega
  have HGR := Lib.hid (show growA G Ls gs s ((p : Int), (d : Int)) t (false, A) = if d = G.prods[p].right.length then (false, A) else if (G.prods[p].right.getD d 0) < (tn : Int) then putA Ls (toE 0 (G.prods[p].right.getD d 0) (gs.getD s [])).toNat ((p : Int), (d : Int) + 1) t (false, A)
      else growP Ls s (G.prods[p].right.getD d 0) (of18L G (G.prods[p].right.drop (d + 1)) (t : Int)) 0 G.prods (putA Ls (toE 0 (G.prods[p].right.getD d 0) (gs.getD s [])).toNat ((p : Int), (d : Int) + 1) t (false, A)) by
    unfold growA
    rw [HR.out.2.1, HR.out.2.2.2.1]
    simp)
  clear hri hx0 hx1 hx2 hx3
  generalize hRt : G.prods[p].right = right at *
  have HRT := Lib.hid hRt
  clear hRt
  by_cases hd : d = right.length
  · have hg := HGR.out
    rw [if_pos hd] at hg
    have HGR2 := Lib.hid hg
    have hde : ((d : Int) == (right.length : Int)) = true := by simp [hd]
    clear hg hd
    go_wp2
    go_ret
    rw [HGR2.out]
    exact ⟨rfl, HW.out.2.1, HW.out.1.wide⟩
  · have hg := HGR.out
    rw [if_neg hd] at hg
    have HGR2 := Lib.hid hg
    have hde : ((d : Int) == (right.length : Int)) = false := beq_eq_false_iff_ne.2 (by omega)
    have hdlt : d < right.length := by omega
    clear hg hd HGR
    obtain ⟨rb, ro, rfl, -, -, r0, -⟩ := intsAt HRI.out.1 hdlt
    have hyr := HRI.out.2 _ (List.getElem_mem hdlt)
    have hyd : right.getD d 0 = right[d] := by rw [List.getD_eq_getElem?_getD, List.getElem?_eq_getElem hdlt]; rfl
    rw [hyd] at HGR2
    clear hyd
    generalize right[d] = y at *
    go_upto_region 4 with fail
    -- the state
    have hsk : s < ks.length := by rw [HKS.out.1]; exact hs
    have hsg : s < gs.length := by rw [HKS.out.2]; exact hs
    obtain ⟨sb, so, ka, kc, ga, gc, rfl, hk0, hg0, s0, s1⟩ := HG.out.2.get hsk hsg
    have hgd : gs.getD s [] = gs[s] := by rw [List.getD_eq_getElem?_getD, List.getElem?_eq_getElem hsg]; rfl
    have hto := toE_in (y := y) (show (0 : Int) < (ps.length : Int) by omega) (HR.out.2.2.2.2 s hs)
    rw [hgd] at hto HGR2
    generalize gs[s] = es at *
    obtain ⟨q, hq⟩ : ∃ q : Nat, toE 0 y es = q := ⟨(toE 0 y es).toNat, by omega⟩
    rw [hq] at hto HGR2
    have hqp : q < ps.length := by omega
    rw [Int.toNat_natCast] at HGR2
    have hM1 := HW.out.2.1
    obtain ⟨ag', ac', e, a0, -, -⟩ := hM1.at hqp
    simp only [Value.slice.injEq, Option.some.injEq, Addr.mk.injEq, and_true, true_and] at e
    obtain ⟨rfl, rfl⟩ := e
    have hbw : ∀ W, Fr nothing W1 W → Below w0.heap.size w0 W := fun W k => HW.out.2.2.2.2.2.2.trans (k.below HW.out.2.2.2.2.2.2.size fun _ e => e.elim)
    have HTO := Lib.hid fun (W : World) (k : Fr nothing W1 W) => to21_any (.slice ka ks[s].length kc) (.slice ga es.length gc) es y W (hg0.fr (Fr.new (hbw W k)))
    have HPU := Lib.hid fun (W : World) (k : Fr nothing W1 W) => put21_any B tn _ ps Ls A q t ((p : Int), (d : Int) + 1) W (hM1.keep k) hqp ht HPP.out HL.out
    rw [hq] at HTO
    unfold itVal at HPU
    simp only at HPU
    have keep4 : ∀ W, Fr nothing W1 W → Fr nothing W1 W ∧ W.cell? ⟨sb, so + s * 2, none⟩ = some (.slice ka ks[s].length kc) ∧ W.cell? ⟨sb, so + s * 2 + 1, none⟩ = some (.slice ga es.length gc) ∧ W.cell? ⟨gb + 1, 0, none⟩ = some (.int .i64 (p : Int)) ∧ W.cell? ⟨gb + 1, 1, none⟩ = some (.int .i64 (d : Int)) ∧
        W.cell? ⟨rb, ro + d, none⟩ = some (.int .i64 y) ∧ W.cell? ⟨ag, q, none⟩ = some (.pointer (some ⟨ps[q].p, 0, none⟩)) := fun W k =>
      ⟨k, (Fr.new (hbw W k)).cell s0 id, (Fr.new (hbw W k)).cell s1 id, k.cell x0 id, k.cell x1 id, k.cell r0 id, k.cell a0 id⟩
    have hwr : IntKind.i64.wrap ((d : Int) + 1) = (d : Int) + 1 := IntWalk.i64_in _ (by omega)
    have HK4 := Lib.hid keep4
    have hS0 := HK4.out W1.drew (Fr.drew _)
    have HS := Lib.hid (And.intro hk0 (And.intro hg0 (And.intro s0 (And.intro s1 hbw))))
    have HA0 := Lib.hid (And.intro x0 (And.intro x1 (And.intro r0 (And.intro a0 hM1))))
    clear keep4 hk0 hg0 s0 s1 hbw x0 x1 r0 a0 hM1 y1 g2
    generalize ks[s].length = kl at *
    refine wp_region_anyT (fun j W => j < 20 → Fr nothing W1 W ∧ W.cell? ⟨sb, so + s * 2, none⟩ = some (.slice ka kl kc) ∧ W.cell? ⟨sb, so + s * 2 + 1, none⟩ = some (.slice ga es.length gc) ∧ W.cell? ⟨gb + 1, 0, none⟩ = some (.int .i64 (p : Int)) ∧ W.cell? ⟨gb + 1, 1, none⟩ = some (.int .i64 (d : Int)) ∧
        W.cell? ⟨rb, ro + d, none⟩ = some (.int .i64 y) ∧ W.cell? ⟨ag, q, none⟩ = some (.pointer (some ⟨ps[q].p, 0, none⟩))) (by kernel_rfl) ?_
    refine anyT_take (R := _) (i := 0) (v := ?_) (fun j => decide (j < 20)) (fun j w h k => k (of_decide_eq_true h)) (fun w h _ => h) rfl (by kernel_rfl) (fun _ _ _ h => h) _ _ _ _ (by kernel_rfl) (by kernel_rfl) (by kernel_rfl) (by kernel_rfl) (Or.inl ⟨by rfl, ?_⟩) (by assumption) ?_
    rotate_left
    · (intro w hSw; (try dsimp only at hSw); go_simp)
      try with_reducible rfl
    refine anyT_take (R := _) (i := 1) (v := ?_) (fun j => decide (j < 20)) (fun j w h k => k (of_decide_eq_true h)) (fun w h _ => h) rfl (by kernel_rfl) (fun _ _ _ h => h) _ _ _ _ (by kernel_rfl) (by kernel_rfl) (by kernel_rfl) (by kernel_rfl) (Or.inl ⟨by rfl, ?_⟩) (by assumption) ?_
    rotate_left
    · (intro w hSw; (try dsimp only at hSw); go_simp)
      try with_reducible rfl
    refine anyT_take (R := _) (i := 2) (v := ?_) (fun j => decide (j < 20)) (fun j w h k => k (of_decide_eq_true h)) (fun w h _ => h) rfl (by kernel_rfl) (fun _ _ _ h => h) _ _ _ _ (by kernel_rfl) (by kernel_rfl) (by kernel_rfl) (by kernel_rfl) (Or.inl ⟨by rfl, ?_⟩) (by assumption) ?_
    rotate_left
    · (intro w hSw; (try dsimp only at hSw); go_simp)
      try with_reducible rfl
    refine anyT_take (R := _) (i := 3) (v := ?_) (fun j => decide (j < 20)) (fun j w h k => k (of_decide_eq_true h)) (fun w h _ => h) rfl (by kernel_rfl) (fun _ _ _ h => h) _ _ _ _ (by kernel_rfl) (by kernel_rfl) (by kernel_rfl) (by kernel_rfl) (Or.inl ⟨by rfl, ?_⟩) (by assumption) ?_
    rotate_left
    · (intro w hSw; (try dsimp only at hSw); go_simp)
      try with_reducible rfl
    refine anyT_take (R := _) (i := 4) (v := ?_) (fun j => decide (j < 20)) (fun j w h k => k (of_decide_eq_true h)) (fun w h _ => h) rfl (by kernel_rfl) (fun _ _ _ h => h) _ _ _ _ (by kernel_rfl) (by kernel_rfl) (by kernel_rfl) (by kernel_rfl) (Or.inl ⟨by rfl, ?_⟩) (by assumption) ?_
    rotate_left
    · (intro w hSw; (try dsimp only at hSw); go_simp)
      try with_reducible rfl
    refine anyT_take (R := _) (i := 5) (v := ?_) (fun j => decide (j < 20)) (fun j w h k => k (of_decide_eq_true h)) (fun w h _ => h) rfl (by kernel_rfl) (fun _ _ _ h => h) _ _ _ _ (by kernel_rfl) (by kernel_rfl) (by kernel_rfl) (by kernel_rfl) (Or.inl ⟨by rfl, ?_⟩) (by assumption) ?_
    rotate_left
    · (intro w hSw; (try dsimp only at hSw); go_simp)
      try with_reducible rfl
    refine anyT_take (R := _) (i := 6) (v := ?_) (fun j => decide (j < 20)) (fun j w h k => k (of_decide_eq_true h)) (fun w h _ => h) rfl (by kernel_rfl) (fun _ _ _ h => h) _ _ _ _ (by kernel_rfl) (by kernel_rfl) (by kernel_rfl) (by kernel_rfl) (Or.inl ⟨by rfl, ?_⟩) (by assumption) ?_
    rotate_left
    · (intro w hSw; (try dsimp only at hSw); go_simp)
      try with_reducible rfl
    refine anyT_take (R := _) (i := 7) (v := ?_) (fun j => decide (j < 20)) (fun j w h k => k (of_decide_eq_true h)) (fun w h _ => h) rfl (by kernel_rfl) (fun _ _ _ h => h) _ _ _ _ (by kernel_rfl) (by kernel_rfl) (by kernel_rfl) (by kernel_rfl) (Or.inl ⟨by rfl, ?_⟩) (by assumption) ?_
    rotate_left
    · (intro w hSw; (try dsimp only at hSw); go_simp)
      try with_reducible rfl
    refine anyT_take (R := _) (i := 8) (v := ?_) (fun j => decide (j < 20)) (fun j w h k => k (of_decide_eq_true h)) (fun w h _ => h) rfl (by kernel_rfl) (fun _ _ _ h => h) _ _ _ _ (by kernel_rfl) (by kernel_rfl) (by kernel_rfl) (by kernel_rfl) (Or.inl ⟨by rfl, ?_⟩) (by assumption) ?_
    rotate_left
    · (intro w hSw; (try dsimp only at hSw); go_simp)
      try with_reducible rfl
    refine anyT_take (R := _) (i := 9) (v := ?_) (fun j => decide (j < 20)) (fun j w h k => k (of_decide_eq_true h)) (fun w h _ => h) rfl (by kernel_rfl) (fun _ _ _ h => h) _ _ _ _ (by kernel_rfl) (by kernel_rfl) (by kernel_rfl) (by kernel_rfl) (Or.inl ⟨by rfl, ?_⟩) (by assumption) ?_
    rotate_left
    · (intro w hSw; (try dsimp only at hSw); go_simp)
      try with_reducible rfl
    refine anyT_take (R := _) (i := 13) (v := ?_) (fun j => decide (j < 20)) (fun j w h k => k (of_decide_eq_true h)) (fun w h _ => h) rfl (by kernel_rfl) (fun _ _ _ h => h) _ _ _ _ (by kernel_rfl) (by kernel_rfl) (by kernel_rfl) (by kernel_rfl) (Or.inl ⟨by rfl, ?_⟩) (by assumption) ?_
    rotate_left
    · (intro w hSw; (try dsimp only at hSw); go_simp)
      try with_reducible rfl
    refine anyT_take (R := _) (i := 14) (v := ?_) (fun j => decide (j < 20)) (fun j w h k => k (of_decide_eq_true h)) (fun w h _ => h) rfl (by kernel_rfl) (fun _ _ _ h => h) _ _ _ _ (by kernel_rfl) (by kernel_rfl) (by kernel_rfl) (by kernel_rfl) (Or.inl ⟨by rfl, ?_⟩) (by assumption) ?_
    rotate_left
    · (intro w hSw; (try dsimp only at hSw); go_simp)
      try with_reducible rfl
    refine anyT_take (R := _) (i := 15) (v := ?_) (fun j => decide (j < 20)) (fun j w h k => k (of_decide_eq_true h)) (fun w h _ => h) rfl (by kernel_rfl) (fun _ _ _ h => h) _ _ _ _ (by kernel_rfl) (by kernel_rfl) (by kernel_rfl) (by kernel_rfl) (Or.inl ⟨by rfl, ?_⟩) (by assumption) ?_
    rotate_left
    · (intro w hSw; (try dsimp only at hSw); go_simp)
      try with_reducible rfl
    refine anyT_take (R := _) (i := 16) (v := ?_) (fun j => decide (j < 20)) (fun j w h k => k (of_decide_eq_true h)) (fun w h _ => h) rfl (by kernel_rfl) (fun _ _ _ h => h) _ _ _ _ (by kernel_rfl) (by kernel_rfl) (by kernel_rfl) (by kernel_rfl) (Or.inl ⟨by rfl, ?_⟩) (by assumption) ?_
    rotate_left
    · (intro w hSw; (try dsimp only at hSw); go_simp)
      try with_reducible rfl
    refine anyT_take (R := _) (i := 17) (v := ?_) (fun j => decide (j < 20)) (fun j w h k => k (of_decide_eq_true h)) (fun w h _ => h) rfl (by kernel_rfl) (fun _ _ _ h => h) _ _ _ _ (by kernel_rfl) (by kernel_rfl) (by kernel_rfl) (by kernel_rfl) (Or.inl ⟨by rfl, ?_⟩) (by assumption) ?_
    rotate_left
    · (intro w hSw; (try dsimp only at hSw); go_simp)
      try with_reducible rfl
    refine anyT_take (R := _) (i := 18) (v := ?_) (fun j => decide (j < 20)) (fun j w h k => k (of_decide_eq_true h)) (fun w h _ => h) rfl (by kernel_rfl) (fun _ _ _ h => h) _ _ _ _ (by kernel_rfl) (by kernel_rfl) (by kernel_rfl) (by kernel_rfl) (Or.inl ⟨by rfl, ?_⟩) (by assumption) ?_
    rotate_left
    · (intro w hSw; (try dsimp only at hSw); go_simp)
      try with_reducible rfl
    refine anyT_take (R := _) (i := 19) (v := ?_) (fun j => decide (j < 20)) (fun j w h k => k (of_decide_eq_true h)) (fun w h _ => h) rfl (by kernel_rfl) (fun _ _ _ h => h) _ _ _ _ (by kernel_rfl) (by kernel_rfl) (by kernel_rfl) (by kernel_rfl) (Or.inl ⟨by rfl, ?_⟩) (by assumption) ?_
    rotate_left
    · (intro w hSw; (try dsimp only at hSw); go_simp)
      try with_reducible rfl
    refine anyT_ready (rs := [10]) (by kernel_rfl) (by simp) ?_
    intro j hj
    obtain rfl := List.mem_singleton.1 hj
    clear hj
    refine wpOp_plain rfl rfl ?_
    go_simp
    refine (HTO.out _ (Fr.drew _)).mono ?_
    rintro e w3 ⟨rfl, hb3⟩
    dsimp only
    have hS3 := HK4.out w3 ((Fr.drew W1).trans (Fr.new hb3))
    refine ⟨hS3, ?_⟩
    clear hS0
    have hS0 := hS3
    clear hS3
    refine anyT_take (R := _) (i := 11) (v := ?_) (fun j => decide (j < 20)) (fun j w h k => k (of_decide_eq_true h)) (fun w h _ => h) rfl (by kernel_rfl) (fun _ _ _ h => h) _ _ _ _ (by kernel_rfl) (by kernel_rfl) (by kernel_rfl) (by kernel_rfl) (Or.inl ⟨by rfl, ?_⟩) (by assumption) ?_
    rotate_left
    · (intro w hSw; (try dsimp only at hSw); go_simp)
      try with_reducible rfl
    refine anyT_take (R := _) (i := 12) (v := ?_) (fun j => decide (j < 20)) (fun j w h k => k (of_decide_eq_true h)) (fun w h _ => h) rfl (by kernel_rfl) (fun _ _ _ h => h) _ _ _ _ (by kernel_rfl) (by kernel_rfl) (by kernel_rfl) (by kernel_rfl) (Or.inl ⟨by rfl, ?_⟩) (by assumption) ?_
    rotate_left
    · (intro w hSw; (try dsimp only at hSw); go_simp)
      try with_reducible rfl
    refine anyT_ready (rs := [20]) (by kernel_rfl) (by simp) ?_
    intro j hj
    obtain rfl := List.mem_singleton.1 hj
    clear hj
    refine wpOp_plain rfl rfl ?_
    go_simp
    refine (HPU.out w3 hS0.1).mono ?_
    rintro e w4 ⟨rfl, hM4, hk4⟩
    dsimp only
    try refine ⟨fun h => absurd h (by decide), ?_⟩
    have hk14 : Fr (inB ps) W1 w4 := hS0.1.wide.trans hk4
    obtain ⟨z4, hz4⟩ : ∃ z, putA Ls q ((p : Int), (d : Int) + 1) t (false, A) = z := ⟨_, rfl⟩
    rw [hz4] at hM4 HGR2 ⊢
    have HZ4 := Lib.hid hz4
    have HM4 := Lib.hid (And.intro hM4 hk14)
    clear hb3 hS0 hM4 hk4 hk14 hz4 HTO HPU HK4 HS
    refine anyT_ready (rs := [21]) (by kernel_rfl) (by simp) ?_
    intro j hj
    obtain rfl := List.mem_singleton.1 hj
    clear hj
    refine wpOp_plain rfl rfl ?_
    go_simp
    refine anyT_done (by kernel_rfl) ?_ _
    obtain ⟨g4, A4⟩ := z4
    simp only at HM4 HGR2 ⊢
    have g0 : w4.cell? ⟨gb, 0, none⟩ = some (.int .i64 (tn : Int)) := by
      rw [← HR.out.2.2.2.1]
      exact HM4.out.2.cell (obj_cell HW.out.2.2.2.2.1 0 rfl) HW.out.2.2.1
    have g1 : w4.cell? ⟨gb, 1, none⟩ = some (.slice sa G.syms.length sc) := HM4.out.2.cell (obj_cell HW.out.2.2.2.2.1 1 rfl) HW.out.2.2.1
    have g2 : w4.cell? ⟨gb, 2, none⟩ = some (.slice (some ⟨pb, po, none⟩) G.prods.length pc) := HM4.out.2.cell (obj_cell HW.out.2.2.2.2.1 2 rfl) HW.out.2.2.1
    have x1 := HM4.out.2.cell HA0.out.2.1 HW.out.2.2.2.1
    have r0 := HM4.out.2.cell HA0.out.2.2.1 (HW.out.2.1.notCell HA0.out.2.2.1 fun c h => by cases h)
    obtain ⟨yn, rfl⟩ : ∃ yn : Nat, y = yn := ⟨y.toNat, by omega⟩
    have hwr4 : Fr nothing w w4 → True := fun _ => trivial
    go_upto_region 5 with fail
    by_cases hyt : yn < tn
    · have hg := HGR2.out
      rw [if_pos (by omega)] at hg
      have HG3 := Lib.hid hg
      have hyt' : decide (yn < tn) = true := decide_eq_true hyt
      clear hg hwr4
      go_quiet (fail)
      go_wp2
      go_ret
      rw [HG3.out]
      exact ⟨rfl, HM4.out.1.keep (Fr.drewN _ _), HW.out.1.wide.trans (HM4.out.2.trans (Fr.drewN _ _))⟩
    · have hg := HGR2.out
      rw [if_neg (by omega)] at hg
      have HG3 := Lib.hid hg
      have hyt' : decide (yn < tn) = false := decide_eq_false hyt
      clear hg hwr4 HGR2
      go_quiet (fail)
      go_upto_region 7 with fail
      have hkd : ∀ {W : World}, Fr nothing w4 W → Fr nothing w4 W ∧ W.cell? ⟨gb, 0, none⟩ = some (.int .i64 (tn : Int)) ∧ W.cell? ⟨gb, 1, none⟩ = some (.slice sa G.syms.length sc) ∧ W.cell? ⟨gb, 2, none⟩ = some (.slice (some ⟨pb, po, none⟩) G.prods.length pc) ∧ W.cell? ⟨gb + 1, 1, none⟩ = some (.int .i64 (d : Int)) := fun k => ⟨k, k.cell g0 id, k.cell g1 id, k.cell g2 id, k.cell x1 id⟩
      have hS0 := hkd ((Fr.drewN w4 nq).trans (Fr.drew _))
      clear hkd
      have h5a : (0 : Int) ≤ (d : Int) + 1 := by omega
      have h5b : (d : Int) + 1 ≤ (right.length : Int) := by omega
      obtain ⟨va, hva⟩ : ∃ va, (if rc = d + 1 then some (⟨rb, ro, none⟩ : Addr) else some ⟨rb, ro + (d + 1), none⟩) = va := ⟨_, rfl⟩
      have hrest := (hri0.rest (k := d + 1) (by omega) hva)
      have hbw4 : ∀ W, Fr nothing w4 W → Below w0.heap.size w0 W := fun W k => HW.out.2.2.2.2.2.2.trans ((HM4.out.2.trans k.wide).below HW.out.2.2.2.2.2.2.size fun g e => Nat.le_trans hB (HM4.out.1.low e))
      have HOF := Lib.hid fun (W : World) (k : Fr nothing w4 W) => of18_any G _ _ (right.drop (d + 1)) t W (HG.out.1.fr (Fr.new (hbw4 W k))) HR.out.1 (hrest.fr (Fr.new (hbw4 W k))) (fun x hx => HRI.out.2 x (List.mem_of_mem_drop hx)) (by rw [HR.out.2.2.2.1]; omega)
      rw [HR.out.2.2.2.1] at HOF
      have HBW := Lib.hid hbw4
      clear hrest hbw4 hri0
      refine wp_region_anyT (fun j W => j < 7 → Fr nothing w4 W ∧ W.cell? ⟨gb, 0, none⟩ = some (.int .i64 (tn : Int)) ∧ W.cell? ⟨gb, 1, none⟩ = some (.slice sa G.syms.length sc) ∧ W.cell? ⟨gb, 2, none⟩ = some (.slice (some ⟨pb, po, none⟩) G.prods.length pc) ∧ W.cell? ⟨gb + 1, 1, none⟩ = some (.int .i64 (d : Int))) (by kernel_rfl) ?_
      refine anyT_take (R := _) (i := 0) (v := ?_) (fun j => decide (j < 7)) (fun j w h k => k (of_decide_eq_true h)) (fun w h _ => h) rfl (by kernel_rfl) (fun _ _ _ h => h) _ _ _ _ (by kernel_rfl) (by kernel_rfl) (by kernel_rfl) (by kernel_rfl) (Or.inl ⟨by rfl, ?_⟩) (by assumption) ?_
      rotate_left
      · (intro w hSw; (try dsimp only at hSw); go_simp)
        try with_reducible rfl
      refine anyT_take (R := _) (i := 1) (v := ?_) (fun j => decide (j < 7)) (fun j w h k => k (of_decide_eq_true h)) (fun w h _ => h) rfl (by kernel_rfl) (fun _ _ _ h => h) _ _ _ _ (by kernel_rfl) (by kernel_rfl) (by kernel_rfl) (by kernel_rfl) (Or.inl ⟨by rfl, ?_⟩) (by assumption) ?_
      rotate_left
      · (intro w hSw; (try dsimp only at hSw); go_simp)
        try with_reducible rfl
      refine anyT_take (R := _) (i := 2) (v := ?_) (fun j => decide (j < 7)) (fun j w h k => k (of_decide_eq_true h)) (fun w h _ => h) rfl (by kernel_rfl) (fun _ _ _ h => h) _ _ _ _ (by kernel_rfl) (by kernel_rfl) (by kernel_rfl) (by kernel_rfl) (Or.inl ⟨by rfl, ?_⟩) (by assumption) ?_
      rotate_left
      · (intro w hSw; (try dsimp only at hSw); go_simp)
        try with_reducible rfl
      refine anyT_take (R := _) (i := 3) (v := ?_) (fun j => decide (j < 7)) (fun j w h k => k (of_decide_eq_true h)) (fun w h _ => h) rfl (by kernel_rfl) (fun _ _ _ h => h) _ _ _ _ (by kernel_rfl) (by kernel_rfl) (by kernel_rfl) (by kernel_rfl) (Or.inl ⟨by rfl, ?_⟩) (by assumption) ?_
      rotate_left
      · (intro w hSw; (try dsimp only at hSw); go_simp)
        try with_reducible rfl
      refine anyT_take (R := _) (i := 4) (v := ?_) (fun j => decide (j < 7)) (fun j w h k => k (of_decide_eq_true h)) (fun w h _ => h) rfl (by kernel_rfl) (fun _ _ _ h => h) _ _ _ _ (by kernel_rfl) (by kernel_rfl) (by kernel_rfl) (by kernel_rfl) (Or.inl ⟨by rfl, ?_⟩) (by assumption) ?_
      rotate_left
      · (intro w hSw; (try dsimp only at hSw); go_simp)
        try with_reducible rfl
      refine anyT_take (R := _) (i := 5) (v := ?_) (fun j => decide (j < 7)) (fun j w h k => k (of_decide_eq_true h)) (fun w h _ => h) rfl (by kernel_rfl) (fun _ _ _ h => h) _ _ _ _ (by kernel_rfl) (by kernel_rfl) (by kernel_rfl) (by kernel_rfl) (Or.inl ⟨by rfl, ?_⟩) (by assumption) ?_
      rotate_left
      · (intro w hSw; (try dsimp only at hSw); go_simp)
        try with_reducible rfl
      refine anyT_take (R := _) (i := 6) (v := ?_) (fun j => decide (j < 7)) (fun j w h k => k (of_decide_eq_true h)) (fun w h _ => h) rfl (by kernel_rfl) (fun _ _ _ h => h) _ _ _ _ (by kernel_rfl) (by kernel_rfl) (by kernel_rfl) (by kernel_rfl) (Or.inl ⟨by rfl, ?_⟩) (by assumption) ?_
      rotate_left
      · (intro w hSw; (try dsimp only at hSw); go_simp)
        try with_reducible rfl
      refine anyT_ready (rs := [7]) (by kernel_rfl) (by simp) ?_
      intro j hj
      obtain rfl := List.mem_singleton.1 hj
      clear hj
      refine wpOp_plain rfl rfl ?_
      go_simp
      refine (HOF.out _ hS0.1).mono ?_
      rintro e w5 ⟨rv, rfl, hrow, hb5⟩
      dsimp only
      try refine ⟨fun h => absurd h (by decide), ?_⟩
      refine anyT_ready (rs := [8]) (by kernel_rfl) (by simp) ?_
      intro j hj
      obtain rfl := List.mem_singleton.1 hj
      clear hj
      refine wpOp_plain rfl rfl ?_
      go_simp
      refine anyT_done (by kernel_rfl) ?_ _
      have hk5 : Fr nothing w4 w5 := ((Fr.drewN w4 nq).trans (Fr.drew _)).trans (Fr.new hb5)
      have hM5 := HM4.out.1.keep hk5
      have k15 : Fr (inB ps) W1 w5 := HM4.out.2.trans hk5.wide
      have hrow := own_base hrow (Nat.le_refl w4.heap.size)
      obtain ⟨va2, vc2, rfl, -, -, -⟩ := own_as_cells hrow
      have hrl5 := trueIx_len (ofB G (right.drop (d + 1)) (t : Int)) G.terms.toNat
      generalize hrow5 : of18L G (right.drop (d + 1)) (t : Int) = row at *
      have hrowI : ∀ x ∈ row, 0 ≤ x ∧ x < (tn : Int) := fun x hx => by
        rw [← hrow5] at hx
        have := trueIx_in hx
        omega
      have hrll : row.length ≤ tn := by
        rw [← hrow5, ← htn']
        exact hrl5
      have H5 := Lib.hid (And.intro hM5 (And.intro k15 (And.intro hrow hrowI)))
      have hw45 : w4.heap.size ≤ w5.heap.size := hk5.size
      have HIB := Lib.hid (fun b (hb : w4.heap.size ≤ b) => inB_old HM4.out.1 hb)
      have HX1 := Lib.hid (And.intro HA0.out.2.1 HA0.out.2.2.1)
      clear hS0 HOF hb5 hk5 hM5 k15 hrow hrowI HBW HZ4 HA0 g0 g1 g2 x1 r0 hrow5 hrl5 hva h5a h5b
      have HX := Lib.hid (fun (W : World) (k : Fr (inB ps) w5 W) => And.intro ((H5.out.2.1.trans k).cell HX1.out.1 HW.out.2.2.2.1) ((H5.out.2.1.trans k).cell HX1.out.2 (HW.out.2.1.notCell HX1.out.2 fun c h => by cases h)))
      have HG2 := Lib.hid (fun (W : World) (k : Fr (inB ps) w5 W) => (H5.out.2.1.trans k).cell (obj_cell HW.out.2.2.2.2.1 2 (v := .slice (some ⟨pb, po, none⟩) G.prods.length pc) rfl) HW.out.2.2.1)
      have HBW := Lib.hid (fun (W : World) (k : Fr (inB ps) w5 W) => HW.out.2.2.2.2.2.2.trans ((H5.out.2.1.trans k).below HW.out.2.2.2.2.2.2.size fun g e => Nat.le_trans hB (H5.out.1.low e)))
      have HRW := Lib.hid (fun (W : World) (k : Fr (inB ps) w5 W) => own_fr H5.out.2.2.1 k fun g hg => HIB.out g (ownObj H5.out.2.2.1 g hg).1)
      obtain ⟨Fin, hFin⟩ : ∃ F, growP Ls s (yn : Int) row 0 G.prods (g4, A4) = F := ⟨_, rfl⟩
      rw [hFin] at HG3
      have HF := Lib.hid hFin
      clear hFin
      go_wp2
      go_loopw [14, 16, 17] (fun g i _ wr => ∃ (pi : Nat) (z : Bool × Tabs), pi ≤ G.prods.length ∧ i = .int .i64 (pi : Int) ∧ g = .bool z.1 ∧ growP Ls s (yn : Int) row pi (G.prods.drop pi) z = Fin ∧ AllM wr B (.slice (some ⟨ag, 0, none⟩) ps.length ac) tn ps Ls z.2 ∧ Fr (inB ps) w5 wr) (fun _ i _ _ => G.prods.length - (intOf i).toNat)
      case atStart => exact ⟨0, (g4, A4), Nat.zero_le _, rfl, rfl, HF.out, H5.out.1, Fr.refl _ _⟩
      case round =>
        obtain ⟨pi, ⟨g6, A6⟩, hpi, rfl, rfl, hFk, hM6, hk6⟩ := hrel
        simp only at hM6
        have g2 := HG2.out _ hk6
        by_cases hlt : pi < G.prods.length
        · obtain ⟨pb', po', ra', rc', e, -, -, hcx⟩ := IsGram.prd HG.out.1 pi hlt
          simp only [Option.some.injEq, Addr.mk.injEq, and_true] at e
          obtain ⟨rfl, rfl⟩ := e
          have z0 := (Fr.new (HBW.out _ hk6)).cell (hcx 0 (by simp [prdCells])) id
          simp only [prdCells, List.getElem_cons_zero, List.getElem_cons_succ, Nat.add_zero] at z0
          have HZC := Lib.hid (fun (W : World) (k : Fr (inB ps) w5 W) => (Fr.new (HBW.out W k)).cell (hcx 0 (by simp [prdCells])) id)
          simp only [prdCells, List.getElem_cons_zero, List.getElem_cons_succ, Nat.add_zero] at HZC
          clear hcx
          have hql := (hgin0 _ (List.getElem_mem hlt)).1
          rw [List.drop_eq_getElem_cons hlt] at hFk
          unfold growP at hFk
          generalize G.prods[pi].left = ql at *
          obtain ⟨qn, rfl⟩ : ∃ qn : Nat, ql = qn := ⟨ql.toNat, by omega⟩
          have hx6 := HX.out _ hk6
          have H6 := Lib.hid (And.intro hFk (And.intro hM6 hk6))
          have HZ0 := Lib.hid z0
          clear hFk hM6 hk6 hx6
          by_cases hq : qn = yn
          · subst hq
            obtain ⟨Z, hZ⟩ : ∃ Z, rowA Ls s pi row (g6, A6) = Z := ⟨_, rfl⟩
            have hF6 := H6.out.1
            rw [if_pos rfl, hZ] at hF6
            have HF6 := Lib.hid (And.intro hF6 hZ)
            clear hF6 hZ z0
            generalize wr = wA at *
            go_wp2
            go_loopw [14, 17] (fun g i wr => ∃ (k : Nat) (z : Bool × Tabs), k ≤ row.length ∧ i = .int .i64 (k : Int) ∧ g = .bool z.1 ∧ rowA Ls s pi (row.drop k) z = Z ∧ AllM wr B (.slice (some ⟨ag, 0, none⟩) ps.length ac) tn ps Ls z.2 ∧ Fr (inB ps) w5 wr) (fun _ i _ => row.length - (intOf i).toNat)
            case atStart => exact ⟨0, (g6, A6), Nat.zero_le _, rfl, rfl, HF6.out.2, H6.out.2.1, H6.out.2.2⟩
            case round =>
              obtain ⟨k, ⟨g7, A7⟩, hk, rfl, rfl, hZk, hM7, hk7⟩ := hrel
              simp only at hM7
              clear g2
              have g2 := HG2.out _ hk7
              have x1 := (HX.out _ hk7).1
              have r0 := (HX.out _ hk7).2
              have z0 := HZC.out _ hk7
              by_cases hltk : k < row.length
              · obtain ⟨wb, wo, e, -, -, w0c, -⟩ := intsAt (own_ints (HRW.out _ hk7) (fun x hx => by have := H5.out.2.2.2 x hx; omega) (by omega)) hltk
                subst e
                have hxt := H5.out.2.2.2 _ (List.getElem_mem hltk)
                rw [List.drop_eq_getElem_cons hltk] at hZk
                generalize row[k] = tv at *
                obtain ⟨tm, rfl⟩ : ∃ tm : Nat, tv = tm := ⟨tv.toNat, by omega⟩
                have htm : tm < tn := by omega
                have hZs : rowA Ls s pi (row.drop (k + 1)) (putA Ls s ((pi : Int), 0) tm (g7, A7)) = Z := hZk
                rw [putA_or] at hZs
                obtain ⟨ag', ac', e, a0, -, -⟩ := hM7.at hs
                simp only [Value.slice.injEq, Option.some.injEq, Addr.mk.injEq, and_true, true_and] at e
                obtain ⟨rfl, rfl⟩ := e
                have HPU := Lib.hid fun (W : World) (k : Fr nothing wr W) => put21_any B tn _ ps Ls A7 s tm ((pi : Int), 0) W (hM7.keep k) hs htm HPP.out HL.out
                unfold itVal at HPU
                simp only at HPU
                have HK7 := Lib.hid (And.intro hk7 hZs)
                have hk4' : decide (k < row.length) = true := decide_eq_true hltk
                clear hZk hZs hM7 hk7
                go_upto_region 12 with fail
                go_quiet (fail)
                go_upto_region 14 with fail
                have hkd : ∀ {W : World}, Fr nothing wr W → Fr nothing wr W ∧ W.cell? ⟨ag, s, none⟩ = some (.pointer (some ⟨ps[s].p, 0, none⟩)) ∧ W.cell? ⟨wb, wo + k, none⟩ = some (.int .i64 (tm : Int)) := fun k => ⟨k, k.cell a0 id, k.cell w0c id⟩
                have hS0 := hkd ((Fr.drewN wr nq).trans (Fr.drew _))
                clear hkd
                refine wp_region_anyT (fun j W => j < 10 → Fr nothing wr W ∧ W.cell? ⟨ag, s, none⟩ = some (.pointer (some ⟨ps[s].p, 0, none⟩)) ∧ W.cell? ⟨wb, wo + k, none⟩ = some (.int .i64 (tm : Int))) (by kernel_rfl) ?_
                refine anyT_take (R := _) (i := 0) (v := ?_) (fun j => decide (j < 10)) (fun j w h k => k (of_decide_eq_true h)) (fun w h _ => h) rfl (by kernel_rfl) (fun _ _ _ h => h) _ _ _ _ (by kernel_rfl) (by kernel_rfl) (by kernel_rfl) (by kernel_rfl) (Or.inl ⟨by rfl, ?_⟩) (by assumption) ?_
                rotate_left
                · (intro w hSw; (try dsimp only at hSw); go_simp)
                  try with_reducible rfl
                refine anyT_take (R := _) (i := 1) (v := ?_) (fun j => decide (j < 10)) (fun j w h k => k (of_decide_eq_true h)) (fun w h _ => h) rfl (by kernel_rfl) (fun _ _ _ h => h) _ _ _ _ (by kernel_rfl) (by kernel_rfl) (by kernel_rfl) (by kernel_rfl) (Or.inl ⟨by rfl, ?_⟩) (by assumption) ?_
                rotate_left
                · (intro w hSw; (try dsimp only at hSw); go_simp)
                  try with_reducible rfl
                refine anyT_take (R := _) (i := 2) (v := ?_) (fun j => decide (j < 10)) (fun j w h k => k (of_decide_eq_true h)) (fun w h _ => h) rfl (by kernel_rfl) (fun _ _ _ h => h) _ _ _ _ (by kernel_rfl) (by kernel_rfl) (by kernel_rfl) (by kernel_rfl) (Or.inl ⟨by rfl, ?_⟩) (by assumption) ?_
                rotate_left
                · (intro w hSw; (try dsimp only at hSw); go_simp)
                  try with_reducible rfl
                refine anyT_take (R := _) (i := 3) (v := ?_) (fun j => decide (j < 10)) (fun j w h k => k (of_decide_eq_true h)) (fun w h _ => h) rfl (by kernel_rfl) (fun _ _ _ h => h) _ _ _ _ (by kernel_rfl) (by kernel_rfl) (by kernel_rfl) (by kernel_rfl) (Or.inl ⟨by rfl, ?_⟩) (by assumption) ?_
                rotate_left
                · (intro w hSw; (try dsimp only at hSw); go_simp)
                  try with_reducible rfl
                refine anyT_take (R := _) (i := 4) (v := ?_) (fun j => decide (j < 10)) (fun j w h k => k (of_decide_eq_true h)) (fun w h _ => h) rfl (by kernel_rfl) (fun _ _ _ h => h) _ _ _ _ (by kernel_rfl) (by kernel_rfl) (by kernel_rfl) (by kernel_rfl) (Or.inl ⟨by rfl, ?_⟩) (by assumption) ?_
                rotate_left
                · (intro w hSw; (try dsimp only at hSw); go_simp)
                  try with_reducible rfl
                refine anyT_take (R := _) (i := 5) (v := ?_) (fun j => decide (j < 10)) (fun j w h k => k (of_decide_eq_true h)) (fun w h _ => h) rfl (by kernel_rfl) (fun _ _ _ h => h) _ _ _ _ (by kernel_rfl) (by kernel_rfl) (by kernel_rfl) (by kernel_rfl) (Or.inl ⟨by rfl, ?_⟩) (by assumption) ?_
                rotate_left
                · (intro w hSw; (try dsimp only at hSw); go_simp)
                  try with_reducible rfl
                refine anyT_take (R := _) (i := 6) (v := ?_) (fun j => decide (j < 10)) (fun j w h k => k (of_decide_eq_true h)) (fun w h _ => h) rfl (by kernel_rfl) (fun _ _ _ h => h) _ _ _ _ (by kernel_rfl) (by kernel_rfl) (by kernel_rfl) (by kernel_rfl) (Or.inl ⟨by rfl, ?_⟩) (by assumption) ?_
                rotate_left
                · (intro w hSw; (try dsimp only at hSw); go_simp)
                  try with_reducible rfl
                refine anyT_take (R := _) (i := 7) (v := ?_) (fun j => decide (j < 10)) (fun j w h k => k (of_decide_eq_true h)) (fun w h _ => h) rfl (by kernel_rfl) (fun _ _ _ h => h) _ _ _ _ (by kernel_rfl) (by kernel_rfl) (by kernel_rfl) (by kernel_rfl) (Or.inl ⟨by rfl, ?_⟩) (by assumption) ?_
                rotate_left
                · (intro w hSw; (try dsimp only at hSw); go_simp)
                  try with_reducible rfl
                refine anyT_take (R := _) (i := 8) (v := ?_) (fun j => decide (j < 10)) (fun j w h k => k (of_decide_eq_true h)) (fun w h _ => h) rfl (by kernel_rfl) (fun _ _ _ h => h) _ _ _ _ (by kernel_rfl) (by kernel_rfl) (by kernel_rfl) (by kernel_rfl) (Or.inl ⟨by rfl, ?_⟩) (by assumption) ?_
                rotate_left
                · (intro w hSw; (try dsimp only at hSw); go_simp)
                  try with_reducible rfl
                refine anyT_take (R := _) (i := 9) (v := ?_) (fun j => decide (j < 10)) (fun j w h k => k (of_decide_eq_true h)) (fun w h _ => h) rfl (by kernel_rfl) (fun _ _ _ h => h) _ _ _ _ (by kernel_rfl) (by kernel_rfl) (by kernel_rfl) (by kernel_rfl) (Or.inl ⟨by rfl, ?_⟩) (by assumption) ?_
                rotate_left
                · (intro w hSw; (try dsimp only at hSw); go_simp)
                  try with_reducible rfl
                refine anyT_ready (rs := [10]) (by kernel_rfl) (by simp) ?_
                intro j hj
                obtain rfl := List.mem_singleton.1 hj
                clear hj
                refine wpOp_plain rfl rfl ?_
                go_simp
                refine (HPU.out _ hS0.1).mono ?_
                rintro e w8 ⟨rfl, hM8, hk8⟩
                dsimp only
                try refine ⟨fun h => absurd h (by decide), ?_⟩
                refine anyT_done (by kernel_rfl) ?_ _
                have hk58 := HK7.out.1.trans (hS0.1.wide.trans hk8)
                generalize hZ8 : putA Ls s ((pi : Int), 0) tm (false, A7) = Z8 at *
                obtain ⟨c8, A8⟩ := Z8
                simp only at hM8 HK7
                have H8 := Lib.hid (And.intro hM8 (And.intro hk58 HK7.out.2))
                clear hM8 hk8 hk58 HK7 hZ8 hS0 HPU a0 w0c x1 r0 z0 g2
                cases c8
                · go_wp2
                  go_roundw
                  case rel => exact ⟨k + 1, (g7, A8), by omega, by simp, rfl, by have := H8.out.2.2; rwa [Bool.or_false] at this, H8.out.1, H8.out.2.1⟩
                  case measure => simp [intOf]; omega
                · go_wp2
                  go_roundw
                  case rel => exact ⟨k + 1, (true, A8), by omega, by simp, rfl, by have := H8.out.2.2; rwa [Bool.or_true] at this, H8.out.1, H8.out.2.1⟩
                  case measure => simp [intOf]; omega
              · obtain rfl : k = row.length := by omega
                rw [List.drop_length] at hZk
                have hZe : (g7, A7) = Z := hZk
                have hF6 := HF6.out.1
                rw [← hZe] at hF6
                have H8 := Lib.hid (And.intro hF6 (And.intro hM7 hk7))
                clear hZk hZe hF6 hM7 hk7
                go_upto_region 12 with fail
                go_quiet (fail)
                go_wp2
                go_roundw
                case rel => exact ⟨pi + 1, (g7, A7), by omega, by simp, rfl, H8.out.1, H8.out.2.1.keep (Fr.drewN _ _), H8.out.2.2.trans (Fr.drewN _ _)⟩
                case measure => simp [intOf]; omega
          · have hF6 := H6.out.1
            rw [if_neg (by omega)] at hF6
            have HF6 := Lib.hid hF6
            have hqy : ((qn : Int) == (yn : Int)) = false := beq_eq_false_iff_ne.2 (by omega)
            clear hF6 z0
            generalize wr = wA at *
            go_wp2
            go_loopw [14, 17] (fun g i wr => g = .bool g6 ∧ i = .int .i64 0 ∧ wA = wr) (fun _ _ _ => 0)
            case atStart => exact ⟨rfl, rfl, rfl⟩
            case round =>
              obtain ⟨rfl, rfl, rfl⟩ := hrel
              have x1 := (HX.out _ H6.out.2.2).1
              have r0 := (HX.out _ H6.out.2.2).2
              have z0 := HZC.out _ H6.out.2.2
              by_cases hr0 : 0 < row.length
              · go_upto_region 12 with fail
                go_quiet (fail)
                go_wp2
                go_roundw
                case rel => exact ⟨pi + 1, (g6, A6), by omega, by simp, rfl, HF6.out, H6.out.2.1.keep (Fr.drewN _ _), H6.out.2.2.trans (Fr.drewN _ _)⟩
                case measure => simp [intOf]; omega
              · go_upto_region 12 with fail
                go_quiet (fail)
                go_wp2
                go_roundw
                case rel => exact ⟨pi + 1, (g6, A6), by omega, by simp, rfl, HF6.out, H6.out.2.1.keep (Fr.drewN _ _), H6.out.2.2.trans (Fr.drewN _ _)⟩
                case measure => simp [intOf]; omega
        · obtain rfl : pi = G.prods.length := by omega
          rw [List.drop_length] at hFk
          unfold growP at hFk
          have H6 := Lib.hid (And.intro hFk (And.intro hM6 (H5.out.2.1.trans hk6)))
          clear hFk hM6 hk6
          go_wp2
          go_ret
          rw [HG3.out, ← H6.out.1]
          exact ⟨rfl, H6.out.2.1, HW.out.1.wide.trans H6.out.2.2⟩
end Go.Proofs.Ytpnihegmhalcfaa
