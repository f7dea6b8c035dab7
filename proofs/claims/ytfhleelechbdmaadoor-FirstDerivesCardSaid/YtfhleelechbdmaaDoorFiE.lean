/-
  The law's grown: what it derives by choices.
-/
import Derived.Test.YtfhleelechbdmaaDoorFiD
import Derived.Test.YtfhleelechbdmaaDoorAnyT
import Derived.BigQuiet
import Derived.Deep.RegionHeld3
namespace Go.Proofs.YtfhleelechbdmaaDoor
open Go.RowKit
set_option maxHeartbeats 400000

/-- What grown answers, at depth d. -/
def GrownP (G : Gram) (cs : List Int) (d x : Nat) (w : World) (e : Ending) (w' : World) : Prop := ∃ (r : Value) (l : List Nat) (a2 : Nat) (ok : Bool), e = .returned (.tuple #[r, .int .i64 a2, .bool ok]) ∧
  a2 ≤ cs.length ∧ RowI w' w.heap.size r l ∧ l.length ≤ 301 * d + 1 ∧ (ok = true → Der G x l) ∧ Below w.heap.size w w'
def GrownAt (G : Gram) (vc : Value) (cs : List Int) (d : Nat) : Prop :=
  ∀ (x at_ : Nat) (v : Value) (w : World), x < G.syms.length → at_ ≤ cs.length → IsGram w v G → Ints w vc cs →
    Calls Tryd.prog 8 #[v, .int .i64 x, vc, .int .i64 at_, .int .i64 d] w fun e w' => GrownP G cs d x w e w'
theorem rowI_nil (w : World) (B : Nat) : RowI w B (.slice none 0 0) [] := World.ownsRow_nil _ _ _ _
theorem rowI_parts {w : World} {B : Nat} {v : Value} {l : List Nat} (h : RowI w B v l) : ∃ a c, v = .slice a l.length c ∧ (l = [] ∨ ∃ g, a = some ⟨g, 0, none⟩ ∧ B ≤ g ∧ Cells w g 0 (l.map fun x : Nat => Value.int .i64 (x : Int))) := by
  obtain ⟨a, c, h1, _, _, h2⟩ := own_as_cells h
  refine ⟨a, c, h1, h2.imp (fun e => List.map_eq_nil_iff.1 e) id⟩
theorem rowI_one {w : World} {B g : Nat} {x : Nat} (h : w.heap[g]? = some (.cells #[.int .i64 x] 3 (0, 0))) (hb : B ≤ g) : RowI w B (.slice (some ⟨g, 0, none⟩) 1 1) [x] :=
  ⟨rfl, .inr ⟨g, 1, #[.int .i64 x], rfl, hb, h, Nat.le_refl _, by unfold maxLen; omega, rfl, rfl⟩⟩

set_option maxRecDepth 100000 in
set_option maxHeartbeats 4000000 in
theorem grown_term (G : Gram) (vc : Value) (cs : List Int) (d : Nat) (x at_ : Nat) (v : Value) (w : World) (hx : (x : Int) < G.terms) (ha : at_ ≤ cs.length) (h : IsGram w v G) :
    Calls Tryd.prog 8 #[v, .int .i64 x, vc, .int .i64 at_, .int .i64 d] w fun e w' => GrownP G cs d x w e w' := by
  obtain ⟨hterms, vs, vp, rfl, hs, hp⟩ := h
  go_enter Tryd.func8, Tryd.ntmps8
  go_wp2
  go_ret3
  exact ⟨_, [x], at_, true, rfl, ha, rowI_one (g := w.heap.size + 1) (by have := alloc_obj (w.alloc (Obj.cells #[.int .i64 G.terms, vs, vp] 25 (0, 0))) (Obj.cells #[.int .i64 x] 3 (0, 0)); simpa using this) (by omega), by simp, fun _ => .term hx, ((Below.refl _ w).alloc (Nat.le_refl _) _).alloc (by simp) _⟩

theorem rowI_cell {w : World} {B g o : Nat} {n c : Nat} {l : List Nat} (h : RowI w B (.slice (some ⟨g, o, none⟩) n c) l) (i : Nat) (hi : i < l.length) : w.cell? ⟨g, o + i, none⟩ = some (.int .i64 ((l[i] : Nat) : Int)) := by
  obtain ⟨a, c, h1, h2⟩ := rowI_parts h
  rcases h2 with rfl | ⟨g', h2, _, h3⟩
  · simp at hi
  · simp only [Value.slice.injEq] at h1
    rw [h2] at h1
    simp only [Option.some.injEq, Addr.mk.injEq] at h1
    obtain ⟨⟨rfl, rfl, -⟩, -⟩ := h1
    have := h3 i (by simpa using hi)
    simpa using this

theorem RowI.own {w : World} {B : Nat} {v : Value} {l : List Nat} (h : RowI w B v l) : w.ownsRow B 3 1 v l.length (l.map fun x : Nat => Value.int .i64 (x : Int)) := h
theorem one_news {w : World} {b : Nat} {x : Value} {t : TypeId} {f : Nat × Nat} (h : w.heap[b]? = some (.cells #[x] t f)) : ∀ j u, [x][j]? = some u → w.cell? ((⟨b, 0, none⟩ : Addr).add j) = some u := fun j u hj => by
  cases j with
  | zero =>
    simp only [List.getElem?_cons_zero, Option.some.injEq] at hj
    subst hj
    exact obj_cell h 0 rfl
  | succ j => simp at hj
theorem keep9 {w0 W W' : World} {a1 a2 a3 a4 a5 a6 a7 a8 a9 : Addr} {v1 v2 v3 v4 v5 v6 v7 v8 v9 : Value} (k : Fr nothing W W')
    (h : W.cell? a1 = some v1 ∧ W.cell? a2 = some v2 ∧ W.cell? a3 = some v3 ∧ W.cell? a4 = some v4 ∧ W.cell? a5 = some v5 ∧ W.cell? a6 = some v6 ∧ W.cell? a7 = some v7 ∧ W.cell? a8 = some v8 ∧ W.cell? a9 = some v9 ∧ Fr nothing w0 W) :
    W'.cell? a1 = some v1 ∧ W'.cell? a2 = some v2 ∧ W'.cell? a3 = some v3 ∧ W'.cell? a4 = some v4 ∧ W'.cell? a5 = some v5 ∧ W'.cell? a6 = some v6 ∧ W'.cell? a7 = some v7 ∧ W'.cell? a8 = some v8 ∧ W'.cell? a9 = some v9 ∧ Fr nothing w0 W' := by
  obtain ⟨h1, h2, h3, h4, h5, h6, h7, h8, h9, h10⟩ := h
  exact ⟨k.cell h1 id, k.cell h2 id, k.cell h3 id, k.cell h4 id, k.cell h5 id, k.cell h6 id, k.cell h7 id, k.cell h8 id, k.cell h9 id, h10.trans k⟩
theorem derL_snoc {G : Gram} {R : List Int} {l m : List Nat} {x : Int} (h : DerL G R l) (hx : Der G x.toNat m) : DerL G (R ++ [x]) (l ++ m) := by
  refine DerL.rec (motive_1 := fun _ _ _ => True) (motive_2 := fun R l _ => DerL G (R ++ [x]) (l ++ m)) (fun _ => trivial) (fun _ _ _ => trivial) ?_ ?_ h
  · have := DerL.cons hx (DerL.nil (G := G))
    simpa using this
  · intro y r a b hy _ _ ih
    rw [List.append_assoc]
    exact .cons hy ih
theorem takes_snoc {R : List Int} {k : Nat} (hk : k < R.length) : R.take (k + 1) = R.take k ++ [R[k]] := by rw [List.take_add_one, List.getElem?_eq_getElem hk]; rfl
set_option maxRecDepth 100000 in
set_option maxHeartbeats 4000000 in
theorem grown_step (G : Gram) (hr : rightG G = true) (vc : Value) (cs : List Int) (hcl : cs.length ≤ 200) (d : Nat) (hd : d ≤ 30) (IH : ∀ d', d = d' + 1 → GrownAt G vc cs d') (x at_ : Nat) (v : Value) (w : World) (hx : x < G.syms.length) (hxt : ¬ (x : Int) < G.terms) (ha : at_ ≤ cs.length) (h : IsGram w v G) (hc : Ints w vc cs) :
    Calls Tryd.prog 8 #[v, .int .i64 x, vc, .int .i64 at_, .int .i64 d] w fun e w' => GrownP G cs d x w e w' := by
  have hin := right_in hr
  obtain ⟨⟨ht0, ht1, hn0, hn1, hm0, hm1⟩, _, _⟩ := rightG_parts hr
  have hG := h
  obtain ⟨hterms, vs, vp, rfl, hs, hp⟩ := h
  obtain ⟨_, sa, sc, rfl, _, _, _⟩ := id hs
  obtain ⟨_, pa, pc, rfl, _, _, _⟩ := id hp
  obtain ⟨_, _, ca, cc, rfl, _, _, _⟩ := id hc
  obtain ⟨i0, hi, hz0, hz1, hz2⟩ := info_parts Tryd.infoInt'
  obtain ⟨terms, syms, prods⟩ := G
  simp only at hs hp hx hxt hterms ht0 ht1 hn0 hn1 hm0 hm1 ⊢
  have HO := Lib.hid (alloc_obj w (Obj.cells #[.int .i64 terms, .slice sa syms.length sc, .slice pa prods.length pc] 25 (0, 0)))
  have HB1 := Lib.hid ((Below.refl _ w).alloc (Nat.le_refl _) (Obj.cells #[.int .i64 terms, .slice sa syms.length sc, .slice pa prods.length pc] 25 (0, 0)))
  have HG := Lib.hid hG
  have HP := Lib.hid hp
  have HC := Lib.hid hc
  have HIN := Lib.hid hin
  have HI := Lib.hid IH
  clear hG hs hp hc hin IH hr
  have HG0 := HG
  obtain ⟨m, hm⟩ : ∃ m, prods.length = m := ⟨_, rfl⟩
  obtain ⟨nc, hnc⟩ : ∃ nc, cs.length = nc := ⟨_, rfl⟩
  rw [hm] at HO HB1 HG HP hm0 hm1 ⊢
  rw [hnc] at HC HI hcl ha ⊢
  have HM := Lib.hid hm
  have HNC := Lib.hid hnc
  clear hm hnc
  go_enter Tryd.func8, Tryd.ntmps8
  go_wp2
  go_loopw [13, 14] (fun r i wr => ∃ (k : Nat) (ks : List Nat) (ra : Option Addr) (rc : Nat), k ≤ m ∧ r = .slice ra ks.length rc ∧ i = .int .i64 k ∧ ks.length ≤ k ∧ (∀ j ∈ ks, ∃ hj : j < prods.length, prods[j].left = (x : Int)) ∧ RowI wr (w.heap.size + 1) r ks ∧
      Below (w.heap.size + 1) (w.alloc (Obj.cells #[.int .i64 terms, .slice sa syms.length sc, .slice pa m pc] 25 (0, 0))) wr) (fun _ i _ => m - (intOf i).toNat)
  case atStart => exact ⟨0, [], none, 0, Nat.zero_le _, rfl, rfl, Nat.zero_le _, fun j hj => by simp at hj, rowI_nil _ _, Below.refl _ _⟩
  case round =>
    obtain ⟨k, ks, ra, rc, hk, rfl, rfl, hkl, hks, hrow, hB⟩ := hrel
    have hO : wr.cell? ⟨w.heap.size, 2, none⟩ = some (.slice pa m pc) := obj_cell ((Fr.of_below hB).obj HO.out fun e => by unfold from_ at e; omega) 2 rfl
    have hBw := HB1.out.trans (hB.mono (by simp))
    have hwr := hB.size
    simp only [World.size_alloc] at hwr
    by_cases hlt : k < m
    · have hkp : k < prods.length := by rw [HM.out]; exact hlt
      obtain ⟨pg, po, qa, qc, rfl, _, hcs⟩ := (HP.out.fr (Fr.new hBw)).get k (by exact hkp)
      have c0 : wr.cell? ⟨pg, po + k * 6, none⟩ = some (.int .i64 prods[k].left) := by have := hcs 0 (by simp [prdCells]); simpa [prdCells] using this
      have HK := Lib.hid (And.intro hks (And.intro hrow hB))
      generalize hleft : prods[k].left = left at c0
      have HL := Lib.hid hleft
      clear hleft hcs hks hrow hB hBw
      by_cases he : left = (x : Int)
      · subst he
        go_wp2_with (at_builtin; refine wpList_append_own _ rfl _ _ 26 rfl (w.heap.size + 1) 3 i0 _ 1 8 Tryd.underlying26 hi hz0 hz1 hz2 rfl (by decide) _ _ _ rfl (HK.out.2.1.own.alloc _) ⟨wr.heap.size, 0, none⟩ 1 1 [.int .i64 k] rfl rfl (one_news (alloc_obj _ _)) (by simp [Value.oneCell']) (by unfold maxLen; omega) (by omega) (by simp; omega) ?_; intro v' w4 hown4 hgrow4 _; obtain ⟨va, vcp, rfl, _⟩ := own_as_cells hown4)
        go_roundw
        case rel =>
          refine ⟨k + 1, ks ++ [k], va, vcp, by omega, by simp, by simp, by simp; omega, ?_, ?_, ?_⟩
          · intro j hj
            rcases List.mem_append.1 hj with hj | hj
            · exact HK.out.1 j hj
            · obtain rfl := List.mem_singleton.1 hj
              exact ⟨hkp, HL.out⟩
          · unfold RowI; simpa using hown4
          · exact (HK.out.2.2.alloc (by omega) _).grown hgrow4 (by simp; omega) fun g e => own_above HK.out.2.1.own g e
        case measure => simp [intOf]; omega
      · have he' : (left == (x : Int)) = false := by simpa using he
        go_wp2
        go_roundw
        case rel => exact ⟨k + 1, ks, ra, rc, by omega, rfl, by simp, by omega, HK.out.1, HK.out.2.1, HK.out.2.2⟩
        case measure => simp [intOf]; omega
    · obtain rfl : k = m := by omega
      clear hlt
      have HK := Lib.hid (And.intro hks (And.intro hrow hB))
      have hfin : GrownP ⟨terms, syms, prods⟩ cs d x w (.returned (.tuple #[.slice none 0 0, .int .i64 at_, .bool false])) wr := ⟨_, [], at_, false, rfl, by rw [HNC.out]; exact ha, rowI_nil _ _, by simp, fun e => (by cases e), hBw⟩
      have HF := Lib.hid hfin
      clear hks hrow hB hfin
      by_cases e1 : ks.length = 0
      · have t1 : ((ks.length : Int) == 0) = true := by simp [e1]
        go_wp2
        go_ret3
        exact HF.out
      have t1 : ((ks.length : Int) == 0) = false := beq_eq_false_iff_ne.2 (by omega)
      have E1 := Lib.hid e1
      clear e1
      by_cases e2 : d = 0
      · have t2 : ((d : Int) == 0) = true := by simp [e2]
        have E2 := Lib.hid e2
        clear e2
        go_wp2
        go_ret3
        exact HF.out
      have t2 : ((d : Int) == 0) = false := beq_eq_false_iff_ne.2 (by omega)
      by_cases e3 : nc ≤ at_
      · go_wp2
        go_ret3
        exact HF.out
      obtain ⟨d', hd'⟩ : ∃ d', d = d' + 1 := ⟨d - 1, by omega⟩
      have HD := Lib.hid hd'
      have e4 : at_ < nc := by omega
      have hIH := Lib.hid (HI.out d' hd')
      clear hd' e2 HF HI
      have hlt : at_ < cs.length := by rw [HNC.out]; omega
      have hcw := HC.out.fr (Fr.new hBw)
      obtain ⟨cb, co, hca, -, -, hcx, -⟩ := hcw.at hlt
      subst hca
      have hpick : pickN ks.length cs[at_] < ks.length := pickN_lt _ _ (by have := E1.out; omega)
      obtain ⟨kp, hkp⟩ : ∃ kp, kp = ks[pickN ks.length cs[at_]] := ⟨_, rfl⟩
      obtain ⟨hkp1, hkp2⟩ := HK.out.1 kp (hkp ▸ List.getElem_mem hpick)
      obtain ⟨_, _, hra, hrx⟩ := rowI_parts HK.out.2.1
      simp only [Value.slice.injEq, true_and] at hra
      obtain ⟨rfl, rfl⟩ := hra
      obtain ⟨og, rfl, -, -⟩ := hrx.resolve_left fun e => by have := E1.out; rw [e] at this; exact this rfl
      have co0 := rowI_cell HK.out.2.1 _ hpick
      rw [← hkp, Nat.zero_add] at co0
      obtain ⟨hci0, hci1⟩ := hcw.1 cs[at_] (List.getElem_mem hlt)
      have hPI := fun W => pick_any cs[at_] ks.length (by have := E1.out; omega) (by omega) W ⟨hci0, hci1⟩
      generalize pickN ks.length cs[at_] = q at *
      generalize cs[at_] = c at hcx hPI hci0 hci1
      obtain ⟨pg, po, qa, qc, rfl, hprd, hcs⟩ := (HP.out.fr (Fr.new hBw)).get kp (by exact hkp1)
      have hpm : kp < k := by rw [← HM.out]; exact hkp1
      have hmem := List.getElem_mem hkp1
      generalize prods[kp] = p at hkp2 hprd hcs hmem
      obtain ⟨left, right, prec, has, action, whr⟩ := p
      have hright : Ints wr (.slice qa right.length qc) right := by
        obtain ⟨_, r, hr, he⟩ := hprd
        simp only [prdVal, Value.agg.injEq, Array.mk.injEq, List.cons.injEq, and_true, true_and] at he
        rw [he]
        exact hr
      simp only at hkp2
      subst hkp2
      have s0' := hcs 0 (by simp [prdCells])
      have s1' := hcs 1 (by simp [prdCells])
      have s2' := hcs 2 (by simp [prdCells])
      have s3' := hcs 3 (by simp [prdCells])
      have s4' := hcs 4 (by simp [prdCells])
      have s5' := hcs 5 (by simp [prdCells])
      simp only [prdCells, List.getElem_cons_zero, List.getElem_cons_succ, Nat.add_zero] at s0' s1' s2' s3' s4' s5'
      have HPI := Lib.hid hPI
      have HB := Lib.hid hBw
      have HR := Lib.hid (And.intro hright hmem)
      clear hcs hprd hright hmem hkp1 hkp hrx hPI hBw hcw hlt
      go_upto_region 11 with fail
      obtain ⟨wq, hq⟩ : ∃ wq, wq = wr.drew := ⟨_, rfl⟩
      have kq : Fr nothing wr wq := by rw [hq]; exact Fr.drew _
      have hne : ∀ {a : Addr} {v : Value}, wr.cell? a = some v → wq.cell? a = some v := fun h => kq.cell h fun e => e
      have hS0 : wq.cell? ⟨w.heap.size, 2, none⟩ = some (.slice (some ⟨pg, po, none⟩) k pc) ∧ wq.cell? ⟨cb, co + at_, none⟩ = some (.int .i64 c) ∧ wq.cell? ⟨og, q, none⟩ = some (.int .i64 kp) ∧ wq.cell? ⟨pg, po + kp * 6, none⟩ = some (.int .i64 x) ∧ wq.cell? ⟨pg, po + kp * 6 + 1, none⟩ = some (.slice qa right.length qc) ∧ wq.cell? ⟨pg, po + kp * 6 + 2, none⟩ = some (.int .i64 prec) ∧ wq.cell? ⟨pg, po + kp * 6 + 3, none⟩ = some (.bool has) ∧ wq.cell? ⟨pg, po + kp * 6 + 4, none⟩ = some (.string action) ∧ wq.cell? ⟨pg, po + kp * 6 + 5, none⟩ = some (.int .i64 whr) ∧ Fr nothing wr wq :=
        ⟨hne hO, hne hcx, hne co0, hne s0', hne s1', hne s2', hne s3', hne s4', hne s5', kq⟩
      refine wp_region_anyT (fun j W => j < 15 → W.cell? ⟨w.heap.size, 2, none⟩ = some (.slice (some ⟨pg, po, none⟩) k pc) ∧ W.cell? ⟨cb, co + at_, none⟩ = some (.int .i64 c) ∧ W.cell? ⟨og, q, none⟩ = some (.int .i64 kp) ∧ W.cell? ⟨pg, po + kp * 6, none⟩ = some (.int .i64 x) ∧ W.cell? ⟨pg, po + kp * 6 + 1, none⟩ = some (.slice qa right.length qc) ∧ W.cell? ⟨pg, po + kp * 6 + 2, none⟩ = some (.int .i64 prec) ∧ W.cell? ⟨pg, po + kp * 6 + 3, none⟩ = some (.bool has) ∧ W.cell? ⟨pg, po + kp * 6 + 4, none⟩ = some (.string action) ∧ W.cell? ⟨pg, po + kp * 6 + 5, none⟩ = some (.int .i64 whr) ∧ Fr nothing wr W) (by kernel_rfl) ?_
      rw [← hq]
      clear hq hne kq hO hcx co0 s0' s1' s2' s3' s4' s5'
      refine anyT_take (R := _) (i := 0) (v := ?_) (fun j => decide (j < 15)) (fun j w h k => k (of_decide_eq_true h)) (fun w h _ => h) rfl (by kernel_rfl) (fun _ _ _ h => h) _ _ _ _ (by kernel_rfl) (by kernel_rfl) (by kernel_rfl) (by kernel_rfl) (Or.inl ⟨by rfl, ?_⟩) (by assumption) ?_
      rotate_left
      · (intro w hSw; (try dsimp only at hSw); go_simp)
        try with_reducible rfl
      refine anyT_take (R := _) (i := 1) (v := ?_) (fun j => decide (j < 15)) (fun j w h k => k (of_decide_eq_true h)) (fun w h _ => h) rfl (by kernel_rfl) (fun _ _ _ h => h) _ _ _ _ (by kernel_rfl) (by kernel_rfl) (by kernel_rfl) (by kernel_rfl) (Or.inl ⟨by rfl, ?_⟩) (by assumption) ?_
      rotate_left
      · (intro w hSw; (try dsimp only at hSw); go_simp)
        try with_reducible rfl
      refine anyT_take (R := _) (i := 2) (v := ?_) (fun j => decide (j < 15)) (fun j w h k => k (of_decide_eq_true h)) (fun w h _ => h) rfl (by kernel_rfl) (fun _ _ _ h => h) _ _ _ _ (by kernel_rfl) (by kernel_rfl) (by kernel_rfl) (by kernel_rfl) (Or.inl ⟨by rfl, ?_⟩) (by assumption) ?_
      rotate_left
      · (intro w hSw; (try dsimp only at hSw); go_simp)
        try with_reducible rfl
      refine anyT_take (R := _) (i := 3) (v := ?_) (fun j => decide (j < 15)) (fun j w h k => k (of_decide_eq_true h)) (fun w h _ => h) rfl (by kernel_rfl) (fun _ _ _ h => h) _ _ _ _ (by kernel_rfl) (by kernel_rfl) (by kernel_rfl) (by kernel_rfl) (Or.inl ⟨by rfl, ?_⟩) (by assumption) ?_
      rotate_left
      · (intro w hSw; (try dsimp only at hSw); go_simp)
        try with_reducible rfl
      refine anyT_take (R := _) (i := 4) (v := ?_) (fun j => decide (j < 15)) (fun j w h k => k (of_decide_eq_true h)) (fun w h _ => h) rfl (by kernel_rfl) (fun _ _ _ h => h) _ _ _ _ (by kernel_rfl) (by kernel_rfl) (by kernel_rfl) (by kernel_rfl) (Or.inl ⟨by rfl, ?_⟩) (by assumption) ?_
      rotate_left
      · (intro w hSw; (try dsimp only at hSw); go_simp)
        try with_reducible rfl
      refine anyT_take (R := _) (i := 5) (v := ?_) (fun j => decide (j < 15)) (fun j w h k => k (of_decide_eq_true h)) (fun w h _ => h) rfl (by kernel_rfl) (fun _ _ _ h => h) _ _ _ _ (by kernel_rfl) (by kernel_rfl) (by kernel_rfl) (by kernel_rfl) (Or.inl ⟨by rfl, ?_⟩) (by assumption) ?_
      rotate_left
      · (intro w hSw; (try dsimp only at hSw); go_simp)
        try with_reducible rfl
      refine anyT_take (R := _) (i := 6) (v := ?_) (fun j => decide (j < 15)) (fun j w h k => k (of_decide_eq_true h)) (fun w h _ => h) rfl (by kernel_rfl) (fun _ _ _ h => h) _ _ _ _ (by kernel_rfl) (by kernel_rfl) (by kernel_rfl) (by kernel_rfl) (Or.inl ⟨by rfl, ?_⟩) (by assumption) ?_
      rotate_left
      · (intro w hSw; (try dsimp only at hSw); go_simp)
        try with_reducible rfl
      refine anyT_take (R := _) (i := 7) (v := ?_) (fun j => decide (j < 15)) (fun j w h k => k (of_decide_eq_true h)) (fun w h _ => h) rfl (by kernel_rfl) (fun _ _ _ h => h) _ _ _ _ (by kernel_rfl) (by kernel_rfl) (by kernel_rfl) (by kernel_rfl) (Or.inl ⟨by rfl, ?_⟩) (by assumption) ?_
      rotate_left
      · (intro w hSw; (try dsimp only at hSw); go_simp)
        try with_reducible rfl
      refine anyT_take (R := _) (i := 8) (v := ?_) (fun j => decide (j < 15)) (fun j w h k => k (of_decide_eq_true h)) (fun w h _ => h) rfl (by kernel_rfl) (fun _ _ _ h => h) _ _ _ _ (by kernel_rfl) (by kernel_rfl) (by kernel_rfl) (by kernel_rfl) (Or.inl ⟨by rfl, ?_⟩) (by assumption) ?_
      rotate_left
      · (intro w hSw; (try dsimp only at hSw); go_simp)
        try with_reducible rfl
      have hpk2 : (q : Int) < ks.length := by omega
      refine' (fun (hk : Unit → Hid _) => ?_) (fun _ => Lib.hid ?_)
      · refine anyT_ready (rs := [9, 14]) (by kernel_rfl) (by simp) ?_
        intro j hj
        have hj' : j = 9 ∨ j = 14 := by simpa using hj
        clear hj
        rcases hj' with rfl | rfl
        · refine wpOp_plain rfl rfl ?_
          go_simp
          refine (HPI.out _).mono ?_
          rintro e W2 ⟨rfl, rfl⟩
          dsimp only
          refine ⟨hS0, ?_⟩
          refine anyT_take (R := _) (i := 10) (v := ?_) (fun j => decide (j < 15)) (fun j w h k => k (of_decide_eq_true h)) (fun w h _ => h) rfl (by kernel_rfl) (fun _ _ _ h => h) _ _ _ _ (by kernel_rfl) (by kernel_rfl) (by kernel_rfl) (by kernel_rfl) (Or.inl ⟨by rfl, ?_⟩) (by assumption) ?_
          rotate_left
          · (intro w hSw; (try dsimp only at hSw); go_simp)
            try with_reducible rfl
          refine anyT_take (R := _) (i := 11) (v := ?_) (fun j => decide (j < 15)) (fun j w h k => k (of_decide_eq_true h)) (fun w h _ => h) rfl (by kernel_rfl) (fun _ _ _ h => h) _ _ _ _ (by kernel_rfl) (by kernel_rfl) (by kernel_rfl) (by kernel_rfl) (Or.inl ⟨by rfl, ?_⟩) (by assumption) ?_
          rotate_left
          · (intro w hSw; (try dsimp only at hSw); go_simp)
            try with_reducible rfl
          refine anyT_take (R := _) (i := 12) (v := ?_) (fun j => decide (j < 15)) (fun j w h k => k (of_decide_eq_true h)) (fun w h _ => h) rfl (by kernel_rfl) (fun _ _ _ h => h) _ _ _ _ (by kernel_rfl) (by kernel_rfl) (by kernel_rfl) (by kernel_rfl) (Or.inl ⟨by rfl, ?_⟩) (by assumption) ?_
          rotate_left
          · (intro w hSw; (try dsimp only at hSw); go_simp)
            try with_reducible rfl
          refine anyT_take (R := _) (i := 13) (v := ?_) (fun j => decide (j < 15)) (fun j w h k => k (of_decide_eq_true h)) (fun w h _ => h) rfl (by kernel_rfl) (fun _ _ _ h => h) _ _ _ _ (by kernel_rfl) (by kernel_rfl) (by kernel_rfl) (by kernel_rfl) (Or.inl ⟨by rfl, ?_⟩) (by assumption) ?_
          rotate_left
          · (intro w hSw; (try dsimp only at hSw); go_simp)
            try with_reducible rfl
          refine anyT_ready (rs := [14]) (by kernel_rfl) (by simp) ?_
          intro j hj
          obtain rfl := List.mem_singleton.1 hj
          clear hj
          refine wpOp_plain rfl rfl ?_
          go_simp
          refine ⟨keep9 (Fr.alloc _ _) hS0, ?_⟩
          refine anyT_ready (rs := [15]) (by kernel_rfl) (by simp) ?_
          intro j hj
          obtain rfl := List.mem_singleton.1 hj
          clear hj
          refine wpOp_plain rfl rfl ?_
          go_simp
          refine anyT_done (by kernel_rfl) ?_ _
          exact (hk ()).out
        · refine wpOp_plain rfl rfl ?_
          go_simp
          have hS1 := keep9 (Fr.alloc (ch := nothing) wq (Obj.cells #[.int .i64 0, .slice none 0 0, .int .i64 0, .bool false, .string ⟨#[]⟩, .int .i64 0] 45 (0, 0))) hS0
          refine ⟨hS1, ?_⟩
          refine anyT_ready (rs := [9]) (by kernel_rfl) (by simp) ?_
          intro j hj
          obtain rfl := List.mem_singleton.1 hj
          clear hj
          refine wpOp_plain rfl rfl ?_
          go_simp
          refine (HPI.out _).mono ?_
          rintro e W2 ⟨rfl, rfl⟩
          dsimp only
          refine ⟨hS1, ?_⟩
          refine anyT_take (R := _) (i := 10) (v := ?_) (fun j => decide (j < 15)) (fun j w h k => k (of_decide_eq_true h)) (fun w h _ => h) rfl (by kernel_rfl) (fun _ _ _ h => h) _ _ _ _ (by kernel_rfl) (by kernel_rfl) (by kernel_rfl) (by kernel_rfl) (Or.inl ⟨by rfl, ?_⟩) (by assumption) ?_
          rotate_left
          · (intro w hSw; (try dsimp only at hSw); go_simp)
            try with_reducible rfl
          refine anyT_take (R := _) (i := 11) (v := ?_) (fun j => decide (j < 15)) (fun j w h k => k (of_decide_eq_true h)) (fun w h _ => h) rfl (by kernel_rfl) (fun _ _ _ h => h) _ _ _ _ (by kernel_rfl) (by kernel_rfl) (by kernel_rfl) (by kernel_rfl) (Or.inl ⟨by rfl, ?_⟩) (by assumption) ?_
          rotate_left
          · (intro w hSw; (try dsimp only at hSw); go_simp)
            try with_reducible rfl
          refine anyT_take (R := _) (i := 12) (v := ?_) (fun j => decide (j < 15)) (fun j w h k => k (of_decide_eq_true h)) (fun w h _ => h) rfl (by kernel_rfl) (fun _ _ _ h => h) _ _ _ _ (by kernel_rfl) (by kernel_rfl) (by kernel_rfl) (by kernel_rfl) (Or.inl ⟨by rfl, ?_⟩) (by assumption) ?_
          rotate_left
          · (intro w hSw; (try dsimp only at hSw); go_simp)
            try with_reducible rfl
          refine anyT_take (R := _) (i := 13) (v := ?_) (fun j => decide (j < 15)) (fun j w h k => k (of_decide_eq_true h)) (fun w h _ => h) rfl (by kernel_rfl) (fun _ _ _ h => h) _ _ _ _ (by kernel_rfl) (by kernel_rfl) (by kernel_rfl) (by kernel_rfl) (Or.inl ⟨by rfl, ?_⟩) (by assumption) ?_
          rotate_left
          · (intro w hSw; (try dsimp only at hSw); go_simp)
            try with_reducible rfl
          refine anyT_ready (rs := [15]) (by kernel_rfl) (by simp) ?_
          intro j hj
          obtain rfl := List.mem_singleton.1 hj
          clear hj
          refine wpOp_plain rfl rfl ?_
          go_simp
          refine anyT_done (by kernel_rfl) ?_ _
          exact (hk ()).out
      have hx3 := alloc_obj wq (Obj.cells #[.int .i64 x, .slice qa right.length qc, .int .i64 prec, .bool has, .string action, .int .i64 whr] 45 (0, 0))
      have hf3 := hS0.2.2.2.2.2.2.2.2.2.trans (Fr.alloc (ch := nothing) wq (Obj.cells #[.int .i64 x, .slice qa right.length qc, .int .i64 prec, .bool has, .string action, .int .i64 whr] 45 (0, 0)))
      clear hS0
      generalize wq.alloc (Obj.cells #[.int .i64 x, .slice qa right.length qc, .int .i64 prec, .bool has, .string action, .int .i64 whr] 45 (0, 0)) = W3 at *
      generalize wq.heap.size = bp at *
      have HX3 := Lib.hid (And.intro hx3 hf3)
      have hw3 := hf3.size
      clear hx3 hf3 t1 t2 e3 hk
      have hrl := HR.out.1.2.1
      generalize wr = wA at *
      go_wp2
      go_loopw [3, 16, 17] (fun at2 out i wr => ∃ (a2 k2 : Nat) (os : List Nat) (oa : Option Addr) (oc : Nat), a2 ≤ nc ∧ at2 = .int .i64 a2 ∧ out = .slice oa os.length oc ∧ k2 ≤ right.length ∧ i = .int .i64 k2 ∧ RowI wr W3.heap.size out os ∧ os.length ≤ 301 * d ∧ DerL ⟨terms, syms, prods⟩ (right.take k2) os ∧
          Below W3.heap.size W3 wr) (fun _ _ i _ => right.length - (intOf i).toNat)
      case atStart => exact ⟨at_ + 1, 0, [], none, 0, e4, by simp, rfl, Nat.zero_le _, rfl, rowI_nil _ _, Nat.zero_le _, .nil, Below.refl _ _⟩
      case round =>
        obtain ⟨a2, k2, os, oa, oc, ha2, rfl, rfl, hk2, rfl, hrow, hos, hder, hB⟩ := hrel
        have hBw2 : Below w.heap.size w wr := (HB.out.trans (HX3.out.2.below_new.mono HB.out.size)).trans (hB.mono (Nat.le_trans HB.out.size hw3))
        have hF3 : Fr nothing W3 wr := Fr.new hB
        have hF1 : Fr nothing wA wr := HX3.out.2.trans hF3
        have HBF := Lib.hid hBw2
        by_cases hlt : k2 < right.length
        · have cG := (hF1.trans (Fr.refl _ _)).obj ((Fr.of_below HK.out.2.2).obj HO.out fun e => by unfold from_ at e; omega) id
          have cG0 := obj_cell cG 0 rfl
          have cG1 := obj_cell cG 1 rfl
          have cG2 := obj_cell cG 2 rfl
          have cP := obj_cell (hF3.obj HX3.out.1 id) 1 rfl
          obtain ⟨rb, ro, hqa, -, -, hry, -⟩ := (HR.out.1.fr hF1).at hlt
          subst hqa
          obtain ⟨⟨-, -⟩, hyR⟩ := HIN.out _ HR.out.2
          obtain ⟨hy0, hy1⟩ := hyR _ (List.getElem_mem hlt)
          obtain ⟨y, hy⟩ : ∃ y : Nat, right[k2] = (y : Int) := ⟨right[k2].toNat, by omega⟩
          rw [hy] at hry hy0 hy1
          have hyn : y < syms.length := by simp only at hy1; omega
          have hdd : (d : Int) - 1 = (d' : Int) := by have := HD.out; omega
          have hdw : IntKind.i64.wrap (d' : Int) = (d' : Int) := IntWalk.i64_in _ (by have := HD.out; omega)
          have hg := HG.out
          have HCL := Lib.hid fun W (k : Fr nothing wr W) => hIH.out y a2 _ W hyn (by rw [HNC.out]; exact ha2) (hg.fr (Fr.new (hBw2.trans (k.below_new.mono hBw2.size)))) (HC.out.fr (Fr.new (hBw2.trans (k.below_new.mono hBw2.size))))
          have HRW := Lib.hid (And.intro hrow (And.intro hos (And.intro hder hB)))
          clear hg hrow hos hder hB hBw2 hF3 hF1 hyR cG
          go_upto_region 17 with fail
          obtain ⟨wq, hq⟩ : ∃ wq, wq = wr.drew := ⟨_, rfl⟩
          have kq : Fr nothing wr wq := by rw [hq]; exact Fr.drew _
          have hS0 : wq.cell? ⟨w.heap.size, 0, none⟩ = some (.int .i64 terms) ∧ wq.cell? ⟨w.heap.size, 1, none⟩ = some (.slice sa syms.length sc) ∧ wq.cell? ⟨w.heap.size, 2, none⟩ = some (.slice (some ⟨pg, po, none⟩) k pc) ∧ wq.cell? ⟨bp, 1, none⟩ = some (.slice (some ⟨rb, ro, none⟩) right.length qc) ∧ wq.cell? ⟨rb, ro + k2, none⟩ = some (.int .i64 y) ∧ Fr nothing wr wq :=
            ⟨kq.cell cG0 id, kq.cell cG1 id, kq.cell cG2 id, kq.cell cP id, kq.cell hry id, kq⟩
          refine wp_region_anyT (fun j W => j < 10 → W.cell? ⟨w.heap.size, 0, none⟩ = some (.int .i64 terms) ∧ W.cell? ⟨w.heap.size, 1, none⟩ = some (.slice sa syms.length sc) ∧ W.cell? ⟨w.heap.size, 2, none⟩ = some (.slice (some ⟨pg, po, none⟩) k pc) ∧ W.cell? ⟨bp, 1, none⟩ = some (.slice (some ⟨rb, ro, none⟩) right.length qc) ∧ W.cell? ⟨rb, ro + k2, none⟩ = some (.int .i64 y) ∧ Fr nothing wr W) (by kernel_rfl) ?_
          rw [← hq]
          clear hq kq cG0 cG1 cG2 cP hry
          refine anyT_take (R := _) (i := 0) (v := ?_) (fun j => decide (j < 10)) (fun j w h k => k (of_decide_eq_true h)) (fun w h _ => h) rfl (by kernel_rfl) (fun _ _ _ h => h) _ _ _ _ (by kernel_rfl) (by kernel_rfl) (by kernel_rfl) (by kernel_rfl) (Or.inl ⟨by rfl, ?_⟩) (by assumption) ?_
          rotate_left
          · (intro w hSw; (try dsimp only at hSw); go_simp)
            try with_reducible rfl
          refine anyT_take (R := _) (i := 1) (v := ?_) (fun j => decide (j < 10)) (fun j w h k => k (of_decide_eq_true h)) (fun w h _ => h) rfl (by kernel_rfl) (fun _ _ _ h => h) _ _ _ _ (by kernel_rfl) (by kernel_rfl) (by kernel_rfl) (by kernel_rfl) (Or.inl ⟨by rfl, ?_⟩) (by assumption) ?_
          rotate_left
          · (intro w hSw; (try dsimp only at hSw); go_simp)
            try with_reducible rfl
          refine anyT_take (R := _) (i := 2) (v := ?_) (fun j => decide (j < 10)) (fun j w h k => k (of_decide_eq_true h)) (fun w h _ => h) rfl (by kernel_rfl) (fun _ _ _ h => h) _ _ _ _ (by kernel_rfl) (by kernel_rfl) (by kernel_rfl) (by kernel_rfl) (Or.inl ⟨by rfl, ?_⟩) (by assumption) ?_
          rotate_left
          · (intro w hSw; (try dsimp only at hSw); go_simp)
            try with_reducible rfl
          refine anyT_take (R := _) (i := 3) (v := ?_) (fun j => decide (j < 10)) (fun j w h k => k (of_decide_eq_true h)) (fun w h _ => h) rfl (by kernel_rfl) (fun _ _ _ h => h) _ _ _ _ (by kernel_rfl) (by kernel_rfl) (by kernel_rfl) (by kernel_rfl) (Or.inl ⟨by rfl, ?_⟩) (by assumption) ?_
          rotate_left
          · (intro w hSw; (try dsimp only at hSw); go_simp)
            try with_reducible rfl
          refine anyT_take (R := _) (i := 4) (v := ?_) (fun j => decide (j < 10)) (fun j w h k => k (of_decide_eq_true h)) (fun w h _ => h) rfl (by kernel_rfl) (fun _ _ _ h => h) _ _ _ _ (by kernel_rfl) (by kernel_rfl) (by kernel_rfl) (by kernel_rfl) (Or.inl ⟨by rfl, ?_⟩) (by assumption) ?_
          rotate_left
          · (intro w hSw; (try dsimp only at hSw); go_simp)
            try with_reducible rfl
          refine anyT_take (R := _) (i := 5) (v := ?_) (fun j => decide (j < 10)) (fun j w h k => k (of_decide_eq_true h)) (fun w h _ => h) rfl (by kernel_rfl) (fun _ _ _ h => h) _ _ _ _ (by kernel_rfl) (by kernel_rfl) (by kernel_rfl) (by kernel_rfl) (Or.inl ⟨by rfl, ?_⟩) (by assumption) ?_
          rotate_left
          · (intro w hSw; (try dsimp only at hSw); go_simp)
            try with_reducible rfl
          refine anyT_take (R := _) (i := 6) (v := ?_) (fun j => decide (j < 10)) (fun j w h k => k (of_decide_eq_true h)) (fun w h _ => h) rfl (by kernel_rfl) (fun _ _ _ h => h) _ _ _ _ (by kernel_rfl) (by kernel_rfl) (by kernel_rfl) (by kernel_rfl) (Or.inl ⟨by rfl, ?_⟩) (by assumption) ?_
          rotate_left
          · (intro w hSw; (try dsimp only at hSw); go_simp)
            try with_reducible rfl
          refine anyT_take (R := _) (i := 7) (v := ?_) (fun j => decide (j < 10)) (fun j w h k => k (of_decide_eq_true h)) (fun w h _ => h) rfl (by kernel_rfl) (fun _ _ _ h => h) _ _ _ _ (by kernel_rfl) (by kernel_rfl) (by kernel_rfl) (by kernel_rfl) (Or.inl ⟨by rfl, ?_⟩) (by assumption) ?_
          rotate_left
          · (intro w hSw; (try dsimp only at hSw); go_simp)
            try with_reducible rfl
          refine anyT_take (R := _) (i := 8) (v := ?_) (fun j => decide (j < 10)) (fun j w h k => k (of_decide_eq_true h)) (fun w h _ => h) rfl (by kernel_rfl) (fun _ _ _ h => h) _ _ _ _ (by kernel_rfl) (by kernel_rfl) (by kernel_rfl) (by kernel_rfl) (Or.inl ⟨by rfl, ?_⟩) (by assumption) ?_
          rotate_left
          · (intro w hSw; (try dsimp only at hSw); go_simp)
            try with_reducible rfl
          refine anyT_take (R := _) (i := 9) (v := ?_) (fun j => decide (j < 10)) (fun j w h k => k (of_decide_eq_true h)) (fun w h _ => h) rfl (by kernel_rfl) (fun _ _ _ h => h) _ _ _ _ (by kernel_rfl) (by kernel_rfl) (by kernel_rfl) (by kernel_rfl) (Or.inl ⟨by rfl, ?_⟩) (by assumption) ?_
          rotate_left
          · (intro w hSw; (try dsimp only at hSw); go_simp)
            try with_reducible rfl
          refine anyT_ready (rs := [10]) (by kernel_rfl) (by simp) ?_
          intro j hj
          obtain rfl := List.mem_singleton.1 hj
          clear hj
          refine wpOp_plain rfl rfl ?_
          go_simp
          with_reducible refine Calls.mono (HCL.out _ hS0.2.2.2.2.2) ?_
          rintro e w5 ⟨r, l, a3, ok, rfl, hx5⟩
          obtain ⟨ha3, hrw5, hl5, hd5, hB5⟩ := hx5
          rw [HNC.out] at ha3
          obtain ⟨la, lc, rfl, hlx⟩ := rowI_parts hrw5
          have hB6 : Below wr.heap.size wr w5 := hS0.2.2.2.2.2.below_new.trans (hB5.mono hS0.2.2.2.2.2.size)
          have hB7 : Below w.heap.size w w5 := HBF.out.trans (hB6.mono HBF.out.size)
          have hos5 := own_keep HRW.out.1.own (Fr.new hB6) fun _ _ e => e
          have hnews : (la = none ∧ l.length = 0) ∨ ∃ ad, la = some ad ∧ ∀ j u, (l.map fun x : Nat => Value.int .i64 (x : Int))[j]? = some u → w5.cell? (ad.add j) = some u := by
            rcases hlx with rfl | ⟨g, rfl, -, hc5⟩
            · cases la with
              | none => exact .inl ⟨rfl, rfl⟩
              | some ad => exact .inr ⟨ad, rfl, fun j u hj => by simp at hj⟩
            · exact .inr ⟨_, rfl, cells_add hc5⟩
          have hb8 : W3.heap.size ≤ w5.heap.size := Nat.le_trans HRW.out.2.2.2.size hB6.size
          have H5 := Lib.hid (And.intro hnews (And.intro hos5 (And.intro hd5 (And.intro hB6 hB7))))
          have hlm : l.length ≤ 10000 := by have := HD.out; omega
          have HL5 := Lib.hid hl5
          clear hrw5 hl5 hd5 hlx hB5 hB6 hB7 hos5 hnews hS0
          dsimp only
          refine anyT_take (R := fun _ => True) (i := 11) (v := ?_) (fun _ => true) (fun _ _ _ _ => trivial) (fun _ _ h => absurd h (by decide)) rfl (by kernel_rfl) (fun _ _ _ h => h) _ _ _ _ (by kernel_rfl) (by kernel_rfl) (by kernel_rfl) (by kernel_rfl) (Or.inl ⟨by rfl, ?_⟩) trivial ?_
          rotate_left
          · (intro w hSw; (try dsimp only at hSw); go_simp)
            try with_reducible rfl
          refine anyT_take (R := fun _ => True) (i := 12) (v := ?_) (fun _ => true) (fun _ _ _ _ => trivial) (fun _ _ h => absurd h (by decide)) rfl (by kernel_rfl) (fun _ _ _ h => h) _ _ _ _ (by kernel_rfl) (by kernel_rfl) (by kernel_rfl) (by kernel_rfl) (Or.inl ⟨by rfl, ?_⟩) trivial ?_
          rotate_left
          · (intro w hSw; (try dsimp only at hSw); go_simp)
            try with_reducible rfl
          refine anyT_take (R := fun _ => True) (i := 13) (v := ?_) (fun _ => true) (fun _ _ _ _ => trivial) (fun _ _ h => absurd h (by decide)) rfl (by kernel_rfl) (fun _ _ _ h => h) _ _ _ _ (by kernel_rfl) (by kernel_rfl) (by kernel_rfl) (by kernel_rfl) (Or.inl ⟨by rfl, ?_⟩) trivial ?_
          rotate_left
          · (intro w hSw; (try dsimp only at hSw); go_simp)
            try with_reducible rfl
          refine anyT_take (R := fun _ => True) (i := 14) (v := ?_) (fun _ => true) (fun _ _ _ _ => trivial) (fun _ _ h => absurd h (by decide)) rfl (by kernel_rfl) (fun _ _ _ h => h) _ _ _ _ (by kernel_rfl) (by kernel_rfl) (by kernel_rfl) (by kernel_rfl) (Or.inl ⟨by rfl, ?_⟩) trivial ?_
          rotate_left
          · (intro w hSw; (try dsimp only at hSw); go_simp)
            try with_reducible rfl
          refine anyT_ready (rs := [15]) (by kernel_rfl) (by simp) ?_
          intro j hj
          obtain rfl := List.mem_singleton.1 hj
          clear hj
          refine wpOp_plain rfl rfl ?_
          go_simp
          refine anyT_ready (rs := [16]) (by kernel_rfl) (by simp) ?_
          intro j hj
          obtain rfl := List.mem_singleton.1 hj
          clear hj
          refine wpOp_plain rfl rfl ?_
          go_simp
          refine anyT_ready (rs := [17]) (by kernel_rfl) (by simp) ?_
          intro j hj
          obtain rfl := List.mem_singleton.1 hj
          clear hj
          refine wpOp_plain rfl rfl ?_
          go_simp
          refine anyT_done (by kernel_rfl) ?_ _
          cases ok
          · go_wp2
            go_ret3
            exact ⟨_, [], a2, false, rfl, by rw [HNC.out]; exact ha2, rowI_nil _ _, by simp, fun e => (by cases e), H5.out.2.2.2.2⟩
          · by_cases h300 : 300 < os.length
            · go_wp2
              go_ret3
              exact ⟨_, [], a2, false, rfl, by rw [HNC.out]; exact ha2, rowI_nil _ _, by simp, fun e => (by cases e), H5.out.2.2.2.2⟩
            · go_wp2_with (at_builtin; refine wpList_append_any rfl _ _ 26 rfl W3.heap.size 3 i0 (.int .i64 0) 1 8 Tryd.underlying26 hi hz0 hz1 hz2 rfl (by decide) _ _ _ rfl H5.out.2.1 la l.length lc (l.map fun x : Nat => Value.int .i64 (x : Int)) rfl (by simp) H5.out.1 (by simp [Value.oneCell']) (by unfold maxLen; omega) (by omega) hb8 ?_; intro v6 w6 hown6 hgrow6; obtain ⟨va, vcp, rfl, _⟩ := own_as_cells hown6)
              go_roundw
              case rel =>
                have hD := HD.out
                have hL5 := HL5.out
                have hlen : (os ++ l).length = os.length + l.length := List.length_append
                refine ⟨a3, k2 + 1, os ++ l, va, vcp, ha3, rfl, by rw [hlen], by omega, by simp, ?_, by omega, ?_, ?_⟩
                · unfold RowI; rw [hlen]; simpa using hown6
                · rw [takes_snoc hlt]
                  refine derL_snoc HRW.out.2.2.1 ?_
                  rw [hy]
                  exact H5.out.2.2.1 rfl
                · exact ((HRW.out.2.2.2.trans (H5.out.2.2.2.1.mono HRW.out.2.2.2.size)).grown hgrow6 hb8 fun g e => own_above HRW.out.1.own g e)
              case measure => simp [intOf]; omega
        · obtain rfl : k2 = right.length := by omega
          rw [List.take_of_length_le (Nat.le_refl _)] at hder
          have HRW := Lib.hid (And.intro hrow (And.intro hos hder))
          have cP := obj_cell (hF3.obj HX3.out.1 id) 1 rfl
          clear hrow hos hder hB hBw2 hF3 hF1 hlt
          go_wp2
          go_ret3
          exact ⟨_, os, a2, true, rfl, by rw [HNC.out]; exact ha2, own_down HRW.out.1.own (Nat.le_trans HB.out.size hw3), by have := HRW.out.2.1; omega, fun _ => by
            have := Der.prod (G := ⟨terms, syms, prods⟩) HR.out.2 HRW.out.2.2
            simpa using this, HBF.out⟩
theorem grown_any (G : Gram) (hr : rightG G = true) (vc : Value) (cs : List Int) (hcl : cs.length ≤ 200) : ∀ d, d ≤ 30 → GrownAt G vc cs d := by
  intro d
  induction d with
  | zero =>
    intro hd x at_ v w hx ha hg hc
    by_cases hxt : (x : Int) < G.terms
    · exact grown_term G vc cs 0 x at_ v w hxt ha hg
    · exact grown_step G hr vc cs hcl 0 hd (fun d' e => by omega) x at_ v w hx hxt ha hg hc
  | succ d ih =>
    intro hd x at_ v w hx ha hg hc
    by_cases hxt : (x : Int) < G.terms
    · exact grown_term G vc cs (d + 1) x at_ v w hxt ha hg
    · exact grown_step G hr vc cs hcl (d + 1) hd (fun d' e => (show d = d' by omega) ▸ ih (by omega)) x at_ v w hx hxt ha hg hc
end Go.Proofs.YtfhleelechbdmaaDoor
