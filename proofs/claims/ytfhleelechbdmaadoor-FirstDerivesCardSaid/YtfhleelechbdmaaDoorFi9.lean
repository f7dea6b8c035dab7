/-
  Package first: begin.
-/
import Derived.Test.YtfhleelechbdmaaDoorFi8
import Derived.Test.YtfhleelechbdmaaDoorAnyT
import Derived.BigQuiet
namespace Go.Proofs.YtfhleelechbdmaaDoor
open Go.RowKit
set_option maxHeartbeats 400000

theorem PSet.inj {w : World} {B p : Nat} {v : Value} {bs bs' : List Bool} (h : PSet w B p v bs) (h' : PSet w B p v bs') (hl : bs.length = bs'.length) : bs = bs' := by
  obtain ⟨ws, h, hr⟩ := h
  obtain ⟨ws', h', hr'⟩ := h'
  have hlen : ws.length = ws'.length := by rw [h.len, h'.len, hl]
  have he : ws = ws' := by
    rcases h.own.2 with ⟨h1, h2⟩ | ⟨g, cap, cur, hv, _, hg, _, _, hc, ht⟩
    · have : ws.length = 0 := by simpa using h2
      have h3 : ws = [] := List.length_eq_zero_iff.1 this
      have h4 : ws' = [] := List.length_eq_zero_iff.1 (by omega)
      rw [h3, h4]
    · rcases h'.own.2 with ⟨h1', _⟩ | ⟨g', cap', cur', hv', _, hg', _, _, hc', ht'⟩
      · rw [h1'] at hv
        cases hv
      · rw [hv] at hv'
        simp only [Value.slice.injEq, Option.some.injEq, Addr.mk.injEq] at hv'
        obtain ⟨⟨rfl, -⟩, -⟩ := hv'
        rw [hg] at hg'
        simp only [Option.some.injEq, Obj.cells.injEq] at hg'
        rw [← hg'.1, ← hlen, ht] at ht'
        exact (List.map_inj_right fun a b e => by have := (Value.int.inj e).2; omega).1 ht'
  subst he
  exact list_of_at hl fun s => by unfold atB; rw [← hr s, ← hr' s]
theorem SetsM.inj {w : World} {B q n T : Nat} {ps : List (Nat × Value)} {S S' : List (List Bool)} (h : SetsM w B q ps S) (h' : SetsM w B q ps S') (hp : ps.length = n) (ho : RowsOk n T S) (ho' : RowsOk n T S') : S = S' := by
  refine List.ext_getElem (ho.len.trans ho'.len.symm) fun i h1 h2 => ?_
  have hi : i < n := by rw [← ho.len]; exact h1
  have hip : i < ps.length := by omega
  have := (h.sets i hip).inj (h'.sets i hip) ((ho.at hi).1.trans (ho'.at hi).1.symm)
  unfold rowAt at this
  rw [List.getElem?_eq_getElem h1, List.getElem?_eq_getElem h2] at this
  exact this
theorem fr_join {a b c : World} {q : Nat} {ch : Nat → Prop} (h : Fr (only q) a b) (k : Fr ch b c) (hc : ∀ g, ch g → g = q ∨ a.heap.size ≤ g) : Fr (only q) a c :=
  ⟨k.os.trans h.os, k.tape.trans h.tape, k.output.trans h.output, Nat.le_trans h.size k.size, fun i hi hn => (k.block i (Nat.lt_of_lt_of_le hi h.size) (fun e => (hc i e).elim (fun e => hn e) fun e => by omega)).trans (h.block i hi hn)⟩
theorem BeMem.fresh {w w' : World} {B q nb s5 s4 n : Nat} {ps : List (Nat × Value)} {no : List Bool} {S : List (List Bool)} (h : BeMem w B q nb s5 s4 n ps no S) (k : Fr nothing w w') : BeMem w' B q nb s5 s4 n ps no S :=
  ⟨h.m.fresh k, k.obj h.none_ fun e => e, k.obj h.box5 fun e => e, k.obj h.box4 fun e => e⟩
theorem enters31 : Enters Tryd.prog 31 := enters_of Tryd.func31 (by kernel_rfl) rfl
set_option maxRecDepth 100000 in
set_option maxHeartbeats 4000000 in
theorem begin_any (G : Gram) (hr : rightG G = true) (v : Value) (w : World) (h : IsGram w v G) (hT : Tab w) :
    Calls Tryd.prog 19 #[v] w fun e w' => ∃ q nb ps S, e = .returned (.tuple #[.slice (some ⟨q, 0, none⟩) G.syms.length G.syms.length, .slice (some ⟨nb, 0, none⟩) G.syms.length G.syms.length]) ∧
      ps.length = G.syms.length ∧ RowsOk G.syms.length G.terms.toNat S ∧ SetsM w' w.heap.size q ps S ∧ w'.heap[nb]? = some (boolsObj (nulL G)) ∧ (∀ s t, atB (rowAt S s) t = true ↔ Fst G s t) ∧ Below w.heap.size w w' := by
  have hin := right_in hr
  obtain ⟨⟨ht0, ht1, hn0, hn1, _, _⟩, _, _⟩ := rightG_parts hr
  have hG := h
  obtain ⟨hterms, vs, vp, rfl, hs, hp⟩ := h
  obtain ⟨_, sa, sc, rfl, _, _, _⟩ := id hs
  obtain ⟨_, pa, pc, rfl, _, _, _⟩ := id hp
  obtain ⟨j0, hj, hy0, hy1, hy2⟩ := info_parts Tryd.infoSetP
  obtain ⟨T, hTe⟩ : ∃ T : Nat, G.terms = (T : Int) := ⟨G.terms.toNat, by omega⟩
  have htb := World.block_lt_of_cell? w _ (hT 0 (by omega))
  simp only at htb
  have hTn : G.terms.toNat = T := by omega
  have HO := Lib.hid (alloc_obj w (Obj.cells #[.int .i64 T, .slice sa G.syms.length sc, .slice pa G.prods.length pc] 25 (0, 0)))
  have HB1 := Lib.hid ((Below.refl _ w).alloc (Nat.le_refl _) (Obj.cells #[.int .i64 T, .slice sa G.syms.length sc, .slice pa G.prods.length pc] 25 (0, 0)))
  have hV : Calls Tryd.prog 18 #[.agg #[.int .i64 T, .slice sa G.syms.length sc, .slice pa G.prods.length pc]] (w.alloc (Obj.cells #[.int .i64 T, .slice sa G.syms.length sc, .slice pa G.prods.length pc] 25 (0, 0))) fun e w' => ∃ nb, e = .returned (.slice (some ⟨nb, 0, none⟩) G.syms.length G.syms.length) ∧
      w'.heap[nb]? = some (boolsObj (nulL G)) ∧ w'.heap[w.heap.size]? = some (Obj.cells #[.int .i64 T, .slice sa G.syms.length sc, .slice pa G.prods.length pc] 25 (0, 0)) ∧ Below w.heap.size w w' := by
    rw [← hTe] at HO HB1 ⊢
    refine (vanish_any G hr _ _ (hG.fr (Fr.alloc _ _))).mono ?_
    rintro e w' ⟨r, rfl, b, rfl, h1, h2, h3⟩
    rw [nulL_len]
    exact ⟨b, rfl, h2, (Fr.new h3).obj HO.out fun e => e, HB1.out.trans (h3.mono (by simp))⟩
  have HV := Lib.hid hV
  have HG := Lib.hid hG
  have HIN := Lib.hid hin
  have HTB := Lib.hid hT
  have HLAW := Lib.hid fun S => be_law (S := S) hin (no := nulL G) (fun s => nulL_iff hin) (by omega)
  have HGD := Lib.hid (be_good (T := T) (nulL G) hin)
  have HNL := Lib.hid (nulL_len G)
  have hTT : ((T : Nat) : Int).toNat = T := by simp
  rw [hTn] at HLAW
  rw [hTe, hTT]
  rw [hTe] at HG
  have hT64 : T ≤ 64 := by omega
  clear hV hG hs hp hin hr hT hTT hTe
  obtain ⟨n, hn⟩ : ∃ n, G.syms.length = n := ⟨_, rfl⟩
  rw [hn] at HV HLAW HGD HNL HO HB1 HG hn0 hn1 ⊢
  have HNN := Lib.hid hn
  have HLT := Lib.hid htb
  clear hn htb
  generalize nulL G = no at *
  go_enter Tryd.func19, Tryd.ntmps19
  go_upto_region 2 with (first | (go_at_call 18; refine HV.out.mono ?_; rintro e w2 ⟨nb, rfl, hx2⟩; have HX2 := Lib.hid hx2; clear hx2))
  obtain ⟨hbo, hO2, hb2⟩ := HX2.out
  refine wp_atW (F := fun W => W.heap[w.heap.size]? = some (Obj.cells #[.int .i64 T, .slice sa n sc, .slice pa G.prods.length pc] 25 (0, 0)) ∧ W.heap[nb]? = some (boolsObj no) ∧ W.heap[w2.heap.size]? = some (boxB nb n) ∧ Below w.heap.size w W) ?_ ?_
  · exact ⟨alloc_older hO2, alloc_older hbo, alloc_obj _ _, hb2.alloc hb2.size _⟩
  intro W ⟨hO, hbo, hx4, hB⟩
  clear HO HB1 HV hb2 hO2 HX2
  have d1 := obj_cell hO 1 rfl
  have hbW := hB.size
  go_upto_region 3 with (first | (at_make; refine wpList_make_full _ rfl _ _ 49 rfl W.heap.size 52 j0 (.pointer none) 1 Tryd.underlying49 hj hy0 hy1 .i64 .i64 _ _ n rfl rfl rfl rfl (by rw [hy2]; omega) (by unfold maxLen; omega) (Nat.le_refl _) ?_; intro w4 hown hgrow))
  have hq4 := made_ptrs hown
  have hF4 := Fr.grown hgrow
  have hO4 := hF4.obj hO (fun e => by cases e)
  have hbo4 := hF4.obj hbo (fun e => by cases e)
  have hx44 := hF4.obj hx4 (fun e => by cases e)
  have hB4 : Below w.heap.size w w4 := hB.grown hgrow hB.size (fun k e => by cases e)
  refine wp_atW (F := fun Y => Y.heap[w.heap.size]? = some (Obj.cells #[.int .i64 T, .slice sa n sc, .slice pa G.prods.length pc] 25 (0, 0)) ∧ Y.heap[nb]? = some (boolsObj no) ∧ Y.heap[w2.heap.size]? = some (boxB nb n) ∧ Y.heap[W.heap.size]? = some (partO [] n) ∧ Y.heap[w4.heap.size]? = some (boxP W.heap.size n) ∧ Below w.heap.size w Y) ?_ ?_
  · exact ⟨alloc_older hO4, alloc_older hbo4, alloc_older hx44, alloc_older hq4, alloc_obj _ _, hB4.alloc hB4.size _⟩
  clear hown hgrow hq4 hF4 hO4 hbo4 hx44 hB4 hO hbo hx4 hB d1
  generalize W.heap.size = q at *
  generalize w2.heap.size = s4 at *
  generalize w4.heap.size = s5 at *
  intro Y ⟨hO, hbo, hx4, hq, hx5, hB⟩
  have e5 := obj_cell hx5 0 rfl
  have HY := Lib.hid (And.intro hO (And.intro hbo (And.intro hx4 (And.intro hx5 hB))))
  have HQ := Lib.hid hq
  have hqO : s5 ≠ q := fun e => by subst e; rw [hx5] at hq; simp [boxP, partO] at hq
  clear hO hbo hx4 hx5 hB hq
  have HQN := Lib.hid (And.intro hqO hbW)
  clear hqO
  go_wp2
  go_loopw [6, 15] (fun _ i wr => ∃ (k : Nat) (ps : List (Nat × Value)), k ≤ n ∧ i = .int .i64 k ∧ ps.length = k ∧ PartM wr w.heap.size q n T ps ∧ Fr (only q) Y wr) (fun _ i _ => n - (intOf i).toNat)
  case atStart => exact ⟨0, [], Nat.zero_le _, rfl, rfl, ⟨HQ.out, Nat.zero_le _, fun i h => absurd h (Nat.not_lt_zero _), fun i j h => absurd h (Nat.not_lt_zero _)⟩, Fr.refl _ _⟩
  case round =>
    obtain ⟨k, ps, hk, rfl, hps, hP, hF⟩ := hrel
    have hqlt := (Array.getElem?_eq_some_iff.1 hP.row).1
    have hnq : ∀ b cs t f, Y.heap[b]? = some (.cells cs t f) → 52 ≠ t → ¬ only q b := fun b cs t f hb hne e => by
      unfold only at e
      rw [e, HQ.out] at hb
      simp only [partO, Option.some.injEq, Obj.cells.injEq] at hb
      exact hne hb.2.1
    have hO := hF.obj HY.out.1 (hnq _ _ _ _ HY.out.1 (by decide))
    have hbo := hF.obj HY.out.2.1 (hnq _ _ _ _ HY.out.2.1 (by decide))
    have hx4 := hF.obj HY.out.2.2.1 (hnq _ _ _ _ HY.out.2.2.1 (by decide))
    have hx5 := hF.obj HY.out.2.2.2.1 (hnq _ _ _ _ HY.out.2.2.2.1 (by decide))
    have hBr := HY.out.2.2.2.2.trans (hF.below HY.out.2.2.2.2.size fun k e => by unfold only at e; rw [e]; exact HQN.out.2)
    by_cases hlt : k < n
    · skip
      subst hps
      have c5 : wr.cell? ⟨s5, 0, none⟩ = some (.slice (some ⟨q, 0, none⟩) n n) := obj_cell hx5 0 rfl
      have cT : wr.cell? ⟨w.heap.size, 0, none⟩ = some (.int .i64 T) := obj_cell hO 0 rfl
      have HK := Lib.hid (And.intro hP (And.intro hF (And.intro hO (And.intro hx5 hBr))))
      clear hP hF hO hbo hx4 hx5 hBr hnq
      go_wp2_with fail
      obtain ⟨wq, hq⟩ : ∃ wq, wq = wr.drew := ⟨_, rfl⟩
      have kq : Fr nothing wr wq := by rw [hq]; exact Fr.drew _
      have hS0 : wq.cell? ⟨s5, 0, none⟩ = some (.slice (some ⟨q, 0, none⟩) n n) ∧ wq.cell? ⟨w.heap.size, 0, none⟩ = some (.int .i64 T) ∧ Fr nothing wr wq := ⟨kq.cell c5 fun e => e, kq.cell cT fun e => e, kq⟩
      have HC := Lib.hid (And.intro c5 cT)
      clear c5 cT
      refine wp_region_anyT (fun j W => j < 6 → W.cell? ⟨s5, 0, none⟩ = some (.slice (some ⟨q, 0, none⟩) n n) ∧ W.cell? ⟨w.heap.size, 0, none⟩ = some (.int .i64 T) ∧ Fr nothing wr W) (by kernel_rfl) ?_
      rw [← hq]
      clear hq
      refine anyT_take (R := _) (i := 0) (v := ?_) (fun j => decide (j < 6)) (fun j w h k => k (of_decide_eq_true h)) (fun w h _ => h) rfl (by kernel_rfl) (fun _ _ _ h => h) _ _ _ _ (by kernel_rfl) (by kernel_rfl) (by kernel_rfl) (by kernel_rfl) (Or.inl ⟨by rfl, ?_⟩) (by assumption) ?_
      rotate_left
      · (intro w hSw; (try dsimp only at hSw); go_simp)
        try with_reducible rfl
      refine anyT_take (R := _) (i := 1) (v := ?_) (fun j => decide (j < 6)) (fun j w h k => k (of_decide_eq_true h)) (fun w h _ => h) rfl (by kernel_rfl) (fun _ _ _ h => h) _ _ _ _ (by kernel_rfl) (by kernel_rfl) (by kernel_rfl) (by kernel_rfl) (Or.inl ⟨by rfl, ?_⟩) (by assumption) ?_
      rotate_left
      · (intro w hSw; (try dsimp only at hSw); go_simp)
        try with_reducible rfl
      refine anyT_take (R := _) (i := 2) (v := ?_) (fun j => decide (j < 6)) (fun j w h k => k (of_decide_eq_true h)) (fun w h _ => h) rfl (by kernel_rfl) (fun _ _ _ h => h) _ _ _ _ (by kernel_rfl) (by kernel_rfl) (by kernel_rfl) (by kernel_rfl) (Or.inl ⟨by rfl, ?_⟩) (by assumption) ?_
      rotate_left
      · (intro w hSw; (try dsimp only at hSw); go_simp)
        try with_reducible rfl
      refine anyT_take (R := _) (i := 3) (v := ?_) (fun j => decide (j < 6)) (fun j w h k => k (of_decide_eq_true h)) (fun w h _ => h) rfl (by kernel_rfl) (fun _ _ _ h => h) _ _ _ _ (by kernel_rfl) (by kernel_rfl) (by kernel_rfl) (by kernel_rfl) (Or.inl ⟨by rfl, ?_⟩) (by assumption) ?_
      rotate_left
      · (intro w hSw; (try dsimp only at hSw); go_simp)
        try with_reducible rfl
      refine anyT_ready (rs := [4]) (by kernel_rfl) (by simp) ?_
      intro j hj
      obtain rfl := List.mem_singleton.1 hj
      clear hj
      refine wpOp_plain rfl rfl ?_
      go_simp
      refine (pNew T _ (by omega)).mono ?_
      rintro e w1 ⟨p, v, rfl, hp, hb⟩
      dsimp only
      have k1 : Fr nothing wr w1 := kq.trans (Fr.new hb)
      have r1 := k1.obj HK.out.1.row fun e => e
      have f1 := obj_frozen r1 ps.length
      have z1 := part_cell r1 hlt
      have HR1 := Lib.hid r1
      have hp := hp.weaken kq.size
      have HP1 := Lib.hid (And.intro hp k1)
      clear r1 hp hb
      have hS1 : w1.cell? ⟨s5, 0, none⟩ = some (.slice (some ⟨q, 0, none⟩) n n) ∧ w1.cell? ⟨w.heap.size, 0, none⟩ = some (.int .i64 T) ∧ Fr nothing wr w1 := ⟨k1.cell HC.out.1 fun e => e, k1.cell HC.out.2 fun e => e, k1⟩
      refine ⟨hS1, ?_⟩
      refine anyT_ready (rs := [5]) (by kernel_rfl) (by simp) ?_
      intro j hj
      obtain rfl := List.mem_singleton.1 hj
      clear hj
      refine wpOp_plain rfl rfl ?_
      go_simp
      refine anyT_ready (rs := [6]) (by kernel_rfl) (by simp) ?_
      intro j hj
      obtain rfl := List.mem_singleton.1 hj
      clear hj
      refine wpOp_plain rfl rfl ?_
      go_simp
      refine anyT_done (by kernel_rfl) ?_ _
      have hX : (w1.setCell ⟨q, ps.length, none⟩ (.pointer (some ⟨p, 0, none⟩))).heap[q]? = some (partO (ps ++ [(p, v)]) n) := part_set HR1.out hlt (p, v)
      have kX : Fr (only q) w1 (w1.setCell ⟨q, ps.length, none⟩ (.pointer (some ⟨p, 0, none⟩))) := Fr.setCell w1 ⟨q, ps.length, none⟩ _
      generalize w1.setCell ⟨q, ps.length, none⟩ (.pointer (some ⟨p, 0, none⟩)) = X at *
      have hk1 := HP1.out.2
      have hp1 := HP1.out.1
      have c5X : X.cell? ⟨s5, 0, none⟩ = some (.slice (some ⟨q, 0, none⟩) n n) := kX.cell hS1.1 HQN.out.1
      have cTX : X.cell? ⟨w.heap.size, 0, none⟩ = some (.int .i64 T) := kX.cell hS1.2.1 (fun e => by have e2 := (hk1.obj HK.out.2.2.1 fun e => e); have e3 := HR1.out; unfold only at e; rw [← e, e2] at e3; simp [partO] at e3)
      have cqX := part_last hX
      have hpX := hp1.fr kX (fun e => hp1.notAt HR1.out (by decide) e) (fun g hg e => hp1.not HR1.out (by decide) (by rw [hg]; exact congrArg some e))
      have hFX : Fr (only q) Y X := (HK.out.2.1.trans hk1.wide).trans kX
      have hYr := HK.out.2.1.size
      have HX := Lib.hid (And.intro hX (And.intro kX (And.intro hpX hFX)))
      have HY2 := Lib.hid hYr
      clear hX kX hpX hFX hp1 hk1 hS1 hS0 kq k1 f1 z1 hYr
      by_cases hkT : ps.length < T
      · have HAD := Lib.hid (pAdd X _ p v _ HX.out.2.2.1 ((ps.length : Nat) : Int))
        go_wp2_with (go_at_call 24; refine HAD.out.mono ?_; rintro e w5 ⟨rfl, hp5, hf5⟩)
        go_roundw
        case rel =>
          have hpw := HP1.out.1.ge
          have hqr := (Array.getElem?_eq_some_iff.1 HK.out.1.row).1
          have hf6 : Fr (fun g => g = q ∨ v.ownBlock = some g) X w5 := hf5.mono fun g _ e => .inr e.2
          refine ⟨ps.length + 1, ps ++ [(p, v)], by omega, by simp, by simp, HK.out.1.next hlt HK.out.2.2.2.2.size HP1.out.2 HP1.out.1 ?_ ?_ ?_, ?_⟩
          · exact hf5.obj HX.out.1 (fun e => HX.out.2.2.1.not HX.out.1 (by decide) e.2)
          · rw [initS_row hlt, if_pos hkT]; exact hp5
          · exact ((HX.out.2.1.mono fun _ _ e => .inl e).trans hf6)
          · exact fr_join HX.out.2.2.2 hf6 fun g e => e.elim .inl fun e => .inr (Nat.le_trans HY2.out (hpw.2 g e))
        case measure => simp [intOf]; omega
      · go_wp2
        go_roundw
        case rel =>
          refine ⟨ps.length + 1, ps ++ [(p, v)], by omega, by simp, by simp, HK.out.1.next hlt HK.out.2.2.2.2.size HP1.out.2 HP1.out.1 HX.out.1 ?_ (HX.out.2.1.mono fun _ _ e => .inl e), HX.out.2.2.2⟩
          rw [initS_row hlt, if_neg hkT]
          exact HX.out.2.2.1
        case measure => simp [intOf]; omega
    · obtain rfl : k = n := by omega
      have hM : SetsM wr w.heap.size q ps (initS k T) := ⟨by rw [← partO_full ps k hps]; exact hP.row, hP.sets, hP.apart, HTB.out.fr (Fr.new hBr) fun e => e, HLT.out⟩
      have hI : BeMem wr w.heap.size q nb s5 s4 k ps no (initS k T) := ⟨hM, hbo, hx5, hx4⟩
      have hT := till_any (σ := List (List Bool)) G (ownsOf ps) (fun S X => BeMem X w.heap.size q nb s5 s4 k ps no S ∧ RowsOk k T S) (RowsOk k T) outR 31 #[.pointer (some ⟨s5, 0, none⟩), .pointer (some ⟨s4, 0, none⟩)] (beStep no) (initS k T) _ w wr HG.out ⟨hI, initS_ok k T⟩ (initS_ok k T) HGD.out
        ⟨hBr, fun g ⟨i, hi, e⟩ => ⟨(hM.sets i hi).ge.2 _ e, (hM.sets i hi).lt.2 _ e⟩, fun S S' X h h' => by rw [h.1.m.inj h'.1.m hps h.2 h'.2], fun S X o h => ⟨h.1.fresh (Fr.alloc _ _), h.2⟩⟩
        ⟨enters31, fun w1 _ hw1 S hV hI v p hp hv => (beStep_any w w1 k T w.heap.size q nb s5 s4 ps no S p v hw1 (Nat.le_refl _) hI.1 hV hps HNL.out hv (by have := HIN.out p hp; rw [HNN.out] at this; exact this)).mono fun e w' ⟨h1, h2, h3⟩ => ⟨h1, ⟨h2, HGD.out.ok p hp S hV⟩, h3⟩⟩
      have hold : ∀ g, ownsOf ps g → w.heap.size ≤ g := fun g ⟨i, hi, e⟩ => (hM.sets i hi).ge.2 _ e
      have HT := Lib.hid hT
      have HBR := Lib.hid (And.intro hBr hold)
      have HPS := Lib.hid hps
      have c1 := obj_cell hO 0 rfl
      have c2 := obj_cell hO 1 rfl
      have c3 := obj_cell hO 2 rfl
      clear hT hM hI hO hbo hx4 hx5 hBr hP hF hnq hold hps hlt
      go_upto_region 11 with (go_at_call 27; refine HT.out.mono ?_; rintro e w6 ⟨rfl, hx, hf⟩; have HX := Lib.hid hx; have HF6 := Lib.hid hf; clear hx hf)
      have c5 : w6.cell? ⟨s5, 0, none⟩ = some (.slice (some ⟨q, 0, none⟩) k k) := obj_cell (HX.out.elim fun _ h => h.2.2.2.1.box5) 0 rfl
      have c4 : w6.cell? ⟨s4, 0, none⟩ = some (.slice (some ⟨nb, 0, none⟩) k k) := obj_cell (HX.out.elim fun _ h => h.2.2.2.1.box4) 0 rfl
      clear c1 c2 c3
      go_quiet (fail)
      go_wp2
      go_ret2
      obtain ⟨S, hp, hc, hv, hI, -⟩ := HX.out
      exact ⟨q, nb, ps, S, rfl, HPS.out, hv, hI.m.fresh (Fr.drewN _ _), hI.none_, HLAW.out S hp hc, (HBR.out.1.trans (HF6.out.below HBR.out.1.size HBR.out.2)).trans ((Fr.drewN (ch := nothing) _ _).below_new.mono (Nat.le_trans HBR.out.1.size HF6.out.size))⟩
end Go.Proofs.YtfhleelechbdmaaDoor
