/-
  Package first: First.
-/
import Derived.Test.YtfhleelechbdmaaDoorFiC
namespace Go.Proofs.YtfhleelechbdmaaDoor
open Go.RowKit
set_option maxHeartbeats 400000

set_option maxRecDepth 100000 in
set_option maxHeartbeats 2000000 in
theorem firsts_any (G : Gram) (hr : rightG G = true) (v : Value) (w : World) (h : IsGram w v G) (hT : Tab w) :
    Calls Tryd.prog 10 #[v] w fun e w' => ∃ r vs S, e = .returned r ∧ vs.length = G.syms.length ∧ OutM w' w.heap.size r vs S ∧ (∀ s t, atB (rowAt S s) t = true ↔ Fst G s t) ∧ Below w.heap.size w w' := by
  obtain ⟨⟨ht0, ht1, hn0, hn1, _, _⟩, _, _⟩ := rightG_parts hr
  have hG := h
  obtain ⟨hterms, vs, vp, rfl, hs, hp⟩ := h
  have HB1 := Lib.hid ((Below.refl _ w).alloc (Nat.le_refl _) (Obj.cells #[.int .i64 G.terms, vs, vp] 25 (0, 0)))
  have hV := begin_any G hr _ (w.alloc (Obj.cells #[.int .i64 G.terms, vs, vp] 25 (0, 0))) (hG.fr (Fr.alloc _ _)) (hT.fr (Fr.alloc (ch := nothing) _ _) fun e => e)
  obtain ⟨i0, hi, hz0, hz1, hz2⟩ := info_parts Tryd.infoIntsF
  obtain ⟨_, sa, sc, rfl, _, _, _⟩ := id hs
  obtain ⟨_, pa, pc, rfl, _, _, _⟩ := id hp
  have HV := Lib.hid hV
  have htb := World.block_lt_of_cell? w _ (hT 0 (by omega))
  have HTB := Lib.hid hT
  clear hV hG hs hp hT
  obtain ⟨n, hn⟩ : ∃ n, G.syms.length = n := ⟨_, rfl⟩
  rw [hn] at HV HB1 hn0 hn1 ⊢
  have hn2 : n ≤ 200 := by omega
  clear hn
  go_enter_defers Tryd.func10, Tryd.ntmps10
  go_upto_region 3 with (go_at_call 19; refine HV.out.mono ?_; rintro e w2 ⟨q, nb, ps, S, rfl, hx⟩; have HX := Lib.hid hx; clear hx)
  have hx := HX.out
  obtain ⟨hps, hok, hM, -, hlaw, hBw⟩ := hx
  have HLAW := Lib.hid hlaw
  have HM := Lib.hid hM
  have HBW := Lib.hid (HB1.out.trans (hBw.mono HB1.out.size))
  have HPS := Lib.hid hps
  have HTW := Lib.hid hM.tab
  clear hps hok hM hlaw hBw HX HV HB1
  go_wp2
  go_loopw [2, 6, 14] (fun r _ i wr => ∃ (k : Nat) (vs : List Value) (ra : Option Addr) (rc : Nat), k ≤ n ∧ r = .slice ra k rc ∧ i = .int .i64 k ∧ vs.length = k ∧ OutM wr w2.heap.size r vs S ∧ Below w2.heap.size w2 wr) (fun _ _ i _ => n - (intOf i).toNat)
  case atStart => exact ⟨0, [], none, 0, Nat.zero_le _, rfl, rfl, rfl, ⟨World.ownsRow_nil _ _ _ _, fun i u hu => by simp at hu⟩, Below.refl _ _⟩
  case round =>
    obtain ⟨k, vs, ra, rc, hk, rfl, rfl, hvs, hO, hB⟩ := hrel
    by_cases hlt : k < n
    · subst hvs
      have hlp : vs.length < ps.length := by rw [HPS.out]; exact hlt
      have hm := HM.out.fresh (Fr.new hB)
      have cq := ptrs_cell hm.ptrs vs.length hlp
      have hA := pAll wr _ _ _ _ (hm.sets vs.length hlp) (HTW.out.fr (Fr.new hB) fun e => e)
      have HA := Lib.hid hA
      have HO := Lib.hid hO
      have hwB : w2.heap.size ≤ wr.heap.size := hB.size
      have HB := Lib.hid hB
      clear hA hO hB hm
      go_wp2_with (first | (go_at_call 20; refine HA.out.mono ?_; rintro e w3 ⟨u, rfl, hb3, ho3⟩; obtain ⟨ua, uc, rfl, _⟩ := own_as_cells ho3; have hO3 := (HO.out.keep (Fr.new hb3)).keep (Fr.alloc (ch := nothing) w3 (Obj.cells #[.slice ua (trues (rowAt S vs.length)).length uc] 26 (0, 0))); have hU3 := own_keep (own_down ho3 hwB) (Fr.alloc (ch := nothing) w3 (Obj.cells #[.slice ua (trues (rowAt S vs.length)).length uc] 26 (0, 0))) (fun _ _ e => e); have hc3 := obj_cell (alloc_obj w3 (Obj.cells #[.slice ua (trues (rowAt S vs.length)).length uc] 26 (0, 0))) 0 rfl; have hz3 := hb3.size; have HH := Lib.hid (And.intro hO3 (And.intro hU3 hb3)); clear hO3 hU3 hb3 ho3) | (at_builtin; refine wpList_append_own _ rfl _ _ 35 rfl w2.heap.size 26 i0 (.slice none 0 0) 1 24 Tryd.underlying35 hi hz0 hz1 hz2 rfl (by decide) _ _ _ rfl HH.out.1.own ⟨w3.heap.size, 0, none⟩ 1 1 [.slice ua (trues (rowAt S vs.length)).length uc] rfl rfl (fun j x hj => by cases j with | zero => (simp only [List.getElem?_cons_zero, Option.some.injEq] at hj; subst hj; exact hc3) | succ j => simp at hj) (by simp [Value.oneCell']) (by unfold maxLen; omega) (by omega) (by simp; omega) ?_; intro v' w4 hown4 hgrow4 _; obtain ⟨va, vc, rfl, _⟩ := own_as_cells hown4))
      go_roundw
      case rel => exact ⟨vs.length + 1, _, va, vc, by omega, rfl, by simp, by simp, HH.out.1.next HH.out.2.1 hown4 hgrow4, ((HB.out.trans (HH.out.2.2.mono HB.out.size)).alloc (by omega) _).grown hgrow4 (by simp; omega) fun g e => own_above HH.out.1.own g e⟩
      case measure => simp [intOf]; omega
    · obtain rfl : k = n := by omega
      have hO2 : OutM wr w.heap.size (.slice ra k rc) vs S := ⟨own_down hO.own HBW.out.size, fun i u hu => own_down (hO.rows i u hu) HBW.out.size⟩
      have HO := Lib.hid (And.intro hO2 (HBW.out.trans (hB.mono HBW.out.size)))
      have HVS := Lib.hid hvs
      clear hO2 hO hB hvs hlt
      go_wp2
      refine leaves_cons (f := 17) (args := #[]) (by simp) (by simp [go_sem]) ?_
      refine (quiet_idle _).mono ?_
      rintro e u' w3 ⟨rfl, rfl, rfl⟩
      simp [Leaves, settle, results, Tryd.results10, go_sem]
      exact ⟨vs, HVS.out, S, HO.out.1, HLAW.out, HO.out.2⟩
end Go.Proofs.YtfhleelechbdmaaDoor
