/-
  Package symbols: all, where nothing is thrown.
-/
import Derived.Test.YtehaoiimhgkckaaMakeE
import Derived.StillTailTactics
import Derived.Deep.RegionLaw
import Derived.Deep.AppendLies
namespace Go.Proofs.Ytehaoiimhgkckaa
open Go.RowKit Go.MapKept Go.ChangeMaps
set_option maxHeartbeats 400000

def txtO (dv rv : Value) : Obj := .cells #[dv, rv] 47 (0, 0)
def M0 : Mst := ⟨0, [], [], [], [], [], 0, nNone⟩
def M0e : Mst := ⟨0, [⟨nEnd, nNone, 0, 0⟩], [], [], [], [], 0, nNone⟩
def begM (M : Mst) : Int := (M.syms.length : Int) + 1 + (findN? M.rm M.start).getD 0
def midM (M : Mst) : Mst := { M with terms := M.syms.length, prods := [⟨M.syms.length, [begM M], -1, false, nNone, 0⟩] }
def finM (M : Mst) : Mst := { M with syms := M.syms ++ [⟨nAccept, nNone, 0, 0⟩] ++ M.named }
theorem sym_one (l : List Sym) : ∀ u ∈ l.flatMap symCells, u.oneCell' = true := fun u hu => by
  obtain ⟨y, _, hy⟩ := List.mem_flatMap.1 hu
  unfold symCells at hy
  simp only [List.mem_cons, List.not_mem_nil, or_false] at hy
  rcases hy with rfl | rfl | rfl | rfl <;> rfl
set_option maxRecDepth 100000 in
set_option maxHeartbeats 8000000 in
theorem all_ok (T : Txt) (v : Value) (M1 M2 M3 : Mst) (w0 w : World) (mb tb rb : Nat) (ht : IsTxt w0 v T) (h0 : Below w0.heap.size w0 w) (h : Lies w w0.heap.size mb tb rb M0)
    (hp : ∀ r ∈ T.rules, plainOk r = true) (hd : declsN M0e T.decls = some M1) (hr : rulesN M1 T.rules = some M2) (ha : prodsN 0 (midM M2) T.rules = some M3) (hne : T.rules ≠ []) (hk : M3.terms ≤ 64 ∧ M3.named.length < 64 ∧ M3.prods.length ≤ 128) (hnm : 0 < M3.named.length)
    (hz1 : T.decls.length ≤ 100) (hz2 : T.rules.length ≤ 100) (hz3 : ∀ d ∈ T.decls, d.names.length ≤ 10) (hz4 : ∀ r ∈ T.rules, r.alts.length ≤ 100) :
    Calls Try.prog 48 #[.pointer (some ⟨mb, 0, none⟩), v] w (Res w0.heap.size mb tb rb w (.tuple #[]) (finM M3)) := by
  obtain ⟨dv, rv, rfl, hD, hR⟩ := ht
  obtain ⟨da, dc, rfl, hdc, hdcm, _⟩ := Rows'.parts hD
  obtain ⟨ra, rc, rfl, hrc, hrcm, _⟩ := Rows'.parts hR
  have hB := h0.size
  have hmb := lies_lt h
  have HN := fun at_ k b L w hb hl hL => Lib.hid (throw_none k at_ b L w hb hl hL)
  obtain ⟨w1, hw1⟩ : ∃ w1, w1 = w.alloc (txtO (.slice da T.decls.length dc) (.slice ra T.rules.length rc)) := ⟨_, rfl⟩
  have hfr : Fr nothing w w1 := by rw [hw1]; exact Fr.alloc _ _
  have hbx : w1.heap[w.heap.size]? = some (txtO (.slice da T.decls.length dc) (.slice ra T.rules.length rc)) := by rw [hw1]; exact alloc_obj w _
  have b0 : w1.cell? ⟨w.heap.size, 0, none⟩ = some (.slice da T.decls.length dc) := obj_cell hbx 0 rfl
  have b1 : w1.cell? ⟨w.heap.size, 1, none⟩ = some (.slice ra T.rules.length rc) := obj_cell hbx 1 rfl
  have HD := Lib.hid hD
  have HR := Lib.hid hR
  have HL := Lib.hid h
  have HP := Lib.hid hp
  have HK := Lib.hid (And.intro hd (And.intro hr (And.intro ha hk)))
  have HZ := Lib.hid (And.intro hz3 hz4)
  have HW := Lib.hid hw1
  have HF := Lib.hid (And.intro hfr hbx)
  unfold txtO at HW
  obtain ⟨nd, hnd⟩ : ∃ nd, nd = T.decls.length := ⟨_, rfl⟩
  obtain ⟨nr, hnr⟩ : ∃ nr, nr = T.rules.length := ⟨_, rfl⟩
  have hr0 : 0 < nr := by
    rw [hnr]
    exact List.length_pos_iff.2 hne
  have HC := Lib.hid (And.intro hnd hnr)
  rw [← hnd] at hz1 hdc b0 HW ⊢
  rw [← hnr] at hz2 hrc b1 HW ⊢
  have hrn : ((nr : Int) == 0) = false := by simp; omega
  clear hD hR h hp hd hr ha hne hk hz3 hz4 hw1 hfr hbx hnd hnr
  go_enter Try.func48, Try.ntmps48
  go_upto_region 1 with fail
  rw [← HW.out]
  go_wp2
  go_loopw [21] (fun i wr => ∃ k : Nat, k ≤ nr ∧ i = .int .i64 k ∧ Fr nothing w1 wr) (fun i _ => nr - (intOf i).toNat)
  case atStart => exact ⟨0, Nat.zero_le _, rfl, Fr.refl _ _⟩
  case round =>
    obtain ⟨k, hk, rfl, hF1⟩ := hrel
    by_cases hlt : k < nr
    · have hk' : k < T.rules.length := by rw [← HC.out.2]; exact hlt
      obtain ⟨b, o, rfl, _, hat, pa, pc, av, q1, q2⟩ := Rows'.at (n := nr) (by have := HR.out; rw [HC.out.2]; exact this) hk'
      have hW0 : Fr nothing w0 wr := ((Fr.new h0).trans HF.out.1).trans hF1
      have y0 := hW0.cell (q2 0 (by simp)) fun e => e
      have y1 := hW0.cell (q2 1 (by simp)) fun e => e
      have y2 := hW0.cell (q2 2 (by simp)) fun e => e
      have y3 := hW0.cell (q2 3 (by simp)) fun e => e
      simp only [List.getElem_cons_zero, List.getElem_cons_succ, Nat.add_zero] at y0 y1 y2 y3
      have HPL := Lib.hid fun (W : World) (hW : Fr nothing wr W) => plain_ok T.rules[k] av pa pc W ((q1.fr hW0).fr hW) (HP.out _ (List.getElem_mem hk'))
      have HF1 := Lib.hid hF1
      obtain ⟨aa, ac, rfl, _⟩ := Rows'.parts q1
      clear q1 q2 hF1 hW0
      generalize T.rules[k].name = xn at *
      generalize T.rules[k].params = xp at *
      generalize T.rules[k].at_ = xt at *
      generalize T.rules[k].alts.length = xl at *
      go_wp2_with (go_at_call 69; refine (HPL.out _ (Fr.alloc _ _)).mono ?_; rintro e w2 ⟨rfl, hb2⟩)
      go_roundw
      case rel => exact ⟨k + 1, by omega, by simp, HF1.out.trans ((Fr.alloc _ _).trans (Fr.new hb2))⟩
      case measure => simp [intOf]; omega
    · obtain rfl : k = nr := by omega
      clear hlt
      have hL1 := HL.out.new (HF.out.1.trans hF1)
      have hbxr := hF1.obj HF.out.2 fun e => e
      have hsr : w.heap.size < wr.heap.size := (Array.getElem?_eq_some_iff.1 hbxr).1
      obtain ⟨c1v, hc1⟩ : ∃ u, wr.cell? ⟨mb, 1, none⟩ = some u := by
        obtain ⟨_, _, _, hM⟩ := hL1
        exact ⟨_, obj_cell hM.obj 1 rfl⟩
      have f1 : wr.frozen? ⟨mb, 1, none⟩ = false := by
        obtain ⟨_, _, _, hM⟩ := hL1
        exact obj_frozen hM.obj 1
      have lmb : mb < wr.heap.size := World.block_lt_of_cell? wr _ hc1
      have HS := Lib.hid (And.intro hL1 (And.intro hbxr hF1))
      clear hL1 hbxr hF1
      go_upto_region 8 with fail
      have hBr : w0.heap.size ≤ wr.heap.size := Nat.le_trans hB (by omega)
      have hls := lies_syms HS.out.1 (Fr.alloc wr (.cells #[.string ⟨#[36, 101, 110, 100]⟩, .string ⟨#[]⟩, .int .i64 0, .int .u8 0] 65 (0, 0))) (v := .slice (some ⟨wr.heap.size, 0, none⟩) 1 1) (L := [⟨nEnd, nNone, 0, 0⟩]) (own_laid (alloc_obj wr _) hBr rfl (by unfold maxLen; omega)) fun g hg => by
        simp only [Value.ownBlock, Option.some.injEq] at hg
        omega
      rw [World.setCell_alloc_past _ mb 1 _ lmb] at hls
      have hFM : FM w0.heap.size mb tb rb w wr := FM.new (HF.out.1.trans HS.out.2.2)
      refine wp_atW (F := fun W => Lies W w0.heap.size mb tb rb M0e ∧ FM w0.heap.size mb tb rb w W ∧ W.heap[w.heap.size]? = some (txtO (.slice da nd dc) (.slice ra k rc))) ⟨hls.1.new (Fr.alloc _ _), (hFM.trans hls.2).trans (FM.new (Fr.alloc _ _)), ?_⟩ ?_
      · have h3 := hls.2.keep HS.out.2.1 (by omega) (by omega) (by omega) (by decide) (by decide)
        rw [← HC.out.1, ← HC.out.2] at h3
        exact alloc_older h3
      rintro W ⟨g1, g2, g3⟩
      have d0 : W.cell? ⟨w.heap.size, 0, none⟩ = some (.slice da nd dc) := obj_cell g3 0 rfl
      have HG := Lib.hid (And.intro g1 (And.intro g2 g3))
      clear g1 g2 g3 hls hFM
      go_wp2
      go_loopw [37] (fun i wr => ∃ (j : Nat) (Mj : Mst), j ≤ nd ∧ i = .int .i64 j ∧ Lies wr w0.heap.size mb tb rb Mj ∧ FM w0.heap.size mb tb rb w wr ∧ wr.heap[w.heap.size]? = some (txtO (.slice da nd dc) (.slice ra k rc)) ∧ declsN Mj (T.decls.drop j) = some M1 ∧ Okm Mj (1 + 11 * j)) (fun i _ => nd - (intOf i).toNat)
      case atStart => exact ⟨0, M0e, Nat.zero_le _, rfl, HG.out.1, HG.out.2.1, HG.out.2.2, HK.out.1, ⟨by simp [Uq, M0e], by simp [Uq, M0e], by simp [M0e], by simp [M0e], by simp [M0e], by simp [M0e], by simp [M0e], by simp [M0e]⟩⟩
      case round =>
        obtain ⟨j, Mj, hj, rfl, hLj, hFj, hbj, hdj, hoj⟩ := hrel
        clear d0 HG
        have hb0 := sees HL.out hFj h0
        by_cases hlt : j < nd
        · have hj' : j < T.decls.length := by rw [← HC.out.1]; exact hlt
          obtain ⟨b, o, rfl, _, hat, nv, q1, q2⟩ := Rows'.at (n := nd) (by have := HD.out; rw [HC.out.1]; exact this) hj'
          have hW0 : Fr nothing w0 wr := Fr.new hb0
          have y0 := hW0.cell (q2 0 (by simp)) fun e => e
          have y1 := hW0.cell (q2 1 (by simp)) fun e => e
          have y2 := hW0.cell (q2 2 (by simp)) fun e => e
          have y3 := hW0.cell (q2 3 (by simp)) fun e => e
          simp only [List.getElem_cons_zero, List.getElem_cons_succ, Nat.add_zero] at y0 y1 y2 y3
          rw [List.drop_eq_getElem_cons hj'] at hdj
          obtain ⟨M', hM1, hM2⟩ := Option.bind_eq_some_iff.1 hdj
          have hz := HZ.out.1 _ (List.getElem_mem hj')
          have hs1 := hoj.syms
          have hs2 := hoj.level
          have hszr : w.heap.size < wr.heap.size := (Array.getElem?_eq_some_iff.1 hbj).1
          have hdc : ∀ (W : World) (p : Value), Fr nothing wr W → Calls Try.prog 70 #[.pointer (some ⟨mb, 0, none⟩), .agg #[.string T.decls[j].kind, .string T.decls[j].type, nv, .int .i64 T.decls[j].at_], p] W (Res w0.heap.size mb tb rb W (.tuple #[]) M') := fun W p hW =>
            decl_ok Mj M' T.decls[j] _ p w0 W mb tb rb ⟨hat, nv, q1, rfl⟩ (hb0.trans (hW.below_new.mono hb0.size)) (hLj.new hW) (by omega) hoj.tm (by omega) hM1
          have HDC := Lib.hid hdc
          have hok2 := okm_decl hoj hM1
          have HNX := Lib.hid (And.intro hM2 (hok2.mono (show 1 + 11 * j + 1 + T.decls[j].names.length ≤ 1 + 11 * (j + 1) by omega)))
          have HJ := Lib.hid (And.intro hLj (And.intro hFj hbj))
          obtain ⟨na, nc, rfl, _⟩ := Rows'.parts q1
          clear q1 q2 hdj hM1 hM2 hLj hFj hbj hdc hok2 hW0 hs1 hs2 hz hat
          generalize T.decls[j].kind = xk at *
          generalize T.decls[j].type = xt at *
          generalize T.decls[j].at_ = xa at *
          generalize T.decls[j].names.length = xl at *
          go_wp2_with (go_at_call 70; refine (HDC.out _ _ (Fr.alloc _ _)).mono ?_; rintro e w2 ⟨hF2, rfl, hL2⟩)
          go_roundw
          case rel => exact ⟨j + 1, M', by omega, by simp, hL2, HJ.out.2.1.trans ((FM.new (Fr.alloc _ _)).trans hF2), ((FM.new (Fr.alloc _ _)).trans hF2).keep HJ.out.2.2 (by omega) (by omega) (by omega) (by decide) (by decide), HNX.out.1, HNX.out.2⟩
          case measure => simp [intOf]; omega
        · obtain rfl : j = nd := by omega
          clear hlt
          rw [HC.out.1, List.drop_length] at hdj
          simp only [declsN, Option.some.injEq] at hdj
          subst hdj
          have d1 : wr.cell? ⟨w.heap.size, 1, none⟩ = some (.slice ra k rc) := obj_cell hbj 1 rfl
          have HG := Lib.hid (And.intro hLj (And.intro hFj (And.intro hbj (hoj.mono (show 1 + 11 * j ≤ 1200 by omega)))))
          clear hLj hFj hbj hoj hb0
          generalize wr = wA at *
          go_wp2
          go_loopw [48] (fun i wr => ∃ (q : Nat) (Mq : Mst), q ≤ k ∧ i = .int .i64 q ∧ Lies wr w0.heap.size mb tb rb Mq ∧ FM w0.heap.size mb tb rb w wr ∧ wr.heap[w.heap.size]? = some (txtO (.slice da j dc) (.slice ra k rc)) ∧ rulesN Mq (T.rules.drop q) = some M2 ∧ Okm Mq (1200 + q)) (fun i _ => k - (intOf i).toNat)
          case atStart => exact ⟨0, Mj, Nat.zero_le _, rfl, HG.out.1, HG.out.2.1, HG.out.2.2.1, HK.out.2.1, HG.out.2.2.2⟩
          case round =>
            obtain ⟨q, Mq, hq, rfl, hLj, hFj, hbj, hdj, hoj⟩ := hrel
            clear d1 HG
            have hb0 := sees HL.out hFj h0
            by_cases hlt : q < k
            · have hj' : q < T.rules.length := by rw [← HC.out.2]; exact hlt
              obtain ⟨b, o, rfl, _, hat, pa, pc, av, q1, q2⟩ := Rows'.at (n := k) (by have := HR.out; rw [HC.out.2]; exact this) hj'
              have hW0 : Fr nothing w0 wr := Fr.new hb0
              have y0 := hW0.cell (q2 0 (by simp)) fun e => e
              have y1 := hW0.cell (q2 1 (by simp)) fun e => e
              have y2 := hW0.cell (q2 2 (by simp)) fun e => e
              have y3 := hW0.cell (q2 3 (by simp)) fun e => e
              simp only [List.getElem_cons_zero, List.getElem_cons_succ, Nat.add_zero] at y0 y1 y2 y3
              rw [List.drop_eq_getElem_cons hj'] at hdj
              obtain ⟨M', hM1, hM2⟩ := Option.bind_eq_some_iff.1 hdj
              have hs1 := hoj.named
              have hszr : w.heap.size < wr.heap.size := (Array.getElem?_eq_some_iff.1 hbj).1
              have HDC := Lib.hid fun (W : World) (hW : Fr nothing wr W) => rule_ok Mq M' T.rules[q].name (.slice pa T.rules[q].params pc) av T.rules[q].at_ w0 W mb tb rb (hb0.trans (hW.below_new.mono hb0.size)) (hLj.new hW) (by omega) hoj.tm hoj.rm hM1
              have HNX := Lib.hid (And.intro hM2 ((okm_rule hoj hM1).mono (show 1200 + q + 1 ≤ 1200 + (q + 1) by omega)))
              have HJ := Lib.hid (And.intro hLj (And.intro hFj hbj))
              obtain ⟨aa, ac, rfl, _⟩ := Rows'.parts q1
              clear q1 q2 hdj hM1 hM2 hLj hFj hbj hW0 hs1 hat hoj
              generalize T.rules[q].name = xn at *
              generalize T.rules[q].params = xp at *
              generalize T.rules[q].at_ = xa at *
              generalize T.rules[q].alts.length = xl at *
              go_wp2_with (go_at_call 71; refine (HDC.out _ (Fr.alloc _ _)).mono ?_; rintro e w2 ⟨hF2, rfl, hL2⟩)
              go_roundw
              case rel => exact ⟨q + 1, M', by omega, by simp, hL2, HJ.out.2.1.trans ((FM.new (Fr.alloc _ _)).trans hF2), ((FM.new (Fr.alloc _ _)).trans hF2).keep HJ.out.2.2 (by omega) (by omega) (by omega) (by decide) (by decide), HNX.out.1, HNX.out.2⟩
              case measure => simp [intOf]; omega
            · obtain rfl : q = k := by omega
              clear hlt
              rw [HC.out.2, List.drop_length] at hdj
              simp only [rulesN, Option.some.injEq] at hdj
              subst hdj
              have d0 : wr.cell? ⟨w.heap.size, 0, none⟩ = some (.slice da j dc) := obj_cell hbj 0 rfl
              have d1 : wr.cell? ⟨w.heap.size, 1, none⟩ = some (.slice ra q rc) := obj_cell hbj 1 rfl
              have HG := Lib.hid (And.intro hLj (And.intro hFj (And.intro hbj (hoj.mono (show 1200 + q ≤ 1400 by omega)))))
              clear hLj hFj hbj hoj hb0
              generalize wr = wB at *
              have lw : w.heap.size < wB.heap.size := World.block_lt_of_cell? wB _ d0
              go_upto_region 20 with (go_at_call 72; refine Calls.mono (HN _ 300 _ [false] _ ?_ (by simp) (by simp)).out ?_; exact laid_at (by simp); rintro e w' ⟨rfl, rfl⟩)
              refine wp_atW (F := fun W => Fr nothing wB W) (Fr.alloc _ _) ?_
              intro W2 hW2
              have e0 := hW2.cell d0 fun e => e
              have HW2 := Lib.hid hW2
              clear d0 d1 hW2
              go_wp2
              go_loopw [65] (fun i wr => ∃ p : Nat, p ≤ j ∧ i = .int .i64 p ∧ Fr nothing wB wr) (fun i _ => j - (intOf i).toNat)
              case atStart => exact ⟨0, Nat.zero_le _, rfl, HW2.out⟩
              case round =>
                obtain ⟨p, hp, rfl, hF1⟩ := hrel
                by_cases hlt : p < j
                · have hj' : p < T.decls.length := by rw [← HC.out.1]; exact hlt
                  obtain ⟨b, o, rfl, _, hat, nv, q1, q2⟩ := Rows'.at (n := j) (by have := HD.out; rw [HC.out.1]; exact this) hj'
                  have hb0 := sees HL.out HG.out.2.1 h0
                  have hW0 : Fr nothing w0 wr := (Fr.new hb0).trans hF1
                  have y0 := hW0.cell (q2 0 (by simp)) fun e => e
                  have y1 := hW0.cell (q2 1 (by simp)) fun e => e
                  have y2 := hW0.cell (q2 2 (by simp)) fun e => e
                  have y3 := hW0.cell (q2 3 (by simp)) fun e => e
                  simp only [List.getElem_cons_zero, List.getElem_cons_succ, Nat.add_zero] at y0 y1 y2 y3
                  have HDC := Lib.hid fun (W : World) (hW : Fr nothing wr W) => late_ok Mq T.decls[p] (.agg #[.string T.decls[p].kind, .string T.decls[p].type, nv, .int .i64 T.decls[p].at_]) w0 W mb tb rb ⟨hat, nv, q1, rfl⟩ (hb0.trans ((hF1.trans hW).below_new.mono hb0.size)) (HG.out.1.new (hF1.trans hW)) HG.out.2.2.2.rm (declsN_kinds HK.out.1 _ (List.getElem_mem hj'))
                  have HF1 := Lib.hid hF1
                  obtain ⟨na, nc, rfl, _⟩ := Rows'.parts q1
                  clear q1 q2 hF1 hW0 hat hb0
                  generalize T.decls[p].kind = xk at *
                  generalize T.decls[p].type = xt at *
                  generalize T.decls[p].at_ = xa at *
                  generalize T.decls[p].names.length = xl at *
                  go_wp2_with (go_at_call 73; refine (HDC.out _ (Fr.alloc _ _)).mono ?_; rintro e w2 ⟨rfl, hF2⟩)
                  go_roundw
                  case rel => exact ⟨p + 1, by omega, by simp, HF1.out.trans ((Fr.alloc _ _).trans hF2)⟩
                  case measure => simp [intOf]; omega
                · obtain rfl : p = j := by omega
                  clear hlt e0
                  have hLw := HG.out.1.new hF1
                  have hFw := HG.out.2.1.trans (FM.new hF1)
                  have hbw := hF1.obj HG.out.2.2.1 fun e => e
                  have ho := HG.out.2.2.2
                  obtain ⟨m0, _, _, _, _⟩ := lies_cells hLw
                  obtain ⟨sa, sc, m1, mf0⟩ : ∃ sa sc, wr.cell? ⟨mb, 1, none⟩ = some (.slice sa Mq.syms.length sc) ∧ wr.frozen? ⟨mb, 0, none⟩ = false := by
                    obtain ⟨_, _, _, hM⟩ := hLw
                    obtain ⟨sa, sc, rfl, _⟩ := own_cells hM.syms
                    exact ⟨sa, sc, obj_cell hM.obj 1 rfl, obj_frozen hM.obj 0⟩
                  have hlt3 := lies_terms hLw Mq.syms.length
                  have hb3 := hlt3.2.keep hbw (by omega) (by omega) (by omega) (by decide) (by decide)
                  have HT := Lib.hid (And.intro hlt3.1 (And.intro (hFw.trans hlt3.2) hb3))
                  clear hLw hFw hbw hlt3 hb3 hF1
                  generalize hsl : Mq.syms.length = sl at *
                  have HSL := Lib.hid hsl
                  clear hsl
                  go_upto_region 25 with fail
                  refine wp_atW (F := fun W => Lies W w0.heap.size mb tb rb { Mq with terms := sl } ∧ FM w0.heap.size mb tb rb w W ∧ W.heap[w.heap.size]? = some (txtO (.slice da p dc) (.slice ra q rc))) HT.out ?_
                  rintro W3 ⟨g1, g2, g3⟩
                  obtain ⟨m0', _, m4, _, m7⟩ := lies_cells g1
                  have l1 := fun n => lies_rm (g1.new (Fr.drewN W3 n)) ho.rm Mq.start false
                  simp only [Bool.false_eq_true, if_false] at l1
                  have hz0 : 0 ≤ (findN? Mq.rm Mq.start).getD 0 ∧ (findN? Mq.rm Mq.start).getD 0 ≤ 1400 := by
                    cases hf : findN? Mq.rm Mq.start with
                    | none => simp
                    | some n => exact ho.rms _ (find_some hf)
                  have hsl2 : sl ≤ 1400 := by rw [← HSL.out]; exact ho.syms
                  have hbeg : begM Mq = (sl : Int) + 1 + (findN? Mq.rm Mq.start).getD 0 := by unfold begM; rw [HSL.out]
                  generalize (findN? Mq.rm Mq.start).getD 0 = z at *
                  have HBG := Lib.hid hbeg
                  have HG3 := Lib.hid (And.intro g1 (And.intro g2 g3))
                  clear hbeg g1 g2 g3 HT m0 m1 mf0
                  go_quiet (fail)
                  go_upto_region 26 with fail
                  refine wp_atW (F := fun W => Fr nothing W3 W) (Fr.drewN _ _) ?_
                  intro W4 hW4
                  have hL4 := HG3.out.1.new hW4
                  have hb4 := hW4.obj HG3.out.2.2 fun e => e
                  obtain ⟨pv, m0, m2, mf2⟩ : ∃ pv, W4.cell? ⟨mb, 0, none⟩ = some (.int .i64 (sl : Int)) ∧ W4.cell? ⟨mb, 2, none⟩ = some pv ∧ W4.frozen? ⟨mb, 2, none⟩ = false := by
                    obtain ⟨_, pv, _, hM⟩ := hL4
                    exact ⟨pv, obj_cell hM.obj 0 rfl, obj_cell hM.obj 2 rfl, obj_frozen hM.obj 2⟩
                  have lm4 : mb < W4.heap.size := World.block_lt_of_cell? W4 _ m2
                  have lw4 : w.heap.size < W4.heap.size := (Array.getElem?_eq_some_iff.1 hb4).1
                  have H4 := Lib.hid (And.intro hL4 (And.intro hb4 hW4))
                  clear hL4 hb4 hW4 l1 m0' m4 m7
                  go_upto_region 27 with fail
                  have hB4 : w0.heap.size ≤ W4.heap.size := Nat.le_trans hB (by omega)
                  have hlp := lies_prods H4.out.1 (w1 := (W4.alloc (.cells #[.int .i64 ((sl : Int) + 1 + z)] 3 (0, 0))).alloc (.cells #[.int .i64 (sl : Int), .slice (some ⟨W4.heap.size, 0, none⟩) 1 1, .int .i64 (-1), .bool false, .string ⟨#[]⟩, .int .i64 0] 62 (0, 0)))
                    ((Fr.alloc _ _).trans (Fr.alloc _ _)) (v := .slice (some ⟨W4.heap.size + 1, 0, none⟩) 1 1) (rv := .slice (some ⟨W4.heap.size, 0, none⟩) 1 1) (P := ⟨sl, [(sl : Int) + 1 + z], -1, false, nNone, 0⟩)
                    (own_laid (laid_at (by simp)) (by omega) rfl (by unfold maxLen; omega)) (own_laid (alloc_older (alloc_obj _ _)) hB4 rfl (by unfold maxLen; omega))
                  rw [World.setCell_alloc_past _ mb 2 _ (by simp; omega), World.setCell_alloc_past _ mb 2 _ lm4] at hlp
                  have hb5 := hlp.2.keep H4.out.2.1 (by omega) (by omega) (by omega) (by decide) (by decide)
                  have hFM5 := (HG3.out.2.1.trans (FM.new H4.out.2.2)).trans hlp.2
                  refine wp_atW (F := fun W => Lies W w0.heap.size mb tb rb (midM Mq) ∧ FM w0.heap.size mb tb rb w W ∧ W.heap[w.heap.size]? = some (txtO (.slice da p dc) (.slice ra q rc))) ⟨?_, hFM5, hb5⟩ ?_
                  · have := hlp.1
                    unfold midM
                    rw [HBG.out, HSL.out]
                    exact this
                  rintro W5 ⟨g1, g2, g3⟩
                  have d1 : W5.cell? ⟨w.heap.size, 1, none⟩ = some (.slice ra q rc) := obj_cell g3 1 rfl
                  have hmt : (midM Mq).terms = sl := by rw [← HSL.out]; rfl
                  have hok5 : Okm (midM Mq) 1402 := ⟨ho.tm, ho.rm, by have := ho.syms; show Mq.syms.length ≤ _; omega, by have := ho.named; show Mq.named.length ≤ _; omega, by have := ho.level; show 0 ≤ Mq.level ∧ Mq.level ≤ _; omega, by simp [midM], by rw [hmt]; omega, fun x hx => by have := ho.rms x hx; omega⟩
                  have HG5 := Lib.hid (And.intro g1 (And.intro g2 (And.intro g3 (And.intro hok5 hmt))))
                  clear g1 g2 g3 hlp hb5 hFM5 hok5 hmt m0 m2 mf2 ho
                  generalize wr = wD at *
                  go_wp2
                  go_loopw [115] (fun i wr => ∃ (x : Nat) (Mx : Mst), x ≤ q ∧ i = .int .i64 x ∧ Lies wr w0.heap.size mb tb rb Mx ∧ FM w0.heap.size mb tb rb w wr ∧ wr.heap[w.heap.size]? = some (txtO (.slice da p dc) (.slice ra q rc)) ∧ prodsN x Mx (T.rules.drop x) = some M3 ∧ Okm Mx (1402 + 100 * x) ∧ Mx.terms = sl) (fun i _ => q - (intOf i).toNat)
                  case atStart => exact ⟨0, midM Mq, Nat.zero_le _, rfl, HG5.out.1, HG5.out.2.1, HG5.out.2.2.1, HK.out.2.2.1, HG5.out.2.2.2.1, HG5.out.2.2.2.2⟩
                  case round =>
                    obtain ⟨x, Mx, hx, rfl, hLj, hFj, hbj, hdj, hoj, htj⟩ := hrel
                    clear d1 HG5
                    have hb0 := sees HL.out hFj h0
                    by_cases hlt : x < q
                    · have hj' : x < T.rules.length := by rw [← HC.out.2]; exact hlt
                      obtain ⟨b, o, rfl, _, hat, pa, pc, av, q1, q2⟩ := Rows'.at (n := q) (by have := HR.out; rw [HC.out.2]; exact this) hj'
                      have hW0 : Fr nothing w0 wr := Fr.new hb0
                      have y0 := hW0.cell (q2 0 (by simp)) fun e => e
                      have y1 := hW0.cell (q2 1 (by simp)) fun e => e
                      have y2 := hW0.cell (q2 2 (by simp)) fun e => e
                      have y3 := hW0.cell (q2 3 (by simp)) fun e => e
                      simp only [List.getElem_cons_zero, List.getElem_cons_succ, Nat.add_zero] at y0 y1 y2 y3
                      rw [List.drop_eq_getElem_cons hj'] at hdj
                      obtain ⟨M', hM1, hM2⟩ := Option.bind_eq_some_iff.1 hdj
                      rw [htj] at hM1
                      obtain ⟨aa, ac, rfl, hac, hacm, _⟩ := Rows'.parts q1
                      have HQ := Lib.hid q1
                      have HJ := Lib.hid (And.intro hLj (And.intro hFj (And.intro hbj (And.intro hoj (And.intro htj (And.intro hM1 hM2))))))
                      obtain ⟨na, hna⟩ : ∃ na, na = T.rules[x].alts.length := ⟨_, rfl⟩
                      rw [← hna] at y2 hac
                      have hna2 : na ≤ 100 := by rw [hna]; exact HZ.out.2 _ (List.getElem_mem hj')
                      have HNA := Lib.hid hna
                      clear q1 q2 hdj hM1 hM2 hLj hFj hbj hoj htj hW0 hat hna
                      generalize T.rules[x].name = xn at *
                      generalize T.rules[x].params = xp at *
                      generalize T.rules[x].at_ = xa at *
                      generalize wr = wE at *
                      go_wp2
                      go_loopw [123] (fun i wr => ∃ (y : Nat) (My : Mst), y ≤ na ∧ i = .int .i64 y ∧ Lies wr w0.heap.size mb tb rb My ∧ FM w0.heap.size mb tb rb w wr ∧ wr.heap[w.heap.size]? = some (txtO (.slice da p dc) (.slice (some ⟨b, o, none⟩) q rc)) ∧ altsN (sl + 1 + x) My (T.rules[x].alts.drop y) = some M' ∧ Okm My (1402 + 100 * x + y) ∧ My.terms = sl) (fun i _ => na - (intOf i).toNat)
                      case atStart => exact ⟨0, Mx, Nat.zero_le _, rfl, HJ.out.1.new (Fr.alloc _ _), HJ.out.2.1.trans (FM.new (Fr.alloc _ _)), alloc_older HJ.out.2.2.1, HJ.out.2.2.2.2.2.1, HJ.out.2.2.2.1, HJ.out.2.2.2.2.1⟩
                      case round =>
                        obtain ⟨y, My, hy, rfl, hLj, hFj, hbj, hdj, hoj, htj⟩ := hrel
                        have hb0 := sees HL.out hFj h0
                        by_cases hlt2 : y < na
                        · have hy' : y < T.rules[x].alts.length := by rw [← HNA.out]; exact hlt2
                          obtain ⟨b2, o2, rfl, _, hat, hwh, wv, q1, q2⟩ := Rows'.at (n := na) (by have := HQ.out; rw [HNA.out]; exact this) hy'
                          have hW0 : Fr nothing w0 wr := Fr.new hb0
                          have z0 := hW0.cell (q2 0 (by simp)) fun e => e
                          have z1 := hW0.cell (q2 1 (by simp)) fun e => e
                          have z2 := hW0.cell (q2 2 (by simp)) fun e => e
                          have z3 := hW0.cell (q2 3 (by simp)) fun e => e
                          have z4 := hW0.cell (q2 4 (by simp)) fun e => e
                          have z5 := hW0.cell (q2 5 (by simp)) fun e => e
                          simp only [List.getElem_cons_zero, List.getElem_cons_succ, Nat.add_zero] at z0 z1 z2 z3 z4 z5
                          rw [List.drop_eq_getElem_cons hy'] at hdj
                          obtain ⟨k1, k2, k3, pr, rr, hM1, hM2⟩ := altsN_cons hdj
                          rw [k1] at z1
                          rw [k2] at z2
                          unfold nNone at z1
                          obtain ⟨c0, _, _, _, _⟩ := lies_cells hLj
                          rw [htj] at c0
                          have lmb2 : mb < wr.heap.size := World.block_lt_of_cell? wr _ c0
                          have lw2 : w.heap.size < wr.heap.size := (Array.getElem?_eq_some_iff.1 hbj).1
                          have hpr := hoj.prods
                          have htr := hoj.terms
                          have HAL := Lib.hid fun (W : World) (hW : Fr nothing wr W) => alt_ok My ((sl : Int) + 1 + x) T.rules[x].alts[y].words wv T.rules[x].alts[y].action T.rules[x].alts[y].whr T.rules[x].alts[y].at_ pr rr w0 W mb tb rb q1 (hb0.trans (hW.below_new.mono hb0.size)) (hLj.new hW) hoj.tm hoj.rm (by omega) (fun x' hx' => by have := hoj.rms x' hx'; omega) k3 (by omega) hM1
                          have HNX := Lib.hid (And.intro hM2 (And.intro ((okm_addP hoj ((sl : Int) + 1 + x) rr pr).mono (show 1402 + 100 * x + y + 1 ≤ 1402 + 100 * x + (y + 1) by omega)) htj))
                          have HJ2 := Lib.hid (And.intro hLj (And.intro hFj hbj))
                          obtain ⟨wa2, wc2, rfl, _⟩ := Rows'.parts q1
                          clear q1 q2 hdj hM1 hM2 hLj hFj hbj hoj htj hW0 hat hwh hb0 k1 k2 k3
                          generalize T.rules[x].alts[y].action = ya at *
                          generalize T.rules[x].alts[y].whr = yw at *
                          generalize T.rules[x].alts[y].at_ = yt at *
                          generalize T.rules[x].alts[y].words.length = yl at *
                          go_upto_region 33 with fail
                          refine wp_atW (F := fun W => Fr nothing wr W ∧ W.heap[wr.heap.size]? = some (altO (.slice wa2 yl wc2) ya yw yt)) ⟨Fr.alloc _ _, alloc_obj _ _⟩ ?_
                          rintro V ⟨hV, hbV⟩
                          have v0 : V.cell? ⟨wr.heap.size, 0, none⟩ = some (.slice wa2 yl wc2) := obj_cell hbV 0 rfl
                          have v1 : V.cell? ⟨wr.heap.size, 1, none⟩ = some (.string ⟨#[]⟩) := obj_cell hbV 1 rfl
                          have v2 : V.cell? ⟨wr.heap.size, 2, none⟩ = some (.bool false) := obj_cell hbV 2 rfl
                          have v3 : V.cell? ⟨wr.heap.size, 3, none⟩ = some (.string ya) := obj_cell hbV 3 rfl
                          have v4 : V.cell? ⟨wr.heap.size, 4, none⟩ = some (.int .i64 yw) := obj_cell hbV 4 rfl
                          have v5 : V.cell? ⟨wr.heap.size, 5, none⟩ = some (.int .i64 yt) := obj_cell hbV 5 rfl
                          have vc := hV.cell c0 fun e => e
                          have HAV := Lib.hid (HAL.out V.drew (hV.trans (Fr.drew V)))
                          have HVD := Lib.hid (hV.trans (Fr.drew V))
                          clear hV hbV c0
                          go_still_tail 10, (by kernel_rfl)
                          change wpList _ _ _ _ _ V.drew
                          generalize V.drew = V2 at *
                          go_wp2_with (go_at_call 74; refine HAV.out.mono ?_; rintro e w' ⟨hF2, rfl, hL2⟩)
                          all_goals
                            go_roundw
                            case rel =>
                              have hFq := (FM.new HVD.out).trans hF2
                              exact ⟨y + 1, _, by omega, by simp, hL2, HJ2.out.2.1.trans hFq, hFq.keep HJ2.out.2.2 (by omega) (by omega) (by omega) (by decide) (by decide), HNX.out.1, HNX.out.2.1, HNX.out.2.2⟩
                            case measure => simp [intOf]; omega
                        · obtain rfl : y = na := by omega
                          clear hlt2
                          rw [HNA.out, List.drop_length] at hdj
                          simp only [altsN, Option.some.injEq] at hdj
                          subst hdj
                          have HR6 := Lib.hid (And.intro hLj (And.intro hFj (And.intro hbj (And.intro (hoj.mono (show 1402 + 100 * x + y ≤ 1402 + 100 * (x + 1) by omega)) htj))))
                          clear hLj hFj hbj hoj htj
                          go_wp2
                          go_roundw
                          case rel => exact ⟨x + 1, My, by omega, by simp, HR6.out.1, HR6.out.2.1, HR6.out.2.2.1, HJ.out.2.2.2.2.2.2, HR6.out.2.2.2.1, HR6.out.2.2.2.2⟩
                          case measure => simp [intOf]; omega
                    · obtain rfl : x = q := by omega
                      clear hlt
                      rw [HC.out.2, List.drop_length] at hdj
                      simp only [prodsN, Option.some.injEq] at hdj
                      subst hdj
                      obtain ⟨t0, _, _, ⟨na, nc, t5⟩, _⟩ := lies_cells hLj
                      obtain ⟨kt, kn, kp⟩ := HK.out.2.2.2
                      obtain ⟨sv, pv2, nv, hM⟩ := id hLj
                      obtain ⟨xs, hxs, hxo, hxr⟩ := hM.prods
                      obtain ⟨pa, pc, rfl, _⟩ := own_cells hxo
                      have hxl : xs.length = Mx.prods.length := by rw [← hxs, List.length_map]
                      have t2 : wr.cell? ⟨mb, 2, none⟩ = some (.slice pa Mx.prods.length pc) := by rw [← hxl]; exact obj_cell hM.obj 2 rfl
                      rw [htj] at t0
                      have i1 : decide ((64 : Int) < (sl : Int)) = false := decide_eq_false (by omega)
                      have i2 : decide ((64 : Int) ≤ (Mx.named.length : Int)) = false := decide_eq_false (by omega)
                      have i3 : decide ((128 : Int) < (Mx.prods.length : Int)) = false := decide_eq_false (by omega)
                      have hs9 := hoj.syms
                      have hnl : Mx.named.length ≤ 64 := by omega
                      have lmb9 : mb < wr.heap.size := World.block_lt_of_cell? wr _ t0
                      have HE := Lib.hid (And.intro hLj (And.intro hFj hbj))
                      clear hxs hxo hxr hxl hM hLj hFj hbj hoj hb0 htj kt kn kp
                      go_upto_region 36 with fail
                      go_still_tail 19, (by kernel_rfl)
                      change wpList _ _ _ _ _ wr.drew
                      have HD9 := Lib.hid (Fr.drew (ch := nothing) wr)
                      generalize wr.drew = W9 at *
                      go_upto_region 37 with (go_at_call 72; refine Calls.mono (HN _ 104 _ [false, false, false] _ ?_ (by simp) (by simp)).out ?_; exact laid_at (by simp); rintro e w' ⟨rfl, rfl⟩)
                      refine wp_atW (F := fun W => Fr nothing wr W) (HD9.out.trans (Fr.alloc _ _)) ?_
                      intro V hV
                      obtain ⟨sv, pv2, nv, hMw⟩ := HE.out.1
                      have hM := hMw.new hV
                      obtain ⟨sa3, sc3, rfl, _⟩ := own_cells hM.syms
                      obtain ⟨ng, nc3, rfl, hn1, hn2⟩ := own_at hM.named hnm
                      obtain ⟨i0, hi, hz0, hz1', hz2'⟩ := info_parts Try.infoSym
                      have u1 : V.cell? ⟨mb, 1, none⟩ = some (.slice sa3 Mx.syms.length sc3) := obj_cell hM.obj 1 rfl
                      have u5 : V.cell? ⟨mb, 5, none⟩ = some (.slice (some ⟨ng, 0, none⟩) Mx.named.length nc3) := obj_cell hM.obj 5 rfl
                      have lV : mb < V.heap.size := World.block_lt_of_cell? V _ u1
                      have hBV : w0.heap.size ≤ V.heap.size := Nat.le_trans hB (Nat.le_trans (Nat.le_of_lt (Array.getElem?_eq_some_iff.1 HE.out.2.2).1) hV.size)
                      have HOW := Lib.hid hM.syms
                      have HON := Lib.hid hM.named
                      have HOB := Lib.hid (And.intro hM.obj fun e => own_ne hM.syms hM.obj (by decide) e)
                      have HSE := Lib.hid hM.sep
                      have HMM := Lib.hid hM
                      have HV := Lib.hid hV
                      clear hM hMw hV t0 t2 t5 i1 i2 i3
                      go_upto_region 37 with fail
                      go_region_law
                        (first
                          | (refine step_append_lies _ (by rfl) _ _ _ (by rfl) w0.heap.size 65 i0 _ 4 48 Try.underlying36 hi hz0 hz1' hz2' rfl (by omega) (.slice sa3 Mx.syms.length sc3) Mx.syms.length _ (by rfl) ((HOW.out.alloc _).drew)
                              ⟨V.heap.size, 0, none⟩ 1 1 (symCells ⟨nAccept, nNone, 0, 0⟩) (by rfl) (by rfl) (World.news_of_block (cs := #[.string ⟨#[36, 97, 99, 99, 101, 112, 116]⟩, .string ⟨#[]⟩, .int .i64 0, .int .u8 0]) (t := 65) (fr := (0, 0)) (heap_alloc_new V _)) (by simp [symCells, Value.oneCell'])
                              (by omega) (by unfold maxLen; omega) (by omega) (by simp; omega) (V.heap.size + 1) (by simp) ?_; intro gg cap1 w2 hown2 hgrow hat hlt'; have hF2 : Fr (fun g => (Value.slice sa3 Mx.syms.length sc3).ownBlock = some g) V w2 := ((Fr.alloc _ _).trans (Fr.drew _)).trans (Fr.grown hgrow); have hg2 := hF2.obj HOB.out.1 HOB.out.2; have c5 : w2.cell? ⟨mb, 5, none⟩ = some (.slice (some ⟨ng, 0, none⟩) Mx.named.length nc3) := obj_cell hg2 5 rfl; have hn2w := own_fr HON.out hF2 (fun g hg e => HSE.out g e hg); have hsw := hF2.size)
                          | (refine step_append_lies _ (by rfl) _ _ _ (by rfl) w0.heap.size 65 i0 _ 4 48 Try.underlying36 hi hz0 hz1' hz2' rfl (by omega) _ (Mx.syms.length + 1) _ (by rfl) hown2
                              ⟨ng, 0, none⟩ Mx.named.length nc3 (Mx.named.flatMap symCells) (by rfl) (flat_len symCells 4 (fun _ => rfl) _) (fun j u hj => World.ownsRow.cells hn2w rfl j u hj) (sym_one _)
                              hnm (by unfold maxLen; omega) (by omega) (Nat.le_trans hBV hsw) _ rfl ?_; intro gh cap2 w3 hown3 hgrow3 hat3 hlt3'; have hF3 := Fr.grown hgrow3; have hg3 := hF3.obj hg2 (fun e => own_ne hown2 hg2 (by decide) e); have d1 : w3.cell? ⟨mb, 1, none⟩ = some (.slice sa3 Mx.syms.length sc3) := obj_cell hg3 1 rfl; have df1 := obj_frozen hg3 1))
                      all_goals
                        try go_wp2
                        go_end0
                        have hF23 : Fr (fun g => (Value.slice sa3 Mx.syms.length sc3).ownBlock = some g) V w3 := ⟨hF3.os.trans hF2.os, hF3.tape.trans hF2.tape, hF3.output.trans hF2.output, Nat.le_trans hF2.size hF3.size, fun g hg hn => (hF3.block g (Nat.lt_of_lt_of_le hg hF2.size) fun e => by
                          simp only [Value.ownBlock, Option.some.injEq] at e
                          subst e
                          rcases hat with e2 | e2
                          · exact hn e2
                          · omega).trans (hF2.block g hg hn)⟩
                        obtain ⟨hLf, hFf⟩ := HMM.out.syms2 (v2 := .slice (some ⟨gh, 0, none⟩) (Mx.syms.length + 1 + Mx.named.length) cap2) hF23 (Mx.syms ++ [⟨nAccept, nNone, 0, 0⟩] ++ Mx.named) (by rw [show (Mx.syms ++ [(⟨nAccept, nNone, 0, 0⟩ : Sym)] ++ Mx.named).length = Mx.syms.length + 1 + Mx.named.length by simp; omega, List.flatMap_append, List.flatMap_append, List.flatMap_singleton]; exact hown3) fun g hg => by
                          simp only [Value.ownBlock, Option.some.injEq] at hg
                          subst hg
                          rcases hat3 with e | e
                          · simp only [Value.ownBlock, Option.some.injEq] at e
                            subst e
                            rcases hat with e2 | e2
                            · exact .inl e2
                            · exact .inr (by omega)
                          · exact .inr (by omega)
                        exact ⟨(HE.out.2.1.trans (FM.new HV.out)).trans hFf, rfl, ⟨_, _, _, hLf⟩⟩
end Go.Proofs.Ytehaoiimhgkckaa
