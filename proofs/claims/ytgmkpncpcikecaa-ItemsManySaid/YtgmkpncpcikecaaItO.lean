/-
  Package items: Collection of a grammar that is right: the walk.
-/
import Derived.Test.YtgmkpncpcikecaaItN
namespace Go.Proofs.Ytgmkpncpcikecaa
open Go.RowKit Go.MapKept Go.ChangeMaps
set_option maxHeartbeats 400000

/-- What ends in no panic: a region of a function that defers. -/
def onlyNormal (Q : Exit → Act → World → Prop) : Exit → Act → World → Prop := fun e a w => match e with
  | .normal => Q .normal a w
  | _ => False
theorem wp_normal {P : Program} {c : Code} {Q : Exit → Act → World → Prop} {a : Act} {w : World} (h : c.wp P (onlyNormal Q) a w) : c.wp P Q a w := wp_mono h fun e a w k => by
  cases e with
  | normal => exact k
  | _ => exact absurd k id

set_option maxRecDepth 100000 in
set_option maxHeartbeats 8000000 in
theorem colF_good (G : Gram) (v : Value) (w : World) (h : IsGram w v G) (hr : rightG G = true) :
    Calls Try.prog 7 #[v] w (ColP G w) := by
  have hG := h
  have h0 := h
  have hmm := @run_makeMap Try.prog
  obtain ⟨i0, hi, hz0, hz1, hz2⟩ := info_parts Try.infoEdge
  have hmf : ∀ (fn : Fn) (first cap : Array Value) (w : World), (Instr.makeFunc fn first cap).run Try.prog w = .ok (.func fn first cap) w := fun _ _ _ _ => rfl
  obtain ⟨hterms, vs, vp, rfl, hs, hp⟩ := h
  have HRT := Lib.hid fun W (k : Below w.heap.size w W) => right_gram G _ W (hG.fr (Fr.new k))
  rw [hr] at HRT
  have hm0 : G.prods.length ≤ 100000 := by have := right_short hr; omega
  have HOV := Lib.hid fun W (k : Below w.heap.size w W) => over_any G _ W (hG.fr (Fr.new k)) hm0
  obtain ⟨-, sa, sc, rfl, -, -, -⟩ := id hs
  obtain ⟨-, pa, pc, rfl, -, -, -⟩ := id hp
  have HR := Lib.hid hr
  clear hG hs hp hr
  have HG := Lib.hid h0
  clear h0
  go_enter_defers Try.func7, Try.ntmps7
  go_upto_region 1 with fail
  refine wp_at (F := fun W => W.heap[w.heap.size]? = some (.cells #[.int .i64 G.terms, .slice sa G.syms.length sc, .slice pa G.prods.length pc] 25 (0, 0)) ∧ Boxed W (w.heap.size + 1) 27 (.slice none 0 0) ∧ Boxed W (w.heap.size + 1 + 1) 28 (.int .i64 0) ∧ Below w.heap.size w W) ?_ ?_
  · refine ⟨alloc_older (alloc_older (alloc_obj _ _)), ?_, ?_, (((Below.refl _ w).alloc (Nat.le_refl _) _).alloc (by simp) _).alloc (by simp; omega) _⟩
    · exact alloc_older (alloc_at (by simp))
    · exact alloc_at (by simp)
  intro W0 ⟨hgb, hb1, hb2, hB0⟩
  have c0 := obj_cell hgb 0 (v := .int .i64 G.terms) rfl
  have c1 := obj_cell hgb 1 (v := .slice sa G.syms.length sc) rfl
  have c2 := obj_cell hgb 2 (v := .slice pa G.prods.length pc) rfl
  have HR0 := Lib.hid (HRT.out W0 hB0)
  have HB := Lib.hid (And.intro hgb (And.intro hb1 (And.intro hb2 hB0)))
  have HOV0 := Lib.hid fun W (k : Below W0.heap.size W0 W) => HOV.out W (hB0.trans (k.mono hB0.size))
  have hsz0 := hB0.size
  generalize hn0 : w.heap.size = n0 at *
  have HN0 := Lib.hid hn0
  clear hgb hb1 hb2 hB0 HRT hn0
  go_upto_region 5 with (first | (go_at_call 12; refine HR0.out.mono ?_; rintro e w2 ⟨rfl, hb2⟩; have d0 := (Fr.new hb2).cell c0 id; have d1 := (Fr.new hb2).cell c1 id; have d2 := (Fr.new hb2).cell c2 id; have HO2 := Lib.hid (HOV0.out w2 hb2)) | (go_at_call 17; refine HO2.out.mono ?_; rintro e w3 ⟨bp, mb, us, up, f, rfl, hbd, hgr, hbp, hb3⟩))
  have hB3 : Below W0.heap.size W0 w3 := hb2.trans (hb3.mono hb2.size)
  have HX := Lib.hid (And.intro hbd (And.intro hgr (And.intro (boxed_below HB.out.2.1 hB3) (And.intro (boxed_below HB.out.2.2.1 hB3) (HB.out.2.2.2.trans (hB3.mono hsz0))))))
  have hsz3 : n0 + 1 + 1 < w3.heap.size := HX.out.2.2.2.1.lt
  clear hbd hgr hB3 HB hb2 hb3 c0 c1 c2 d0 d1 d2 HOV HOV0 HR0 HO2 hbp
  go_upto_region 6 with fail
  refine wp_at (F := fun W => StsM W w3.heap.size (w3.heap.size + 1) w3.heap.size (.slice none 0 0) [] [] [] ∧ Below w3.heap.size w3 W) ?_ ?_
  · have h1 := mapIs_new w3 .string
    have h2 := (h1.fr (ch := nothing) (Fr.alloc _ (Obj.cells #[.slice none 0 0, .map (some w3.heap.size)] 63 (0, 0))) id).congr (f' := atK []) fun k _ => (atK_nil k).symm
    refine ⟨⟨alloc_at (by simp), World.ownsRow_nil _ _ _ _, h2, by simp, Nat.le_refl _, rfl, rfl, fun k hk => by simp at hk, fun i hi => by simp at hi, fun i hi => by simp at hi, fun i j hi => by simp at hi⟩, ((Below.refl _ w3).alloc (Nat.le_refl _) _).alloc (by simp) _⟩
  intro W5 ⟨hs5, hb5⟩
  have hown5 : OwnI (W5.alloc (Obj.cells #[.int .i64 0, .int .i64 0] 41 (0, 0))) w3.heap.size (.slice (some ⟨W5.heap.size, 0, none⟩) 1 1) [(0, 0)] := own_laid0 (size := 2) (B := w3.heap.size) (alloc_obj W5 (Obj.cells #[.int .i64 0, .int .i64 0] 41 (0, 0))) hb5.size (n := 1) rfl (by unfold maxLen; omega)
  have hpl := (rightG_parts HR.out).1.2.2.2.2.1
  have hin0 : InI G (0, 0) := ⟨Int.le_refl _, by show (0 : Int) < _; omega, Int.le_refl _, by show (0 : Int) ≤ _; omega⟩
  have hput := put_any [(0, 0)] (.slice (some ⟨W5.heap.size, 0, none⟩) 1 1) (W5.alloc (Obj.cells #[.int .i64 0, .int .i64 0] 41 (0, 0))) w3.heap.size (w3.heap.size + 1) w3.heap.size (.slice none 0 0) [] [] [] (hs5.fr (Fr.alloc _ _)) (fun x hx => by rw [List.mem_singleton.1 hx]; exact inI_small HR.out hin0) hown5 (by simp) (by simp)
  have HPU := Lib.hid hput
  have H5 := Lib.hid (And.intro hs5 (And.intro hb5 hin0))
  clear hs5 hb5 hown5 hput hin0 hpl
  generalize hB : w3.heap.size = B at *
  have HBE := Lib.hid hB
  clear hB
  go_wp2_with (go_at_call 18; refine HPU.out.mono ?_; rintro e w6 ⟨hF6, rfl, lv6, vs6, hs6⟩)
  have hb6 : Below B w3 w6 := (H5.out.1.fr (Fr.alloc _ _)).below hF6 (H5.out.2.1.alloc (by rw [← HBE.out]; exact H5.out.2.1.size) _)
  have hc6 : ColM G w6 B (B + 1) B 0 lv6 vs6 [[(0, 0)]] [] := ⟨hs6, rfl, Nat.zero_le _, by simp, fun j hj => by
    have : j = 0 := by simpa using hj
    subst this
    exact ⟨by simp, fun x hx => by rw [List.mem_singleton.1 hx]; exact H5.out.2.2⟩, rfl⟩
  have H6 := Lib.hid (And.intro hc6 hb6)
  clear hc6 hb6 hF6 hs6 HPU H5
  go_loopw [6] (fun i wr => ∃ (k : Nat) (lv : Value) (vs : List (Value × Value)) (ks : List (List It)) (gs : List (List (Int × Int))), i = .int .i64 k ∧ ColM G wr B (B + 1) B k lv vs ks gs ∧ Below B w3 wr) (fun i _ => 256 - (intOf i).toNat)
  case atStart => exact ⟨0, lv6, vs6, _, _, rfl, H6.out.1, H6.out.2⟩
  case round =>
    obtain ⟨k, lv, vs, ks, gs, rfl, hcm, hbw⟩ := hrel
    have hvl : vs.length = ks.length := hcm.sts.lk.symm
    have hkn := hcm.lk
    have hn := hcm.le
    by_cases hlt : k < ks.length
    · have hk' : k < vs.length := by omega
      obtain ⟨lb, lc, rfl, hlbB, hcell, -⟩ := hcm.sts.cells (by omega)
      have hcs := col_some hcm hlt
      have hK := hcm.ok k hlt
      have hker := hcm.sts.ker k hk'
      rw [List.getD_eq_getElem?_getD, List.getElem?_eq_getElem hlt, Option.getD_some] at hker
      have e0 := (hcell k hk').1
      have c0 := obj_cell hcm.sts.obj 0 (v := .slice (some ⟨lb, 0, none⟩) vs.length lc) rfl
      rw [hvl] at c0
      have hbd := HX.out.1.fr (Fr.new (HBE.out.symm ▸ hbw))
      have hgr := HX.out.2.1.fr (ch := nothing) (Fr.new (HBE.out.symm ▸ hbw)) fun _ _ => id
      have hki := hker.items (fun x hx => smallI_i64 (inI_small HR.out (hK.2 x hx))) (by have := hK.1; omega)
      have HCL := Lib.hid (closure_any G wr bp mb us up f w2.heap.size hbd hgr hm0 vs[k].1 ks[k] hki (by have := hK.1; omega) hK.2)
      have hLi : ∀ x ∈ cloL G ks[k], InI G x := fun x hx => inClo_in hK.2 (cloL_mem.1 hx)
      have hLl : (cloL G ks[k]).length ≤ 300000 := by
        have h1 := cloL_len G ks[k]
        have h2 := hK.1
        omega
      have HON := Lib.hid fun W (kk : Below wr.heap.size wr W) u (hu : OwnI W wr.heap.size u (cloL G ks[k])) => on_any G W bp mb us up (hbd.fr (Fr.new kk)) u (cloL G ks[k]) (hu.items (fun x hx => smallI_i64 (inI_small HR.out (hLi x hx))) (by omega)) hLl hLi
      have HCM := Lib.hid hcm
      have HBW := Lib.hid hbw
      have HLI := Lib.hid hLi
      have HCS := Lib.hid hcs
      have HLL := Lib.hid hLl
      have HKK := Lib.hid hK
      have hBwr : B ≤ wr.heap.size := Nat.le_trans hlbB (Nat.le_of_lt (World.block_lt_of_cell? wr _ e0))
      clear hcm hbw hLi hLl hcs hK hker hcell hbd hgr hki
      generalize hKv : vs[k].1 = kv at *
      clear hKv
      generalize hLe : cloL G ks[k] = L at *
      have HLE := Lib.hid hLe
      clear hLe
      generalize ks[k] = K0 at *
      go_wp2_with (first
        | (go_at_call 20; refine HCL.out.mono ?_; rintro e w7 ⟨u, rfl, hu7, hb7⟩; have HO7 := Lib.hid (HON.out w7 hb7 u hu7))
        | (go_at_call 19; refine HO7.out.mono ?_; rintro e w8 ⟨mO, fO, rfl, hg8, hz8, hb8⟩)
        | (go_at_call 22; refine (keysF_any (some mO) w8).mono ?_; rintro e w9 ⟨rfl, rfl⟩; have hm9 := hg8.map.fr (ch := nothing) (Fr.alloc w8 (Obj.cells #[.map (some mO)] 65 (0, 0))) id; have hz9 := hz8.fr (ch := nothing) (Fr.alloc w8 (Obj.cells #[.map (some mO)] 65 (0, 0))) id; have hx9 := alloc_obj w8 (Obj.cells #[.map (some mO)] 65 (0, 0)); have HS9 := Lib.hid (sortedKeys_any fO mO L.length w8.heap.size _ hm9 hz9 (by have := HLL.out; omega) hx9))
        | (go_at_call 21; refine HS9.out.mono ?_; rintro e w10 ⟨sv, ss, rfl, hris, hmem, hrow, hb10⟩; obtain ⟨sa', sc', rfl, -, -, -⟩ := own_as_cells hrow))
      have hk10 : Fr nothing wr w10 := (Fr.new hb7).trans ((Fr.new hb8).trans ((Fr.alloc _ _).trans (Fr.new hb10)))
      have hg10 := (hg8.fr (ch := nothing) (Fr.alloc w8 (Obj.cells #[.map (some mO)] 65 (0, 0))) fun _ _ => id).fr (Fr.new hb10) fun _ _ => id
      have hB1 : B + 1 < wr.heap.size := (Array.getElem?_eq_some_iff.1 HCM.out.sts.obj).1
      have hin := in_start HR.out HLI.out HCM.out hlt hk10 HCS.out hg10 (by have := hb7.size; omega) hris hmem (ownDown hrow (by have h1 := hb7.size; have h2 := hb8.size; simp; omega))
      have hbin : Below B w3 w10 := HBW.out.trans (hk10.below hBwr fun _ e => e.elim)
      have HIN := Lib.hid (And.intro hin hbin)
      have hssl : ss.length ≤ 1000 := by
        have h1 : ss = (symsI G).filter fun s => decide (onI G L s ≠ []) := by
          have := hin.go
          exact keys_are HR.out HLI.out hris fun x => by
            rw [hmem]
            rcases hg10.row x with ⟨h1, _, h3⟩ | ⟨h1, v, h2, _⟩
            · have : onI G L x = [] := List.eq_nil_of_length_eq_zero h1
              rw [h3, this]
              simp
            · have h1 : 0 < (onI G L x).length := h1
              rw [h2]
              simp only [ne_eq, reduceCtorEq, not_false_eq_true, true_iff]
              intro e
              rw [e] at h1
              simp at h1
        have h2 := List.length_filter_le (fun s => decide (onI G L s ≠ [])) (symsI G)
        rw [← h1] at h2
        have h3 : (symsI G).length = G.syms.length := by simp [symsI]
        have h4 := (rightG_parts HR.out).1
        omega
      have hrng : ∀ x ∈ ss, i64 x := fun x hx => by
        have h1 := (hmem x).1 hx
        rcases hg10.row x with ⟨_, _, h3⟩ | ⟨h1, _⟩
        · exact absurd h3 h1
        · have h1 : 0 < (onI G L x).length := h1
          obtain ⟨y, hy⟩ := List.exists_mem_of_length_pos h1
          obtain ⟨z, hz, hb, _⟩ := onI_mem.1 hy
          have h2 := beh_sym HR.out (HLI.out z hz) hb
          have h4 := (rightG_parts HR.out).1
          unfold i64
          omega
      have HRNG := Lib.hid hrng
      have hne : ∀ x ∈ ss, onI G L x ≠ [] := fun x hx e => by
        have h1 := (hmem x).1 hx
        rcases hg10.row x with ⟨_, _, h3⟩ | ⟨h2, _⟩
        · exact absurd h3 h1
        · have h2 : 0 < (onI G L x).length := h2
          rw [e] at h2
          simp at h2
      have HNE := Lib.hid hne
      clear hk10 hg10 hin hbin hris hmem hrow hrng hne hb7 hb8 hb10 hg8 hz8 hm9 hz9 hx9 HS9 HO7 HCL HON hu7 e0 c0 HCM HBW HCS hB1 hlbB hvl hk' hn hkn
      clear HLL
      generalize wr = wA at *
      generalize hssn : ss.length = sn at *
      have HSSN := Lib.hid hssn
      clear hssn
      go_loopw [49] (fun jv wr => ∃ (j : Nat) (lv : Value) (vs : List (Value × Value)) (ks' : List (List It)) (es : List (Int × Int)), jv = .int .i64 j ∧ j ≤ sn ∧ InM G L wr B k mO fO (.slice sa' sn sc') ss gs j lv vs ks' es ∧ Below B w3 wr) (fun jv _ => sn - (intOf jv).toNat)
      case atStart => exact ⟨0, _, _, _, _, rfl, Nat.zero_le _, HIN.out.1, HIN.out.2⟩
      case round =>
        obtain ⟨j, lv, vs', ks', es, rfl, hj, him, hbw⟩ := hrel
        by_cases hlj : j < sn
        · have hjs : j < ss.length := by rw [HSSN.out]; exact hlj
          have hk256 : k < 256 := by
            have h1 := him.lk
            have h2 := him.le
            omega
          have hx := List.getElem_mem hjs
          have hxi := HRNG.out _ hx
          have hxe := HNE.out _ hx
          have hdrop := List.drop_eq_getElem_cons hjs
          have hgo := him.go
          rw [hdrop] at hgo
          obtain ⟨rb, hsa, hcx⟩ : ∃ rb, sa' = some ⟨rb, 0, none⟩ ∧ wr.cell? ⟨rb, j, none⟩ = some (.int .i64 ss[j]) := by
            have hr := him.row
            rw [HSSN.out] at hr
            obtain ⟨a, c, e, h1, h2, h3⟩ := own_as_cells hr
            simp only [Value.slice.injEq, true_and] at e
            obtain ⟨rfl, rfl⟩ := e
            rcases h3 with h3 | ⟨g, rfl, -, hc⟩
            · rw [List.map_eq_nil_iff] at h3
              rw [h3] at hjs
              simp at hjs
            · have := hc j (by simpa using hjs)
              rw [List.getElem_map, Nat.zero_add] at this
              exact ⟨g, rfl, this⟩
          subst hsa
          generalize hsx : ss[j] = x at *
          have HSX := Lib.hid (show ss[j]? = some x by rw [List.getElem?_eq_getElem hjs, hsx])
          clear hsx
          have hlk := him.map.look (P := Try.prog) (t := 65) (kt := 3) (et := 36) (k := .int .i64 x) (by kernel_rfl) (by kernel_rfl) rfl (zItems wr) false
          simp only [Bool.false_eq_true, if_false] at hlk
          have hlx := him.lists x
          generalize (fO (.int .i64 x)).getD (.slice none 0 0) = vK at hlk hlx
          have hKlen : (onI G L x).length ≤ 100000 := by
            have h1 := onI_len G L x
            have h2 := cloL_len G K0
            rw [HLE.out] at h2
            have h3 := HKK.out.1
            have h4 := right_short HR.out
            omega
          have hsm : ∀ y ∈ onI G L x, smallI y := fun y hy => inI_small HR.out (onI_in HLI.out x y hy)
          have hput := put_any (onI G L x) vK wr B (B + 1) B lv vs' ks' _ him.sts hsm hlx hKlen him.le
          obtain ⟨ka, kc, rfl, -, -, -⟩ := own_as_cells2 hlx
          have HPU := Lib.hid hput
          have HIM := Lib.hid (And.intro him hbw)
          have HGO := Lib.hid hgo
          have HXE := Lib.hid hxe
          clear hput him hbw hgo hxe hlx hsm hKlen hdrop hx
          cases hp : putK ks' (onI G L x) with
          | none =>
            have hnone : colI G = none := by
              rw [HGO.out]
              unfold edgesGo
              rw [if_neg HXE.out, hp]
            have HPU2 := Lib.hid (HPU.out.mono fun e w' (h : PutP (onI G L x) (B + 1) B lv B ks' (gs ++ [es] ++ List.replicate (ks'.length - (k + 1)) []) wr e w') => by
              unfold PutP at h
              rw [hp] at h
              exact (show Fr (putCh (B + 1) B lv) wr w' ∧ e = .panicked [{ v := fullV, recovered := false }] from h))
            have HNN := Lib.hid hnone
            have hnl : (onI G L x).length ≤ 1000000000 := by
              have h1 := onI_len G L x
              have h2 := cloL_len G K0
              rw [HLE.out] at h2
              have h3 := HKK.out.1
              have h4 := right_short HR.out
              omega
            clear hp HPU HGO hnone HXE
            generalize onI G L x = M at *
            generalize M.length = mn at *
            have ht : decide ((j : Int) < (sn : Int)) = true := by simp; exact hlj
            clear hlt hjs
            go_wp2_with (go_at_call 18; refine HPU2.out.mono ?_; rintro e w5 ⟨hF5, rfl⟩)
            have hb5 : Below B w3 w5 := HIM.out.1.sts.below hF5 HIM.out.2
            have x1 := boxed_fr HX.out.2.2.1 (Fr.of_below hb5) (by show ¬ B ≤ n0 + 1; omega)
            have x2 := boxed_fr HX.out.2.2.2.1 (Fr.of_below hb5) (by show ¬ B ≤ n0 + 1 + 1; omega)
            refine leaves_cons (f := 16) (args := #[.pointer (some ⟨n0 + 1, 0, none⟩), .pointer (some ⟨n0 + 1 + 1, 0, none⟩)]) (by simp) (by simp [go_sem]) ?_
            refine (col1_caught _ _ _ _ _ _ x1.cell x1.frozen x2.cell x2.frozen (by omega)).mono ?_
            rintro e u' w'' ⟨rfl, rfl, rfl⟩
            have k5 := Fr.alloc (ch := nothing) w5 (Obj.cells #[] 56 (0, 0))
            have y1 := k5.cell x1.cell id
            have y2 := k5.cell x2.cell id
            have hbr : Below n0 w w5 := HX.out.2.2.2.2.trans (hb5.mono (by omega))
            have hbs : n0 ≤ w5.heap.size := by have := hbr.size; rw [HN0.out] at this; exact this
            have hba := hbr.alloc hbs (Obj.cells #[] 56 (0, 0))
            generalize w5.alloc (Obj.cells #[] 56 (0, 0)) = w9 at *
            have f2 : ((w9.setCell ⟨n0 + 1, 0, none⟩ (.slice none 0 0)).setCell ⟨n0 + 1 + 1, 0, none⟩ (.int .i64 104)).cell? ⟨n0 + 1 + 1, 0, none⟩ = some (.int .i64 104) := World.cell?_setCell_same _ _ _ ((World.cell?_setCell_other _ _ _ _ (by simp)).trans y2)
            have f1 : ((w9.setCell ⟨n0 + 1, 0, none⟩ (.slice none 0 0)).setCell ⟨n0 + 1 + 1, 0, none⟩ (.int .i64 104)).cell? ⟨n0 + 1, 0, none⟩ = some (.slice none 0 0) := (World.cell?_setCell_other _ _ _ _ (by simp)).trans (World.cell?_setCell_same _ _ _ y1)
            have hP : ColP G w (.returned (.tuple #[.slice none 0 0, .int .i64 104])) ((w9.setCell ⟨n0 + 1, 0, none⟩ (.slice none 0 0)).setCell ⟨n0 + 1 + 1, 0, none⟩ (.int .i64 104)) := by
              unfold ColP
              rw [if_neg (by rw [HR.out]; decide), HNN.out, HN0.out]
              exact ⟨(hba.setCell (p := ⟨n0 + 1, 0, none⟩) (by simp) _).setCell (p := ⟨n0 + 1 + 1, 0, none⟩) (by simp; omega) _, rfl⟩
            simp [Leaves, settle, results, Try.results7, go_sem, f1, f2, hP]
          | some q =>
            obtain ⟨c, ks1⟩ := q
            have HPU2 := Lib.hid (HPU.out.mono fun e w' (h : PutP (onI G L x) (B + 1) B lv B ks' (gs ++ [es] ++ List.replicate (ks'.length - (k + 1)) []) wr e w') => by
              unfold PutP at h
              rw [hp] at h
              exact (show Fr (putCh (B + 1) B lv) wr w' ∧ e = .returned (.int .i64 (c : Int)) ∧ ∃ lv' vs', StsM w' B (B + 1) B lv' vs' ks1 (if ks1.length = ks'.length then gs ++ [es] ++ List.replicate (ks'.length - (k + 1)) [] else gs ++ [es] ++ List.replicate (ks'.length - (k + 1)) [] ++ [[]]) from h))
            have HPP := Lib.hid hp
            have hnl : (onI G L x).length ≤ 1000000000 := by
              have h1 := onI_len G L x
              have h2 := cloL_len G K0
              rw [HLE.out] at h2
              have h3 := HKK.out.1
              have h4 := right_short HR.out
              omega
            have hel : es.length ≤ 1000 := by
              have := HIM.out.1.ln
              omega
            clear hp HPU HGO
            generalize hMe : onI G L x = M at *
            have HME := Lib.hid hMe
            clear hMe
            generalize M.length = mn at *
            have ht : decide ((j : Int) < (sn : Int)) = true := by simp; exact hlj
            clear hlt hjs
            go_upto_region 15 with (go_at_call 18; refine HPU2.out.mono ?_; rintro e w5 ⟨hF5, rfl, lv5, vs5, hs5⟩)
            obtain ⟨hst, hmap, hlists, hrow, hk1, hle1, hok1, hc1⟩ := in_put HR.out HIM.out.1 K0 HKK.out.1 HKK.out.2 HLE.out.symm (by rw [HME.out]; exact HPP.out) hF5 hs5
            have hb5 : Below B w3 w5 := HIM.out.1.sts.below hF5 HIM.out.2
            have hvl : vs5.length = ks1.length := hst.lk.symm
            have hkv : k < vs5.length := by omega
            obtain ⟨lb5, lc5, rfl, hlbB, hcell, -⟩ := hst.cells (by omega)
            have e1 := (hcell k hkv).2
            have hgE := hst.edg k hkv
            rw [mid_get HIM.out.1.lg] at hgE
            rw [hvl] at hst
            have hObj := hst.obj
            obtain ⟨_, csl, hlbo⟩ := ownObj hst.own lb5 rfl
            have HST := Lib.hid (And.intro hst (And.intro hmap (And.intro hlists (And.intro hrow (And.intro hle1 (And.intro hok1 (And.intro hb5 hkv)))))))
            have HVL := Lib.hid hvl
            obtain ⟨ga, gc, hgl, -, -, -⟩ := own_as_cells2 hgE
            rw [hgl] at hgE e1
            have HGL := Lib.hid hgl
            obtain ⟨wq, hq⟩ : ∃ wq, wq = w5.drew := ⟨_, rfl⟩
            have kq : Fr nothing w5 wq := by rw [hq]; exact Fr.drew _
            have hgq := own_fr hgE kq fun _ _ => id
            have hob := ownObj hgq
            have hR : ∀ W, Fr (fun g => (Value.slice ga es.length gc).ownBlock = some g) wq W → W.cell? ⟨B + 1, 0, none⟩ = some (.slice (some ⟨lb5, 0, none⟩) ks1.length lc5) ∧ W.cell? ⟨lb5, k * 2 + 1, none⟩ = some (.slice ga es.length gc) := fun W kk =>
              ⟨obj_cell (kk.obj (kq.obj hObj id) fun e => by
                obtain ⟨_, cs, hc⟩ := hob _ e
                rw [kq.obj hObj id] at hc
                simp only [Option.some.injEq, Obj.cells.injEq] at hc
                exact absurd hc.2.1 (by decide)) 0 rfl, kk.cell (kq.cell e1 id) fun e => by
                obtain ⟨_, cs, hc⟩ := hob _ e
                rw [kq.obj hlbo id] at hc
                simp only [Option.some.injEq, Obj.cells.injEq] at hc
                exact absurd hc.2.1 (by decide)⟩
            have hS0 := hR wq (Fr.refl _ _)
            have HRR := Lib.hid hR
            have HQ := Lib.hid (And.intro kq hgq)
            have hBq : B ≤ wq.heap.size := by
              have h1 := hb5.size
              have h2 := kq.size
              have h3 := HBE.out
              omega
            clear hst hmap hlists hrow hok1 hb5 hvl hcell e1 hgE hObj hlbo hgl hob hR hgq hs5 hle1 hlbB HPU2 hF5 hnl hlk hcx
            generalize hn1 : ks1.length = n1 at *
            have HN1 := Lib.hid hn1
            clear hn1
            generalize hen : es.length = en at *
            have HEN := Lib.hid hen
            clear hen
            refine wp_normal ?_
            refine wp_region_anyT (fun j W => j < 20 → W.cell? ⟨B + 1, 0, none⟩ = some (.slice (some ⟨lb5, 0, none⟩) n1 lc5) ∧ W.cell? ⟨lb5, k * 2 + 1, none⟩ = some (.slice ga en gc)) (by kernel_rfl) ?_
            rw [← hq]
            clear hq kq
            refine anyT_take (R := _) (i := 0) (v := ?_) (fun j => decide (j < 20)) (fun j w h k => k (of_decide_eq_true h)) (fun w h _ => h) rfl (by kernel_rfl) (fun _ _ _ h => h) _ _ _ _ (by kernel_rfl) (by kernel_rfl) (by kernel_rfl) (by kernel_rfl) (Or.inl ⟨by rfl, ?_⟩) (by assumption) ?_
            rotate_left
            · (intro w hSw; (try dsimp only at hSw); go_simp)
              try with_reducible rfl
            refine anyT_take (R := _) (i := 1) (v := ?_) (fun j => decide (j < 20)) (fun j w h k => k (of_decide_eq_true h)) (fun w h _ => h) rfl (by kernel_rfl) (fun _ _ _ h => h) _ _ _ _ (by kernel_rfl) (by kernel_rfl) (by kernel_rfl) (by kernel_rfl) (Or.inl ⟨by rfl, ?_⟩) (by assumption) ?_
            rotate_left
            · (intro w hSw; (try dsimp only at hSw); go_simp)
              try with_reducible rfl
            refine anyT_take (R := _) (i := 2) (v := ?_) (fun j => decide (j < 20)) (fun j w h k => k (of_decide_eq_true h)) (fun w h _ => h) rfl (by kernel_rfl) (fun _ _ _ h => h) _ _ _ _ (by kernel_rfl) (by kernel_rfl) (by kernel_rfl) (by kernel_rfl) (Or.inl ⟨by rfl, ?_⟩) (by assumption) ?_
            rotate_left
            · (intro w hSw; (try dsimp only at hSw); go_simp)
              try with_reducible rfl
            refine anyT_take (R := _) (i := 3) (v := ?_) (fun j => decide (j < 20)) (fun j w h k => k (of_decide_eq_true h)) (fun w h _ => h) rfl (by kernel_rfl) (fun _ _ _ h => h) _ _ _ _ (by kernel_rfl) (by kernel_rfl) (by kernel_rfl) (by kernel_rfl) (Or.inl ⟨by rfl, ?_⟩) (by assumption) ?_
            rotate_left
            · (intro w hSw; (try dsimp only at hSw); go_simp)
              try with_reducible rfl
            refine anyT_take (R := _) (i := 4) (v := ?_) (fun j => decide (j < 20)) (fun j w h k => k (of_decide_eq_true h)) (fun w h _ => h) rfl (by kernel_rfl) (fun _ _ _ h => h) _ _ _ _ (by kernel_rfl) (by kernel_rfl) (by kernel_rfl) (by kernel_rfl) (Or.inl ⟨by rfl, ?_⟩) (by assumption) ?_
            rotate_left
            · (intro w hSw; (try dsimp only at hSw); go_simp)
              try with_reducible rfl
            refine anyT_take (R := _) (i := 5) (v := ?_) (fun j => decide (j < 20)) (fun j w h k => k (of_decide_eq_true h)) (fun w h _ => h) rfl (by kernel_rfl) (fun _ _ _ h => h) _ _ _ _ (by kernel_rfl) (by kernel_rfl) (by kernel_rfl) (by kernel_rfl) (Or.inl ⟨by rfl, ?_⟩) (by assumption) ?_
            rotate_left
            · (intro w hSw; (try dsimp only at hSw); go_simp)
              try with_reducible rfl
            refine anyT_take (R := _) (i := 6) (v := ?_) (fun j => decide (j < 20)) (fun j w h k => k (of_decide_eq_true h)) (fun w h _ => h) rfl (by kernel_rfl) (fun _ _ _ h => h) _ _ _ _ (by kernel_rfl) (by kernel_rfl) (by kernel_rfl) (by kernel_rfl) (Or.inl ⟨by rfl, ?_⟩) (by assumption) ?_
            rotate_left
            · (intro w hSw; (try dsimp only at hSw); go_simp)
              try with_reducible rfl
            refine anyT_take (R := _) (i := 7) (v := ?_) (fun j => decide (j < 20)) (fun j w h k => k (of_decide_eq_true h)) (fun w h _ => h) rfl (by kernel_rfl) (fun _ _ _ h => h) _ _ _ _ (by kernel_rfl) (by kernel_rfl) (by kernel_rfl) (by kernel_rfl) (Or.inl ⟨by rfl, ?_⟩) (by assumption) ?_
            rotate_left
            · (intro w hSw; (try dsimp only at hSw); go_simp)
              try with_reducible rfl
            refine anyT_take (R := _) (i := 8) (v := ?_) (fun j => decide (j < 20)) (fun j w h k => k (of_decide_eq_true h)) (fun w h _ => h) rfl (by kernel_rfl) (fun _ _ _ h => h) _ _ _ _ (by kernel_rfl) (by kernel_rfl) (by kernel_rfl) (by kernel_rfl) (Or.inl ⟨by rfl, ?_⟩) (by assumption) ?_
            rotate_left
            · (intro w hSw; (try dsimp only at hSw); go_simp)
              try with_reducible rfl
            refine anyT_take (R := _) (i := 9) (v := ?_) (fun j => decide (j < 20)) (fun j w h k => k (of_decide_eq_true h)) (fun w h _ => h) rfl (by kernel_rfl) (fun _ _ _ h => h) _ _ _ _ (by kernel_rfl) (by kernel_rfl) (by kernel_rfl) (by kernel_rfl) (Or.inl ⟨by rfl, ?_⟩) (by assumption) ?_
            rotate_left
            · (intro w hSw; (try dsimp only at hSw); go_simp)
              try with_reducible rfl
            refine anyT_take (R := _) (i := 10) (v := ?_) (fun j => decide (j < 20)) (fun j w h k => k (of_decide_eq_true h)) (fun w h _ => h) rfl (by kernel_rfl) (fun _ _ _ h => h) _ _ _ _ (by kernel_rfl) (by kernel_rfl) (by kernel_rfl) (by kernel_rfl) (Or.inl ⟨by rfl, ?_⟩) (by assumption) ?_
            rotate_left
            · (intro w hSw; (try dsimp only at hSw); go_simp)
              try with_reducible rfl
            refine anyT_take (R := _) (i := 11) (v := ?_) (fun j => decide (j < 20)) (fun j w h k => k (of_decide_eq_true h)) (fun w h _ => h) rfl (by kernel_rfl) (fun _ _ _ h => h) _ _ _ _ (by kernel_rfl) (by kernel_rfl) (by kernel_rfl) (by kernel_rfl) (Or.inl ⟨by rfl, ?_⟩) (by assumption) ?_
            rotate_left
            · (intro w hSw; (try dsimp only at hSw); go_simp)
              try with_reducible rfl
            refine anyT_take (R := _) (i := 12) (v := ?_) (fun j => decide (j < 20)) (fun j w h k => k (of_decide_eq_true h)) (fun w h _ => h) rfl (by kernel_rfl) (fun _ _ _ h => h) _ _ _ _ (by kernel_rfl) (by kernel_rfl) (by kernel_rfl) (by kernel_rfl) (Or.inl ⟨by rfl, ?_⟩) (by assumption) ?_
            rotate_left
            · (intro w hSw; (try dsimp only at hSw); go_simp)
              try with_reducible rfl
            refine anyT_take (R := _) (i := 13) (v := ?_) (fun j => decide (j < 20)) (fun j w h k => k (of_decide_eq_true h)) (fun w h _ => h) rfl (by kernel_rfl) (fun _ _ _ h => h) _ _ _ _ (by kernel_rfl) (by kernel_rfl) (by kernel_rfl) (by kernel_rfl) (Or.inl ⟨by rfl, ?_⟩) (by assumption) ?_
            rotate_left
            · (intro w hSw; (try dsimp only at hSw); go_simp)
              try with_reducible rfl
            refine anyT_take (R := _) (i := 14) (v := ?_) (fun j => decide (j < 20)) (fun j w h k => k (of_decide_eq_true h)) (fun w h _ => h) rfl (by kernel_rfl) (fun _ _ _ h => h) _ _ _ _ (by kernel_rfl) (by kernel_rfl) (by kernel_rfl) (by kernel_rfl) (Or.inl ⟨by rfl, ?_⟩) (by assumption) ?_
            rotate_left
            · (intro w hSw; (try dsimp only at hSw); go_simp)
              try with_reducible rfl
            refine anyT_take (R := _) (i := 15) (v := ?_) (fun j => decide (j < 20)) (fun j w h k => k (of_decide_eq_true h)) (fun w h _ => h) rfl (by kernel_rfl) (fun _ _ _ h => h) _ _ _ _ (by kernel_rfl) (by kernel_rfl) (by kernel_rfl) (by kernel_rfl) (Or.inl ⟨by rfl, ?_⟩) (by assumption) ?_
            rotate_left
            · (intro w hSw; (try dsimp only at hSw); go_simp)
              try with_reducible rfl
            refine anyT_ready (rs := [16]) (by kernel_rfl) (by simp) ?_
            intro j hj
            obtain rfl := List.mem_singleton.1 hj
            clear hj
            refine wpOp_plain rfl rfl ?_
            go_simp
            refine ⟨HRR.out _ (Fr.alloc _ _), ?_⟩
            have hga := HQ.out.2.alloc (Obj.cells #[.int .i64 x, .int .i64 (c : Int)] 44 (0, 0))
            have hna := two_news (alloc_obj wq (Obj.cells #[.int .i64 x, .int .i64 (c : Int)] 44 (0, 0)))
            have hBa : B ≤ (wq.alloc (Obj.cells #[.int .i64 x, .int .i64 (c : Int)] 44 (0, 0))).heap.size := by simp; omega
            have hka := HQ.out.1.trans (Fr.alloc wq (Obj.cells #[.int .i64 x, .int .i64 (c : Int)] 44 (0, 0)))
            have hkw := Fr.alloc (ch := nothing) wq (Obj.cells #[.int .i64 x, .int .i64 (c : Int)] 44 (0, 0))
            have HKA := Lib.hid (And.intro hka hkw)
            clear hS0 hka hkw
            refine anyT_ready (rs := [17]) (by kernel_rfl) (by simp) ?_
            intro j hj
            obtain rfl := List.mem_singleton.1 hj
            clear hj
            refine wpOp_plain rfl rfl ?_
            generalize hwa : wq.alloc (Obj.cells #[.int .i64 x, .int .i64 (c : Int)] 44 (0, 0)) = wa at *
            refine wp_append_lies _ _ _ 37 rfl B 44 i0 _ 2 16 Try.underlying37 hi hz0 hz1 hz2 (by rfl) (by decide) (.slice ga en gc) _ _ (by rfl) hga ⟨wq.heap.size, 0, none⟩ 1 1 [.int .i64 x, .int .i64 (c : Int)] (by rfl) (by rfl) hna (by simp [Value.oneCell']) (by omega) (by unfold maxLen; omega) (by omega) hBa _ rfl ?_
            intro g cap w4 hown4 hgrow4 hat4 hlt4
            have hF4 : Fr (fun g => (Value.slice ga en gc).ownBlock = some g) wq w4 := HKA.out.2.wide.trans (Fr.grown hgrow4)
            refine ⟨fun _ => HRR.out _ hF4, ?_⟩
            obtain ⟨d0, d1⟩ := HRR.out _ hF4
            have z4 : w4.frozen? ⟨lb5, k * 2 + 1, none⟩ = false := by
              obtain ⟨_, cs, hc⟩ := ownObj HST.out.1.own lb5 rfl
              have := hF4.obj (HQ.out.1.obj hc id) fun e => by
                obtain ⟨_, cs', hc'⟩ := ownObj HQ.out.2 _ e
                rw [HQ.out.1.obj hc id] at hc'
                simp only [Option.some.injEq, Obj.cells.injEq] at hc'
                exact absurd hc'.2.1 (by decide)
              simp [World.frozen?, this]
            refine anyT_ready (rs := [18]) (by kernel_rfl) (by simp) ?_
            intro j hj
            obtain rfl := List.mem_singleton.1 hj
            clear hj
            refine wpOp_plain rfl rfl ?_
            go_simp
            refine anyT_ready (rs := [19]) (by kernel_rfl) (by simp) ?_
            intro j hj
            obtain rfl := List.mem_singleton.1 hj
            clear hj
            refine wpOp_plain rfl rfl ?_
            go_simp
            refine anyT_ready (rs := [20]) (by kernel_rfl) (by simp) ?_
            intro j hj
            obtain rfl := List.mem_singleton.1 hj
            clear hj
            refine wpOp_plain rfl rfl ?_
            go_simp
            refine anyT_done (by kernel_rfl) ?_ _
            unfold onlyNormal
            simp only
            obtain rfl := HN1.out
            obtain rfl := HEN.out
            obtain ⟨hjs, hsx⟩ := List.getElem?_eq_some_iff.1 HSX.out
            obtain ⟨hst, hmap, hlists, hrow, hle1, hok1, hb5, hkv'⟩ := HST.out
            generalize hw6 : w4.setCell ⟨lb5, k * 2 + 1, none⟩ (.slice (some ⟨g, 0, none⟩) (es.length + 1) cap) = w6 at *
            obtain ⟨hin6, hF6⟩ := in_edge HIM.out.1 hst hmap hlists hrow hkv hle1 hok1 HVL.out HKA.out.1 hown4 (by rw [HGL.out]; exact hgrow4) (by rw [HGL.out]; exact hat4.imp id fun e => by rw [e]; exact HKA.out.1.size) hw6.symm hjs hsx (by rw [HME.out]; exact HXE.out) (by rw [HME.out]; exact HPP.out)
            have hb6 : Below B w3 w6 := hb5.trans (hF6.below (by have := hb5.size; have := HBE.out; omega) fun g e => e)
            have HNEW := Lib.hid (And.intro hin6 hb6)
            clear hst hmap hlists hrow hok1 hb5 hin6 hF6 hb6 hw6 hown4 hgrow4 hat4 hlt4 hF4 d0 d1 z4 hga hna hBa HRR hwa HKA HGL HQ HST hjs hsx hle1
            generalize vs5[k].1 = kv5 at *
            clear hkv hkv' HVL
            go_wp2
            go_roundw
            case rel => exact ⟨j + 1, _, _, _, _, by simp, by omega, HNEW.out.1, HNEW.out.2⟩
            case measure => simp [intOf]; omega
        · obtain rfl : j = sn := by omega
          have hend := in_end him (by rw [HSSN.out]; exact Nat.le_refl _)
          have hk256 : k < 256 := by
            have h1 := him.lk
            have h2 := him.le
            omega
          have HE := Lib.hid (And.intro hend hbw)
          clear hend hbw him hlj hj hlt
          have ht : decide ((j : Int) < (j : Int)) = false := by simp
          go_wp2
          go_roundw
          case rel => exact ⟨k + 1, _, _, _, _, by simp, HE.out.1, HE.out.2⟩
          case measure => simp [intOf]; omega
    · obtain ⟨hci, hst⟩ := col_none hcm hlt
      obtain ⟨la, lc, rfl, -, -, -⟩ := own_as_cells2 hst.own
      have x1 := boxed_fr HX.out.2.2.1 (Fr.of_below hbw) (by show ¬ B ≤ n0 + 1; omega)
      have x2 := boxed_fr HX.out.2.2.2.1 (Fr.of_below hbw) (by show ¬ B ≤ n0 + 1 + 1; omega)
      have y1 := x1.cell
      have y2 := x2.cell
      have z1 := x1.frozen
      have z2 := x2.frozen
      rw [hvl] at hst
      have c0 := obj_cell hst.obj 0 (v := .slice la ks.length lc) rfl
      have HST := Lib.hid (And.intro hst (And.intro hbw hci))
      have hge : ks.length ≤ k := by omega
      have hge' : ¬ k < ks.length := hlt
      clear hst hbw hci hcm x1 x2 hlt
      go_wp2
      refine leaves_cons (f := 16) (args := #[.pointer (some ⟨n0 + 1, 0, none⟩), .pointer (some ⟨n0 + 1 + 1, 0, none⟩)]) (by simp) (by simp [go_sem]) ?_
      refine (col1_idle _ _ _).mono ?_
      rintro e u' w'' ⟨rfl, rfl, rfl⟩
      have f2 : ((wr.setCell ⟨n0 + 1, 0, none⟩ (.slice la ks.length lc)).setCell ⟨n0 + 1 + 1, 0, none⟩ (.int .i64 0)).cell? ⟨n0 + 1 + 1, 0, none⟩ = some (.int .i64 0) := World.cell?_setCell_same _ _ _ ((World.cell?_setCell_other _ _ _ _ (by simp)).trans y2)
      have f1 : ((wr.setCell ⟨n0 + 1, 0, none⟩ (.slice la ks.length lc)).setCell ⟨n0 + 1 + 1, 0, none⟩ (.int .i64 0)).cell? ⟨n0 + 1, 0, none⟩ = some (.slice la ks.length lc) := (World.cell?_setCell_other _ _ _ _ (by simp)).trans (World.cell?_setCell_same _ _ _ y1)
      have hP : ColP G w (.returned (.tuple #[.slice la ks.length lc, .int .i64 0])) ((wr.setCell ⟨n0 + 1, 0, none⟩ (.slice la ks.length lc)).setCell ⟨n0 + 1 + 1, 0, none⟩ (.int .i64 0)) := by
        unfold ColP
        obtain ⟨hst, hbw, hci⟩ := HST.out
        rw [if_neg (by rw [HR.out]; decide), hci, HN0.out]
        have hbr : Below n0 w wr := HX.out.2.2.2.2.trans (hbw.mono (by omega))
        refine ⟨(hbr.setCell (p := ⟨n0 + 1, 0, none⟩) (by simp) _).setCell (p := ⟨n0 + 1 + 1, 0, none⟩) (by simp; omega) _, B, B + 1, B, _, vs, rfl, ?_, by omega⟩
        refine hst.low (ch := fun g => g = n0 + 1 ∨ g = n0 + 1 + 1) ((Fr.setCell' ⟨n0 + 1, 0, none⟩ _ (.inl rfl)).trans (Fr.setCell' ⟨n0 + 1 + 1, 0, none⟩ _ (.inr rfl))) fun g hg e => ?_
        rcases e with e | e <;> omega
      simp [Leaves, settle, results, Try.results7, go_sem, f1, f2, hP]
theorem colF_any (G : Gram) (v : Value) (w : World) (h : IsGram w v G) : Calls Try.prog 7 #[v] w (ColP G w) := by
  cases hr : rightG G with
  | false => exact colF_bad G v w h hr
  | true => exact colF_good G v w h hr
end Go.Proofs.Ytgmkpncpcikecaa
