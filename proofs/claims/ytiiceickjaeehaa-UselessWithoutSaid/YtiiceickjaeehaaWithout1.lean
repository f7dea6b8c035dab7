/-
  UselessWithout: the walk.
-/
import Derived.Test.YtiiceickjaeehaaUseAwake
import Derived.Test.YtiiceickjaeehaaCopy2
import Derived.Test.YtiiceickjaeehaaParts
import Derived.Deep.OwnRows
namespace Go.Proofs.Ytiiceickjaeehaa
open Go.RowKit
set_option maxHeartbeats 400000

def grO (G : Gram) (sa pa : Option Addr) (sc pc : Nat) : Obj := .cells #[.int .i64 G.terms, .slice sa G.syms.length sc, .slice pa G.prods.length pc] 25 (0, 0)
def grV (G : Gram) (sa pa : Option Addr) (sc pc : Nat) : Value := .agg #[.int .i64 G.terms, .slice sa G.syms.length sc, .slice pa G.prods.length pc]
/-- The grammar that came in, in a variable's place. -/
structure Stands (B : Nat) (w0 : World) (G : Gram) (sa pa : Option Addr) (sc pc : Nat) (w : World) : Prop where
  obj : w.heap[B]? = some (grO G sa pa sc pc)
  gram : IsGram w (grV G sa pa sc pc) G
  below : Below w0.heap.size w0 w
theorem Stands.keep {B : Nat} {w0 w w' : World} {G : Gram} {sa pa : Option Addr} {sc pc : Nat} (h : Stands B w0 G sa pa sc pc w) (hb : Below w.heap.size w w') : Stands B w0 G sa pa sc pc w' :=
  ⟨(Fr.new hb).obj h.obj fun e => e, h.gram.fr (Fr.new hb), h.below.trans (hb.mono h.below.size)⟩
theorem Stands.wide {ch : Nat → Prop} {w0 w w' : World} {G : Gram} {sa pa : Option Addr} {sc pc : Nat} (h : Stands w0.heap.size w0 G sa pa sc pc w) (hG : IsGram w0 (grV G sa pa sc pc) G) (k : Fr ch w w') (hc : ∀ g, ch g → w0.heap.size < g) : Stands w0.heap.size w0 G sa pa sc pc w' := by
  have hb := h.below.trans (k.below h.below.size fun g e => Nat.le_of_lt (hc g e))
  exact ⟨k.obj h.obj fun e => by have := hc _ e; omega, hG.fr (Fr.new hb), hb⟩
theorem Stands.d0 {B : Nat} {w0 w : World} {G : Gram} {sa pa : Option Addr} {sc pc : Nat} (h : Stands B w0 G sa pa sc pc w) : w.cell? ⟨B, 0, none⟩ = some (.int .i64 G.terms) := obj_cell h.obj 0 rfl
theorem Stands.d1 {B : Nat} {w0 w : World} {G : Gram} {sa pa : Option Addr} {sc pc : Nat} (h : Stands B w0 G sa pa sc pc w) : w.cell? ⟨B, 1, none⟩ = some (.slice sa G.syms.length sc) := obj_cell h.obj 1 rfl
theorem Stands.d2 {B : Nat} {w0 w : World} {G : Gram} {sa pa : Option Addr} {sc pc : Nat} (h : Stands B w0 G sa pa sc pc w) : w.cell? ⟨B, 2, none⟩ = some (.slice pa G.prods.length pc) := obj_cell h.obj 2 rfl

/-! What the program's functions answer of a grammar that is not right, of one that is. -/
theorem find_bad {G : Gram} (hr : rightG G = false) (v : Value) (w : World) (h : IsGram w v G) : Calls Try.prog 9 #[v] w fun e w' => ∃ a c, e = .returned (.slice a 0 c) ∧ Below w.heap.size w w' := by
  refine (findU_any G v w h).mono ?_
  rintro e w' ⟨r, rfl, h1, h2⟩
  have : findU G = [] := by simp [findU, hr]
  rw [this] at h1
  obtain ⟨a, c, rfl, _⟩ := own_cells h1
  exact ⟨a, c, rfl, h2⟩
theorem makes_bad {G : Gram} (hr : rightG G = false) (v : Value) (w : World) (h : IsGram w v G) : Calls Try.prog 10 #[v] w fun e w' => e = .returned (.slice none 0 0) ∧ Below w.heap.size w w' := by
  refine (makesU_any G v w h).mono ?_
  rintro e w' ⟨r, rfl, ⟨h1, _⟩ | ⟨_, rfl, h2⟩⟩
  · rw [hr] at h1; cases h1
  · exact ⟨rfl, h2⟩
theorem reached_bad {G : Gram} (hr : rightG G = false) (v : Value) (w : World) (h : IsGram w v G) : Calls Try.prog 11 #[v] w fun e w' => e = .returned (.slice none 0 0) ∧ Below w.heap.size w w' := by
  refine (reachedU_any G v w h).mono ?_
  rintro e w' ⟨r, rfl, ⟨h1, _⟩ | ⟨_, rfl, h2⟩⟩
  · rw [hr] at h1; cases h1
  · exact ⟨rfl, h2⟩
theorem find_good {G : Gram} (hr : rightG G = true) (v : Value) (w : World) (h : IsGram w v G) : Calls Try.prog 9 #[v] w fun e w' => ∃ a c, e = .returned (.slice a (findL G).length c) ∧ OwnInts w w' (.slice a (findL G).length c) (findL G) := by
  refine (findU_any G v w h).mono ?_
  rintro e w' ⟨r, rfl, h1, h2⟩
  have : findU G = findL G := by simp [findU, hr]
  rw [this] at h1
  obtain ⟨a, c, rfl, _⟩ := own_cells h1
  exact ⟨a, c, rfl, h1, h2⟩
theorem makes_good {G : Gram} (hr : rightG G = true) (v : Value) (w : World) (h : IsGram w v G) : Calls Try.prog 10 #[v] w fun e w' => ∃ b, e = .returned (.slice (some ⟨b, 0, none⟩) G.syms.length G.syms.length) ∧ w'.heap[b]? = some (boolsObj (makesL G)) ∧ Below w.heap.size w w' := by
  refine (makesU_any G v w h).mono ?_
  rintro e w' ⟨r, rfl, ⟨_, b, rfl, _, h1, h2⟩ | ⟨h1, _⟩⟩
  · exact ⟨b, by rw [makesL_len], h1, h2⟩
  · rw [hr] at h1; cases h1

theorem make_bools (n : Nat) (hn : n ≤ 100000) (w : World) : (Instr.makeSlice 31 (.int .i64 (n : Int)) (.int .i64 (n : Int))).run Try.prog w = .ok (.slice (some ⟨w.heap.size, 0, none⟩) n n) (w.alloc (boolsObj (List.replicate n false))) := by
  have h := run_make_row' (P := Try.prog) 31 4 (.bool false) 1 Try.underlying31 Try.infoBool rfl .i64 .i64 n (by omega) (by omega) w
  have e : madeCells #[Value.bool false] n = ((List.replicate n false).map Value.bool).toArray := by
    have h2 : (madeCells #[Value.bool false] n).toList = List.replicate n (.bool false) := toList_madeCells_one _ _
    rw [← Array.toArray_toList (xs := madeCells #[Value.bool false] n), h2]
    simp
  rw [e] at h
  exact h
theorem setAll_snoc (L : List Bool) (R : List Int) (x : Int) : setAll L (R ++ [x]) = (setAll L R).set x.toNat true := by
  unfold setAll
  rw [List.foldl_append]
  rfl
/-- The grammar that is made of it. -/
def hBox (G : Gram) (g1 : Option Addr) (c1 : Nat) (p : Value) : Obj := .cells #[.int .i64 G.terms, .slice g1 G.syms.length c1, p] 25 (0, 0)
set_option maxRecDepth 100000 in
set_option maxHeartbeats 4000000 in
theorem without_any (G : Gram) (v : Value) (w : World) (h : IsGram w v G) (hf : Fits G) :
    Calls Try.prog 3 #[v] w fun e w' => e = .returned (.bool true) ∧ Below w.heap.size w w' := by
  have hG := h
  obtain ⟨hterms, vs, vp, rfl, hs, hp⟩ := h
  obtain ⟨_, sa, sc, rfl, _, _, _⟩ := id hs
  obtain ⟨_, pa, pc, rfl, _, _, _⟩ := id hp
  have hS0 : Stands w.heap.size w G sa pa sc pc (w.alloc (grO G sa pa sc pc)) := ⟨alloc_obj _ _, hG.fr (Fr.alloc _ _), (Below.refl _ w).alloc (Nat.le_refl _) _⟩
  have HS0 := Lib.hid hS0
  have HA := Lib.hid (awake_any (w.alloc (grO G sa pa sc pc)))
  have HF := Lib.hid hf
  have HG0 := Lib.hid (show IsGram w (grV G sa pa sc pc) G from hG)
  unfold grO at HA
  clear hS0 hs hp hG hf
  go_enter Try.func3, Try.ntmps3
  go_upto_region 3 with (go_at_call 6; refine HA.out.mono ?_; rintro e w1 ⟨rfl, hb1⟩)
  have hS1 := HS0.out.keep hb1
  clear hb1 HA HS0
  have HGO := Lib.hid (grammarOf_any G 3000 _ w1 hS1.gram HF.out (by omega))
  unfold grV at HGO
  have d0 := hS1.d0
  have d1 := hS1.d1
  have d2 := hS1.d2
  have HS1 := Lib.hid hS1
  clear hS1
  by_cases hP : partsG G 3000 ≤ 3000
  case neg =>
    have hP' : decide (partsG G 3000 > 3000) = true := decide_eq_true (by omega)
    go_wp2_with (go_at_call 7; refine HGO.out.mono ?_; rintro e w2 ⟨rfl, hb2⟩)
    go_ret
    exact ⟨rfl, (HS1.out.keep hb2).below⟩
  case pos =>
    have hlen := partsG_len hP
    have hP' : decide (partsG G 3000 > 3000) = false := decide_eq_false (by omega)
    go_upto_region 5 with (go_at_call 7; refine HGO.out.mono ?_; rintro e w2 ⟨rfl, hb2⟩)
    have hS2 := HS1.out.keep hb2
    have HR := Lib.hid (right_gram G _ w2 hS2.gram)
    unfold grV at HR
    clear d0 d1 d2 HGO hP hb2 HS1 hP'
    have d0 := hS2.d0
    have d1 := hS2.d1
    have d2 := hS2.d2
    have HS2 := Lib.hid hS2
    clear hS2
    cases hr : rightG G
    · have HFB := Lib.hid fun x hx => find_bad hr (grV G sa pa sc pc) x hx
      have HMB := Lib.hid fun x hx => makes_bad hr (grV G sa pa sc pc) x hx
      have HRB := Lib.hid fun x hx => reached_bad hr (grV G sa pa sc pc) x hx
      unfold grV at HFB HMB HRB
      rw [hr] at HR
      clear hr
      go_wp2_with (first
        | (go_at_call 8; refine HR.out.mono ?_; rintro e w3 ⟨rfl, hb3⟩; have hS3 := HS2.out.keep hb3; have HS3 := Lib.hid hS3; have e0 := hS3.d0; have e1 := hS3.d1; have e2 := hS3.d2; clear hb3 hS3)
        | (go_at_call 9; refine (HFB.out _ HS3.out.gram).mono ?_; rintro e w4 ⟨a, c, rfl, hb4⟩; have hS4 := HS3.out.keep hb4; have HS4 := Lib.hid hS4; have g0 := hS4.d0; have g1 := hS4.d1; have g2 := hS4.d2; clear hb4 hS4)
        | (go_at_call 10; refine (HMB.out _ HS4.out.gram).mono ?_; rintro e w5 ⟨rfl, hb5⟩; have hS5 := HS4.out.keep hb5; have HS5 := Lib.hid hS5; have k0 := hS5.d0; have k1 := hS5.d1; have k2 := hS5.d2; clear hb5 hS5)
        | (go_at_call 11; refine (HRB.out _ HS5.out.gram).mono ?_; rintro e w6 ⟨rfl, hb6⟩))
      go_ret
      exact ⟨rfl, (HS5.out.keep hb6).below⟩
    · obtain ⟨⟨ht0, ht1, hn0, hn1, _, _⟩, _, _⟩ := rightG_parts hr
      have HFG := Lib.hid fun x hx => find_good hr (grV G sa pa sc pc) x hx
      have HMG := Lib.hid fun x hx => makes_good hr (grV G sa pa sc pc) x hx
      unfold grV at HFG HMG
      have HRT := Lib.hid hr
      rw [hr] at HR
      clear hr
      obtain ⟨i0, hi, hz0, hz1, hz2⟩ := info_parts Try.infoBool
      go_upto_region 8 with (first
        | (go_at_call 8; refine HR.out.mono ?_; rintro e w3 ⟨rfl, hb3⟩; have hS3 := HS2.out.keep hb3; have HS3 := Lib.hid hS3; have e0 := hS3.d0; have e1 := hS3.d1; have e2 := hS3.d2; clear hb3 hS3)
        | (at_make; refine wpList_make_full _ rfl _ _ 31 rfl w3.heap.size 4 i0 (.bool false) 1 Try.underlying31 hi hz0 hz1 .i64 .i64 _ _ G.syms.length rfl rfl rfl rfl (by rw [hz2]; omega) (by unfold maxLen; omega) (Nat.le_refl _) ?_; intro w4 hown hgrow))
      have hbi4 := made_bools hown
      have hbs4 : w3.heap.size < w4.heap.size := (Array.getElem?_eq_some_iff.1 hbi4).1
      have hS4 := HS3.out.keep ((Below.refl _ w3).grown hgrow (Nat.le_refl _) (fun k e => by cases e))
      have HS4 := Lib.hid hS4
      have HBI4 := Lib.hid hbi4
      clear hown hgrow hbi4 e0 e1 e2 d0 d1 d2 HR HS2 hS4
      have d0 := HS4.out.d0
      have d1 := HS4.out.d1
      have d2 := HS4.out.d2
      have hBS : w.heap.size < w3.heap.size := (Array.getElem?_eq_some_iff.1 HS3.out.obj).1
      generalize hBI : w3.heap.size = BI at *
      clear hBI HS3 w3
      go_upto_region 9 with (go_at_call 9; refine (HFG.out _ HS4.out.gram).mono ?_; rintro e w5 ⟨la, lc, rfl, hl, hb5⟩)
      have hS5 := HS4.out.keep hb5
      have hbi5 := (Fr.new hb5).obj HBI4.out fun e => e
      have HS5 := Lib.hid hS5
      have HBI5 := Lib.hid hbi5
      have HL5 := Lib.hid hl
      have hbs5 : w4.heap.size ≤ w5.heap.size := hb5.size
      clear hb5 hS5 hbi5 hl d0 d1 d2 HS4 HBI4
      go_wp2
      go_loopw [5] (fun i wr => ∃ k : Nat, k ≤ (findL G).length ∧ i = .int .i64 k ∧ wr.heap[BI]? = some (boolsObj (setAll (List.replicate G.syms.length false) ((findL G).take k))) ∧ Fr (only BI) w5 wr) (fun i _ => (findL G).length - (intOf i).toNat)
      case atStart => exact ⟨0, Nat.zero_le _, rfl, HBI5.out, Fr.refl _ _⟩
      case round =>
        obtain ⟨k, hk, rfl, hbi, hF⟩ := hrel
        clear HBI5
        have hS := HS5.out.wide HG0.out hF fun g e => by have e' : g = BI := e; omega
        have d0 := hS.d0
        have d1 := hS.d1
        by_cases hlt : k < (findL G).length
        · obtain ⟨g, rfl, hg4, hcl⟩ : ∃ g, la = some ⟨g, 0, none⟩ ∧ w4.heap.size ≤ g ∧ Cells w5 g 0 ((findL G).map (Value.int .i64)) := by
            obtain ⟨a', c', hv, _, _, h3⟩ := own_cells HL5.out
            simp only [Value.slice.injEq] at hv
            obtain ⟨rfl, -, -⟩ := hv
            rcases h3 with h3 | h3
            · rw [List.map_eq_nil_iff] at h3
              rw [h3] at hlt
              simp at hlt
            · exact h3
          have hgB : ¬ only BI g := fun e => by have e' : g = BI := e; omega
          obtain ⟨sx, hxs, hsn, hst, _⟩ := findL_mem.1 (List.getElem_mem hlt)
          have c0 := hF.cell (hcl k (by simpa using hlt)) hgB
          rw [List.getElem_map, Nat.zero_add] at c0
          have htk : (findL G).take (k + 1) = (findL G).take k ++ [(findL G)[k]] := by rw [List.take_add_one, List.getElem?_eq_getElem hlt]; rfl
          have hset : setAll (List.replicate G.syms.length false) ((findL G).take (k + 1)) = (setAll (List.replicate G.syms.length false) ((findL G).take k)).set sx true := by
            rw [htk, hxs]
            simp [setAll]
          rw [hxs] at c0
          have c1 := bools_cell hbi sx (by rw [setAll_length, List.length_replicate]; exact hsn)
          have f1 := obj_frozen hbi sx
          have t1 : decide ((sx : Int) ≤ G.terms) = false := decide_eq_false (by omega)
          have t2 : decide (G.syms.length ≤ sx) = false := decide_eq_false (by omega)
          have HBI := Lib.hid (And.intro hbi (And.intro hF (And.intro hset hS)))
          have hord := List.pairwise_iff_getElem.1 (findL_sorted G)
          have hprev : ∀ j (hj : j < k), (findL G)[j] < (sx : Int) := fun j hj => by
            have := hord j k (by omega) hlt hj
            rw [hxs] at this
            exact this
          have hcellp : ∀ j, (hj : j < k) → wr.cell? ⟨g, j, none⟩ = some (.int .i64 (findL G)[j]) := fun j hj => by
            have := hF.cell (hcl j (by simp; omega)) hgB
            rw [List.getElem_map, Nat.zero_add] at this
            exact this
          clear hbi hF hset hS hcl htk hord hxs
          rcases k with _ | k
          · clear hprev hcellp
            go_wp2_with fail
            go_quiet (fail)
            go_wp2
            go_roundw
            case rel => exact ⟨1, by omega, rfl, by rw [show (1 : Nat) = 0 + 1 from rfl, HBI.out.2.2.1]; exact bools_set ((Fr.drewN (ch := nothing) wr nq).obj HBI.out.1 fun e => e) _ _, (HBI.out.2.1.trans (Fr.drewN _ _)).trans (Fr.setCell _ ⟨BI, sx, none⟩ _)⟩
            case measure => simp [intOf]; omega
          · have c2 := hcellp k (by omega)
            have hpv := hprev k (by omega)
            generalize (findL G)[k] = px at *
            have t3 : decide ((sx : Int) ≤ px) = false := decide_eq_false (by omega)
            have i1 : (0 : Int) ≤ (k : Int) + 1 := by omega
            have i2 : (k : Int) + 1 < ((findL G).length : Int) := by omega
            have i3 : ((k : Int) + 1).toNat = k + 1 := by omega
            have hL64 : (findL G).length ≤ G.syms.length := by have := findTo_len G G.syms.length; rw [find_law] at this; exact this
            have i4 : IntKind.i64.wrap ((k : Int) + 1 - 1) = k := by rw [show (k : Int) + 1 - 1 = k by omega]; exact IntWalk.i64_in _ (by omega)
            have i5 : IntKind.i64.wrap (k : Int) = k := IntWalk.i64_in _ (by omega)
            have i6 : (k : Int) < ((findL G).length : Int) := by omega
            have i7 : (0 : Int) ≤ (k : Int) := by omega
            have i8 : ((k : Int)).toNat = k := by omega
            clear hprev hcellp
            go_wp2_with fail
            go_quiet (fail)
            go_wp2
            go_roundw
            case rel => exact ⟨k + 1 + 1, by omega, by simp, by rw [HBI.out.2.2.1]; exact bools_set ((Fr.drewN (ch := nothing) wr nq).obj HBI.out.1 fun e => e) _ _, (HBI.out.2.1.trans (Fr.drewN _ _)).trans (Fr.setCell _ ⟨BI, sx, none⟩ _)⟩
            case measure => simp [intOf]; omega
        · obtain rfl : k = (findL G).length := by omega
          rw [List.take_length, find_set] at hbi
          have hIL := own_ints (own_fr HL5.out hF fun g e e2 => by have h1 := (HL5.out.lt g e).1; have e' : g = BI := e2; omega) (fun x hx => by obtain ⟨sx, rfl, h1, h2, _⟩ := findL_mem.1 hx; omega) (by have := List.length_filter_le (fun (s : Nat) => decide (G.terms + 1 ≤ (s : Int)) && outB G s) (List.range G.syms.length); unfold findL; simp only [List.length_map, List.length_range] at this ⊢; omega)
          have HS := Lib.hid hS
          have HBI := Lib.hid hbi
          have HIL := Lib.hid hIL
          have hw5 : w5.heap.size ≤ wr.heap.size := hF.size
          clear hlt hbi hF hS hIL HS5 HL5 d0 d1
          have d0 := HS.out.d0
          have d1 := HS.out.d1
          have d2 := HS.out.d2
          generalize wr = w6 at *
          go_upto_region 16 with (go_at_call 10; refine (HMG.out _ HS.out.gram).mono ?_; rintro e w7 ⟨bm, rfl, hmo, hb7⟩)
          have hS7 := HS.out.keep hb7
          have hbi7 := (Fr.new hb7).obj HBI.out fun e => e
          have hIL7 := HIL.out.fr (Fr.new hb7)
          clear d0 d1 d2 HS HBI HIL
          have d0 := hS7.d0
          have d1 := hS7.d1
          have d2 := hS7.d2
          obtain ⟨tn, htn⟩ : ∃ tn : Nat, G.terms = (tn : Int) := ⟨G.terms.toNat, by omega⟩
          have htl0 : tn < G.syms.length := by omega
          have htl : tn < (makesL G).length := by rw [makesL_len]; exact htl0
          have hmc := bools_cell hmo tn htl
          have hmk := makesL_iff (G := G) (s := tn) htl0
          rw [List.getD_eq_getElem?_getD, List.getElem?_eq_getElem htl, Option.getD_some] at hmk
          have hmt : G.terms.toNat = tn := by omega
          have hmi : (0 : Int) ≤ G.terms := by omega
          have hml : G.terms < (G.syms.length : Int) := by omega
          have HTN := Lib.hid htn
          clear htn
          generalize (makesL G)[tn]'htl = mb at hmc hmk
          clear htl
          cases mb
          · have hnm : ¬ Mk G G.terms.toNat := by rw [hmt, ← hmk]; exact Bool.false_ne_true
            have hfn := find_none (right_in HRT.out) hnm ⟨hmi, hml⟩
            have hS7' := Lib.hid hS7.below
            clear hmk hnm hmo hbi7 hIL7 hS7
            go_wp2
            go_ret
            exact ⟨rfl, hS7'.out⟩
          · have hmG : Mk G G.terms.toNat := by rw [hmt]; exact hmk.1 rfl
            have HC := Lib.hid (And.intro hmG (right_cut HRT.out hmG))
            have HCG := Lib.hid (copyGrammar_any _ G w7 hS7.gram (by omega) (by omega))
            unfold grV at HCG
            have HS7 := Lib.hid (And.intro hS7 (And.intro hbi7 hIL7))
            clear hmk hmo hmG hS7 hbi7 hIL7
            go_upto_region 21 with (go_at_call 12; refine HCG.out.mono ?_; rintro e w8 ⟨g1, c1, g2, c2, rfl, hsy, hb8⟩)
            clear d0 d1 d2 hmc
            go_upto_region 22 with fail
            refine wp_atW (F := fun W => W.heap[w8.heap.size]? = some (hBox G g1 c1 (.slice none 0 0)) ∧ Below w8.heap.size w8 W) ?_ ?_
            · exact ⟨alloc_obj w8 (hBox G g1 c1 (.slice none 0 0)), (Below.refl _ w8).alloc (Nat.le_refl _) _⟩
            intro W ⟨hh, hbb⟩
            have hS8 := HS7.out.1.keep hb8
            have hbi8 := (Fr.new hb8).obj HS7.out.2.1 fun e => e
            have d1 := (hS8.keep hbb).d1
            have hltB : w.heap.size < W.heap.size := (Array.getElem?_eq_some_iff.1 (hS8.keep hbb).obj).1
            have hltW : w8.heap.size < W.heap.size := (Array.getElem?_eq_some_iff.1 hh).1
            have hmk1 := make_bools G.syms.length (by omega)
            have HW8 := Lib.hid (And.intro hS8 (And.intro hsy (And.intro hbi8 (HS7.out.2.2.fr (Fr.new hb8)))))
            have HH := Lib.hid (And.intro hh hbb)
            have hlt8 : w.heap.size < w8.heap.size := (Array.getElem?_eq_some_iff.1 hS8.obj).1
            have hltI : BI < w8.heap.size := (Array.getElem?_eq_some_iff.1 hbi8).1
            clear hh hbb hS8 hbi8 hsy hb8 HS7 HCG HMG
            go_upto_region 23 with fail
            go_cut [8, 9] (fun a b wx => ∃ bw bs : Nat, a = .slice (some ⟨bw, 0, none⟩) G.syms.length G.syms.length ∧ b = .slice (some ⟨bs, 0, none⟩) G.syms.length G.syms.length ∧ bw ≠ bs ∧ W.heap.size ≤ bw ∧ W.heap.size ≤ bs ∧ wx.heap[bw]? = some (boolsObj (List.replicate G.syms.length false)) ∧ wx.heap[bs]? = some (boolsObj (List.replicate G.syms.length false)) ∧ Below W.heap.size W wx)
            case first =>
              go_region
              all_goals
                try go_wp2
                go_meet
                first
                  | exact ⟨W.heap.size, W.heap.size + 1, rfl, rfl, by omega, Nat.le_refl _, Nat.le_succ _, alloc_older (alloc_obj W _), alloc_at (by simp), ((Below.refl _ W).alloc (Nat.le_refl _) _).alloc (by simp) _⟩
                  | exact ⟨W.heap.size + 1, W.heap.size, rfl, rfl, by omega, Nat.le_succ _, Nat.le_refl _, alloc_at (by simp), alloc_older (alloc_obj W _), ((Below.refl _ W).alloc (Nat.le_refl _) _).alloc (by simp) _⟩
                  | exact ⟨W.heap.size, W.heap.size + 1, rfl, rfl, by omega, Nat.le_refl _, Nat.le_succ _, alloc_older (alloc_obj W _), alloc_at (by simp), (((Below.refl _ W).alloc (Nat.le_refl _) _).alloc (by simp) _).drew⟩
                  | exact ⟨W.heap.size + 1, W.heap.size, rfl, rfl, by omega, Nat.le_succ _, Nat.le_refl _, alloc_at (by simp), alloc_older (alloc_obj W _), (((Below.refl _ W).alloc (Nat.le_refl _) _).alloc (by simp) _).drew⟩
            case rest =>
              obtain ⟨bw, bs, rfl, rfl, hne, hbw, hbs, hwy, hst, hB⟩ := hcut
              rename_i wx
              have hh := (Fr.new hB).obj HH.out.1 fun e => e
              have hB8 := HH.out.2.trans (hB.mono HH.out.2.size)
              have HI := Lib.hid (And.intro hh (And.intro hwy (And.intro hst hB8)))
              clear hh hwy hst hB hB8 HH d1 hltB hmk1
              have hin := right_in HRT.out
              have hrl := hlen.2
              have HIN := Lib.hid (And.intro hin hrl)
              obtain ⟨j0, ji, jz0, jz1, jz2⟩ := info_parts Try.infoPrd
              clear hin hrl hi hz0 hz1 hz2
              go_wp2
              go_loopw [10, 11, 12, 13, 14] (fun i _ _ _ _ wr => ∃ (k : Nat) (p : Value) (xs : List (Prd × Value)) (Wy St : List Bool), k ≤ G.prods.length ∧ i = .int .i64 k ∧ wr.heap[w8.heap.size]? = some (hBox G g1 c1 p) ∧ wr.ownsRow w8.heap.size 35 6 p xs.length (xs.flatMap cellsP) ∧
                xs.map Prod.fst = (G.prods.take k).filter (keepP G) ∧ (∀ x ∈ xs, PrdOk x.1 ∧ Ints w8 x.2 x.1.right) ∧ (wr.heap[bw]? = some (boolsObj Wy) ∧ Wy.length = G.syms.length ∧ ∀ q ∈ G.prods.take k, keepP G q = true → Wy.getD q.left.toNat false = true) ∧
                (wr.heap[bs]? = some (boolsObj St) ∧ St.length = G.syms.length ∧ ∀ q ∈ G.prods.take k, keepP G q = true → ∀ x ∈ q.right, St.getD x.toNat false = true) ∧ Below w8.heap.size w8 wr) (fun i _ _ _ _ _ => G.prods.length - (intOf i).toNat)
              case atStart => exact ⟨0, .slice none 0 0, [], List.replicate G.syms.length false, List.replicate G.syms.length false, Nat.zero_le _, rfl, HI.out.1, World.ownsRow_nil _ _ _ _, rfl, by simp, ⟨HI.out.2.1, by simp, by simp⟩, ⟨HI.out.2.2.1, by simp, by simp⟩, HI.out.2.2.2⟩
              case round =>
                obtain ⟨k, p, xs, Wy, St, hk, rfl, hh, hown, hxs, hxo, hwy, hst, hB⟩ := hrel
                clear HI
                have hS := HW8.out.1.keep hB
                have d1 := hS.d1
                have d2 := hS.d2
                by_cases hlt : k < G.prods.length
                · obtain ⟨_, vs', vp', hv', _, hps⟩ := HW8.out.1.gram
                  unfold grV at hv'
                  simp only [Value.agg.injEq, Array.mk.injEq, List.cons.injEq, and_true, true_and] at hv'
                  obtain ⟨-, rfl⟩ := hv'
                  obtain ⟨b, o, ra, rc, rfl, hq, hcx⟩ := hps.get k hlt
                  have hinp := HIN.out.1 _ (List.getElem_mem hlt)
                  have hrlp := HIN.out.2 _ (List.getElem_mem hlt)
                  have htk : G.prods.take (k + 1) = G.prods.take k ++ [G.prods[k]] := by rw [List.take_add_one, List.getElem?_eq_getElem hlt]; rfl
                  generalize G.prods[k] = q at *
                  obtain ⟨left, right, prec, has, action, whr⟩ := q
                  simp only at hq hcx hrlp
                  obtain ⟨⟨hl0, hl1⟩, hri⟩ := hinp
                  simp only at hl0 hl1 hri
                  obtain ⟨pl, rfl⟩ : ∃ pl : Nat, left = pl := ⟨left.toNat, by omega⟩
                  have hpl : pl < G.syms.length := by omega
                  obtain ⟨hqok, rr, hqi, hqv⟩ := hq
                  unfold prdVal at hqv
                  simp only [Value.agg.injEq, Array.mk.injEq, List.cons.injEq, and_true, true_and] at hqv
                  subst hqv
                  have x0 := (Fr.new hB).cell (hcx 0 (by simp [prdCells])) fun e => e
                  have x1 := (Fr.new hB).cell (hcx 1 (by simp [prdCells])) fun e => e
                  have x2 := (Fr.new hB).cell (hcx 2 (by simp [prdCells])) fun e => e
                  have x3 := (Fr.new hB).cell (hcx 3 (by simp [prdCells])) fun e => e
                  have x4 := (Fr.new hB).cell (hcx 4 (by simp [prdCells])) fun e => e
                  have x5 := (Fr.new hB).cell (hcx 5 (by simp [prdCells])) fun e => e
                  simp only [prdCells, List.getElem_cons_zero, List.getElem_cons_succ, Nat.add_zero] at x0 x1 x2 x3 x4 x5
                  have HP := Lib.hid (And.intro hh (And.intro hown (And.intro hxs (And.intro hxo (And.intro hwy (And.intro hst (And.intro hB htk)))))))
                  have HQ := Lib.hid (And.intro hqok (And.intro hqi hri))
                  have hsB : w8.heap.size ≤ wr.heap.size := hB.size
                  clear hh hown hxs hxo hwy hst htk hps hcx hS hqok hqi hri
                  go_upto_region 27 with fail
                  refine wp_atW (F := fun Y => Y.heap[wr.heap.size]? = some (.cells #[.int .i64 (pl : Int), .slice ra right.length rc, .int .i64 prec, .bool has, .string action, .int .i64 whr] 35 (0, 0)) ∧ Below wr.heap.size wr Y) ?_ ?_
                  · exact ⟨alloc_obj wr _, (Below.refl _ wr).alloc (Nat.le_refl _) _⟩
                  intro Y ⟨hpb, hYB⟩
                  clear x0 x1 x2 x3 x4 x5 d1 d2
                  have hY8 := hB.trans (hYB.mono hsB)
                  have hbiY := (Fr.new hY8).obj HW8.out.2.2.1 fun e => e
                  have q0 : Y.cell? ⟨wr.heap.size, 0, none⟩ = some (.int .i64 (pl : Int)) := obj_cell hpb 0 rfl
                  have q1 : Y.cell? ⟨wr.heap.size, 1, none⟩ = some (.slice ra right.length rc) := obj_cell hpb 1 rfl
                  have hpo : pl < (outRow G).length := by rw [outRow_len]; exact hpl
                  have q2 := bools_cell hbiY pl hpo
                  have hkd : keepP G ⟨pl, right, prec, has, action, whr⟩ = !((outRow G)[pl] || right.any fun x => (outRow G).getD x.toNat false) := by
                    unfold keepP
                    simp only [Int.toNat_natCast, List.getD_eq_getElem?_getD, List.getElem?_eq_getElem hpo, Option.getD_some]
                  generalize (outRow G)[pl] = ob at q2 hkd
                  have HY := Lib.hid (And.intro hpb (And.intro hYB (And.intro hbiY (And.intro hY8 hkd))))
                  clear hpb hYB hbiY hY8 hkd hB
                  generalize hP : wr.heap.size = BP at *
                  have HPs := Lib.hid hP
                  clear hP
                  generalize wr = wA at *
                  go_upto_region 28 with fail
                  go_wp2
                  go_loopw [12, 13] (fun bad i wq => ∃ j : Nat, j ≤ right.length ∧ i = .int .i64 j ∧ bad = .bool (ob || (right.take j).any fun x => (outRow G).getD x.toNat false) ∧ wq = Y) (fun _ i _ => right.length - (intOf i).toNat)
                  case atStart => exact ⟨0, Nat.zero_le _, rfl, by simp, rfl⟩
                  case round =>
                    obtain ⟨j, hj, rfl, rfl, rfl⟩ := hrel
                    by_cases hlt3 : j < right.length
                    · obtain ⟨b2, o2, rfl, hcl⟩ : ∃ b2 o2, ra = some ⟨b2, o2, none⟩ ∧ Cells w8 b2 o2 (right.map (Value.int .i64)) := by
                        obtain ⟨_, _, a', c', hv, _, _, hx⟩ := HQ.out.2.1
                        simp only [Value.slice.injEq] at hv
                        obtain ⟨rfl, -, rfl⟩ := hv
                        rcases hx with rfl | hx
                        · simp at hlt3
                        · exact hx
                      have c0 := (Fr.new HY.out.2.2.2.1).cell (hcl j (by simpa using hlt3)) fun e => e
                      rw [List.getElem_map] at c0
                      have hrx := HQ.out.2.2 _ (List.getElem_mem hlt3)
                      have hnext : (right.take (j + 1)).any (fun x => (outRow G).getD x.toNat false) = ((right.take j).any (fun x => (outRow G).getD x.toNat false) || (outRow G).getD right[j].toNat false) := by
                        rw [List.take_add_one, List.getElem?_eq_getElem hlt3, List.any_append]
                        simp
                      generalize right[j] = x at *
                      obtain ⟨xn, rfl⟩ : ∃ xn : Nat, x = xn := ⟨x.toNat, by omega⟩
                      have hxn : xn < (outRow G).length := by rw [outRow_len]; omega
                      have c1 := bools_cell HY.out.2.2.1 xn hxn
                      have hxl : xn < G.syms.length := by omega
                      rw [Int.toNat_natCast, List.getD_eq_getElem?_getD, List.getElem?_eq_getElem hxn, Option.getD_some] at hnext
                      generalize (outRow G)[xn] = ox at c1 hnext
                      generalize (right.take j).any (fun x => (outRow G).getD x.toNat false) = aj at *
                      have HN := Lib.hid hnext
                      clear hnext hcl hrx hxn
                      generalize hc : (ob || aj) = c at *
                      have HC2 := Lib.hid hc
                      clear hc
                      cases c
                      · go_wp2
                        go_roundw
                        case rel => exact ⟨j + 1, by omega, by simp, by rw [HN.out, ← Bool.or_assoc, HC2.out, Bool.false_or], trivial⟩
                        case measure => simp [intOf]; omega
                      · go_wp2
                        go_roundw
                        case rel => exact ⟨j + 1, by omega, by simp, by rw [HN.out, ← Bool.or_assoc, HC2.out, Bool.true_or], trivial⟩
                        case measure => simp [intOf]; omega
                    · obtain rfl : j = right.length := by omega
                      have hkb : (ob || (right.take right.length).any fun x => (outRow G).getD x.toNat false) = !keepP G ⟨pl, right, prec, has, action, whr⟩ := by rw [List.take_length, HY.out.2.2.2.2, Bool.not_not]
                      rw [hkb]
                      generalize hkp : keepP G ⟨pl, right, prec, has, action, whr⟩ = kp at *
                      have HK := Lib.hid hkp
                      clear hkp hkb hlt3
                      cases kp
                      · have hb' : (!false) = true := rfl
                        go_wp2
                        go_roundw
                        case rel =>
                          have hYB : Below wA.heap.size wA wr := by rw [HPs.out]; exact HY.out.2.1
                          have hF := Fr.new hYB
                          obtain ⟨hh, hown, hxs, hxo, hwy, hst, hB, htk⟩ := HP.out
                          have hmem : ∀ q ∈ G.prods.take (k + 1), keepP G q = true → q ∈ G.prods.take k := fun q hq hkq => by
                            rw [htk] at hq
                            rcases List.mem_append.1 hq with hq | hq
                            · exact hq
                            · rw [List.mem_singleton.1 hq, HK.out] at hkq
                              cases hkq
                          refine ⟨k + 1, p, xs, Wy, St, by omega, by simp, hF.obj hh fun e => e, own_fr hown hF fun _ _ e => e, ?_, hxo, ⟨hF.obj hwy.1 fun e => e, hwy.2.1, fun q hq hkq => hwy.2.2 q (hmem q hq hkq) hkq⟩, ⟨hF.obj hst.1 fun e => e, hst.2.1, fun q hq hkq => hst.2.2 q (hmem q hq hkq) hkq⟩, HY.out.2.2.2.1⟩
                          rw [htk, List.filter_append, ← hxs]
                          simp [List.filter, HK.out]
                        case measure => simp [intOf]; omega
                      · have hb' : (!true) = false := rfl
                        have hYB : Below wA.heap.size wA wr := by rw [HPs.out]; exact HY.out.2.1
                        have hF := Fr.new hYB
                        obtain ⟨hh, hown, hxs, hxo, hwy, hst, hB, htk⟩ := HP.out
                        have hown1 := own_fr hown hF fun _ _ e => e
                        obtain ⟨pa2, pc2, hpv, _⟩ := own_cells hown1
                        subst hpv
                        have hhY := hF.obj hh fun e => e
                        have c2 : wr.cell? ⟨w8.heap.size, 2, none⟩ = some (.slice pa2 xs.length pc2) := obj_cell hhY 2 rfl
                        have q3 : wr.cell? ⟨BP, 2, none⟩ = some (.int .i64 prec) := obj_cell HY.out.1 2 rfl
                        have q4 : wr.cell? ⟨BP, 3, none⟩ = some (.bool has) := obj_cell HY.out.1 3 rfl
                        have q5 : wr.cell? ⟨BP, 4, none⟩ = some (.string action) := obj_cell HY.out.1 4 rfl
                        have q6 : wr.cell? ⟨BP, 5, none⟩ = some (.int .i64 whr) := obj_cell HY.out.1 5 rfl
                        have hxl : xs.length ≤ G.prods.length := by
                          have h1 := congrArg List.length hxs
                          have h2 := List.length_filter_le (keepP G) (G.prods.take k)
                          have h3 := List.length_take_le k G.prods
                          rw [List.length_map] at h1
                          have h4 := List.length_take_le' k G.prods
                          omega
                        have hsz := HY.out.2.2.2.1.size
                        have HO := Lib.hid (And.intro hown1 (And.intro hhY (And.intro (hF.obj hwy.1 fun e => e) (hF.obj hst.1 fun e => e))))
                        clear hF hYB hh hown hxs hxo hwy hst hB htk hown1 hhY
                        go_upto_region 34 with (at_builtin; refine wpList_append_any rfl _ _ 23 rfl w8.heap.size 35 j0 _ 6 72 Try.underlying23 ji jz0 jz1 jz2 rfl (by decide) _ _ _ rfl (HO.out.1.alloc _) _ 1 1 (cellsP (⟨pl, right, prec, has, action, whr⟩, .slice ra right.length rc)) rfl rfl (.inr ⟨_, rfl, cells_add (cells_new_at (by simp) _ _ rfl _ _)⟩) (by simp [cellsP, prdCells, Value.oneCell']) (by unfold maxLen; omega) (by omega) (by simp; omega) ?_; intro v2 w2 hown2 hgrow2; obtain ⟨v2a, v2c, rfl, _⟩ := own_cells hown2; have hF2 : Fr (fun g => (Value.slice pa2 xs.length pc2).ownBlock = some g) wr w2 := (Fr.alloc _ _).trans (Fr.grown hgrow2); have hg2 := hF2.obj HO.out.2.1 (fun e => own_ne HO.out.1 HO.out.2.1 (by decide) e); have f2 := obj_frozen hg2 2; have c3 : w2.cell? ⟨w8.heap.size, 2, none⟩ = some (.slice pa2 xs.length pc2) := obj_cell hg2 2 rfl)
                        have hbwY := (Array.getElem?_eq_some_iff.1 HP.out.2.2.2.2.1.1).1
                        have hbsY := (Array.getElem?_eq_some_iff.1 HP.out.2.2.2.2.2.1.1).1
                        rw [HPs.out] at hbwY hbsY
                        have hBP8 : w8.heap.size < BP := by have := (Array.getElem?_eq_some_iff.1 HP.out.1).1; rw [HPs.out] at this; exact this
                        refine wp_atW (F := fun Z => Z.heap[w8.heap.size]? = some (hBox G g1 c1 (.slice v2a (xs.length + 1) v2c)) ∧ Z.ownsRow w8.heap.size 35 6 (.slice v2a (xs.length + 1) v2c) (xs.length + 1) (xs.flatMap cellsP ++ cellsP (⟨pl, right, prec, has, action, whr⟩, .slice ra right.length rc)) ∧
                          Z.heap[bw]? = some (boolsObj Wy) ∧ Z.heap[bs]? = some (boolsObj St) ∧ Z.heap[BP]? = some (.cells #[.int .i64 (pl : Int), .slice ra right.length rc, .int .i64 prec, .bool has, .string action, .int .i64 whr] 35 (0, 0)) ∧ Below w8.heap.size w8 Z) ?_ ?_
                        · have hSC := Fr.setCell w2 ⟨w8.heap.size, 2, none⟩ (.slice v2a (xs.length + 1) v2c)
                          have hFZ : Fr (fun g => (Value.slice pa2 xs.length pc2).ownBlock = some g ∨ g = w8.heap.size) wr (w2.setCell ⟨w8.heap.size, 2, none⟩ (.slice v2a (xs.length + 1) v2c)) := (hF2.mono fun _ _ e => .inl e).trans (hSC.mono fun _ _ e => .inr e)
                          have hpown := own_fr HP.out.2.1 (Fr.refl nothing wA) fun _ _ e => e
                          refine ⟨setCell_obj hg2 _, own_fr (v := .slice v2a (xs.length + 1) v2c) hown2 hSC fun g e e2 => own_ne hown2 hg2 (by decide) (e.trans (congrArg some (show g = w8.heap.size from e2))), hFZ.obj HO.out.2.2.1 ?_, hFZ.obj HO.out.2.2.2 ?_, hFZ.obj HY.out.1 ?_, HY.out.2.2.2.1.trans (hFZ.below hsz fun g e => ?_)⟩
                          · rintro (e | e)
                            · exact own_ne HO.out.1 HO.out.2.2.1 (by decide) e
                            · omega
                          · rintro (e | e)
                            · exact own_ne HO.out.1 HO.out.2.2.2 (by decide) e
                            · omega
                          · rintro (e | e)
                            · have := (hpown.lt BP e).2
                              rw [HPs.out] at this
                              omega
                            · omega
                          · rcases e with e | e
                            · exact (HO.out.1.lt g e).1
                            · omega
                        intro Z ⟨z1, z2, z3, z4, z5, z6⟩
                        have hwl := HP.out.2.2.2.2.1.2.1
                        have hsl := HP.out.2.2.2.2.2.1.2.1
                        have k0 : Z.cell? ⟨BP, 0, none⟩ = some (.int .i64 (pl : Int)) := obj_cell z5 0 rfl
                        have k1 := bools_cell z3 pl (by rw [hwl]; exact hpl)
                        have k2 := obj_frozen z3 pl
                        have HZ := Lib.hid (And.intro z1 (And.intro z2 (And.intro z3 (And.intro z4 (And.intro z5 z6)))))
                        clear z1 z2 z3 z4 z5 z6 hown2 hgrow2 hF2 hg2 f2 c3 c2 q0 q1 q2 q3 q4 q5 q6 HO HY hsz
                        generalize wr = wY at *
                        go_upto_region 35 with fail
                        refine wp_atW (F := fun X => X.heap[bw]? = some (boolsObj (Wy.set pl true)) ∧ Fr (only bw) Z X) ?_ ?_
                        · exact ⟨bools_set HZ.out.2.2.1 _ _, Fr.setCell _ ⟨bw, pl, none⟩ _⟩
                        intro X ⟨hx1, hx2⟩
                        have hx3 := hx2.obj HZ.out.2.2.2.1 (show ¬ only bw bs from fun e => hne (show bs = bw from e).symm)
                        have hx4 := hx2.obj HZ.out.2.2.2.2.1 (show ¬ only bw BP from fun e => by have e' : BP = bw := e; omega)
                        have hx5 : Below w8.heap.size w8 X := HZ.out.2.2.2.2.2.trans (hx2.below HZ.out.2.2.2.2.2.size fun g e => by have e' : g = bw := e; omega)
                        have HX := Lib.hid (And.intro hx1 (And.intro hx2 (And.intro hx3 (And.intro hx4 hx5))))
                        clear hx1 hx2 hx3 hx4 hx5 k0 k1 k2
                        go_wp2
                        go_loopw [14] (fun i wq => ∃ j : Nat, j ≤ right.length ∧ i = .int .i64 j ∧ wq.heap[bs]? = some (boolsObj (setAll St (right.take j))) ∧ Fr (only bs) X wq) (fun i _ => right.length - (intOf i).toNat)
                        case atStart => exact ⟨0, Nat.zero_le _, rfl, HX.out.2.2.1, Fr.refl _ _⟩
                        case round =>
                          obtain ⟨j, hj, rfl, hsj, hFj⟩ := hrel
                          have hXB : Below w8.heap.size w8 wr := HX.out.2.2.2.2.trans (hFj.below HX.out.2.2.2.2.size fun g e => by have e' : g = bs := e; omega)
                          have hpX := hFj.obj HX.out.2.2.2.1 (show ¬ only bs BP from fun e => by have e' : BP = bs := e; omega)
                          have r1 : wr.cell? ⟨BP, 1, none⟩ = some (.slice ra right.length rc) := obj_cell hpX 1 rfl
                          have HJ := Lib.hid (And.intro hsj (And.intro hFj (And.intro hXB hpX)))
                          by_cases hlt4 : j < right.length
                          · obtain ⟨b2, o2, rfl, hcl⟩ : ∃ b2 o2, ra = some ⟨b2, o2, none⟩ ∧ Cells w8 b2 o2 (right.map (Value.int .i64)) := by
                              obtain ⟨_, _, a', c', hv, _, _, hx⟩ := HQ.out.2.1
                              simp only [Value.slice.injEq] at hv
                              obtain ⟨rfl, -, rfl⟩ := hv
                              rcases hx with rfl | hx
                              · simp at hlt4
                              · exact hx
                            have c0 := (Fr.new hXB).cell (hcl j (by simpa using hlt4)) fun e => e
                            rw [List.getElem_map] at c0
                            have hrx := HQ.out.2.2 _ (List.getElem_mem hlt4)
                            have hnext : setAll St (right.take (j + 1)) = (setAll St (right.take j)).set right[j].toNat true := by
                              rw [← setAll_snoc, List.take_add_one, List.getElem?_eq_getElem hlt4]
                              rfl
                            generalize right[j] = x at *
                            obtain ⟨xn, rfl⟩ : ∃ xn : Nat, x = xn := ⟨x.toNat, by omega⟩
                            have hxl2 : xn < G.syms.length := by omega
                            have c1 := bools_cell hsj xn (by rw [setAll_length, hsl]; exact hxl2)
                            have f1 := obj_frozen hsj xn
                            rw [Int.toNat_natCast] at hnext
                            have HN := Lib.hid hnext
                            clear hnext hcl hrx hsj hFj hXB hpX
                            go_wp2
                            go_roundw
                            case rel => exact ⟨j + 1, by omega, by simp, by rw [HN.out]; exact bools_set HJ.out.1 _ _, HJ.out.2.1.trans (Fr.setCell _ ⟨bs, xn, none⟩ _)⟩
                            case measure => simp [intOf]; omega
                          · obtain rfl : j = right.length := by omega
                            clear hsj hFj hXB hpX hlt4
                            go_wp2
                            go_roundw
                            case rel =>
                              obtain ⟨hsj, hFj, hXB, _⟩ := HJ.out
                              rw [List.take_length] at hsj
                              obtain ⟨hx1, hx2, _, _, _⟩ := HX.out
                              obtain ⟨z1, z2, _, _, _, _⟩ := HZ.out
                              obtain ⟨_, _, hxs, hxo, hwy, hst, _, htk⟩ := HP.out
                              have hFB : Fr (fun g => g = bw ∨ g = bs) Z wr := (hx2.mono fun _ _ e => .inl e).trans (hFj.mono fun _ _ e => .inr e)
                              have hbwX := HX.out.1
                              have hin2 : ∀ x ∈ right, x.toNat < St.length := fun x hx => by have := HQ.out.2.2 x hx; rw [hst.2.1]; omega
                              have hmem : ∀ q ∈ G.prods.take (k + 1), q ∈ G.prods.take k ∨ q = ⟨pl, right, prec, has, action, whr⟩ := fun q hq => by
                                rw [htk] at hq
                                rcases List.mem_append.1 hq with hq | hq
                                · exact .inl hq
                                · exact .inr (List.mem_singleton.1 hq)
                              have hlen2 : (xs ++ [((⟨pl, right, prec, has, action, whr⟩ : Prd), Value.slice ra right.length rc)]).length = xs.length + 1 := by simp
                              refine ⟨k + 1, .slice v2a (xs.length + 1) v2c, xs ++ [(⟨pl, right, prec, has, action, whr⟩, .slice ra right.length rc)], Wy.set pl true, setAll St right, by omega, by simp, hFB.obj z1 ?_, ?_, ?_, fun x hx => ?_, ⟨hFj.obj hx1 (show ¬ only bs bw from fun e => hne e), by rw [List.length_set]; exact hwy.2.1, fun q hq hkq => ?_⟩, ⟨hsj, by rw [setAll_length]; exact hst.2.1, fun q hq hkq x hx => ?_⟩, hXB⟩
                              · rintro (e | e) <;> omega
                              · rw [hlen2, List.flatMap_append, List.flatMap_singleton]
                                refine own_fr z2 hFB ?_
                                rintro g e (e2 | e2)
                                · exact own_ne z2 HZ.out.2.2.1 (by decide) (e.trans (congrArg some e2))
                                · exact own_ne z2 HZ.out.2.2.2.1 (by decide) (e.trans (congrArg some e2))
                              · rw [List.map_append, hxs, htk, List.filter_append]
                                simp [List.filter, HK.out]
                              · rcases List.mem_append.1 hx with hx | hx
                                · exact hxo x hx
                                · rw [List.mem_singleton.1 hx]
                                  exact ⟨HQ.out.1, HQ.out.2.1⟩
                              · rw [getD_set (by rw [hwy.2.1]; exact hpl)]
                                split
                                · rfl
                                · rename_i hne2
                                  rcases hmem q hq with hq | rfl
                                  · exact hwy.2.2 q hq hkq
                                  · exact absurd (Int.toNat_natCast pl).symm hne2
                              · rw [setAll_get _ _ _ hin2]
                                rcases hmem q hq with hq | rfl
                                · exact .inl (hst.2.2 q hq hkq x hx)
                                · exact .inr ⟨x, hx, rfl⟩
                            case measure => simp [intOf]; omega
                · obtain rfl : k = G.prods.length := by omega
                  rw [List.take_length] at hxs hwy hst
                  have hps : xs.map Prod.fst = (cutG G).prods := hxs
                  have hxl : xs.length ≤ G.prods.length := by
                    have h1 := congrArg List.length hxs
                    have h2 := List.length_filter_le (keepP G) G.prods
                    rw [List.length_map] at h1
                    omega
                  obtain ⟨pa2, pc2, hpv, _⟩ := own_cells hown
                  subst hpv
                  have hgr : IsGram wr (.agg #[.int .i64 G.terms, .slice g1 G.syms.length c1, .slice pa2 xs.length pc2]) (cutG G) := ⟨hterms, _, _, rfl, HW8.out.2.1.fr (Fr.new hB), hps ▸ own_prds hown (fun x hx => ⟨(hxo x hx).1, (hxo x hx).2.fr (Fr.new hB)⟩) (by omega)⟩
                  have hIL := HW8.out.2.2.2.fr (Fr.new hB)
                  have hbi := (Fr.new hB).obj HW8.out.2.2.1 fun e => e
                  have d0 := hS.d0
                  have hrc := HC.out.2
                  have HR2 := Lib.hid (right_gram (cutG G) _ wr hgr)
                  rw [hrc] at HR2
                  have HF2 := Lib.hid fun x hx => find_good hrc (.agg #[.int .i64 G.terms, .slice g1 G.syms.length c1, .slice pa2 xs.length pc2]) x hx
                  rw [find_cut HIN.out.1] at HF2
                  have hcs : (cutG G).syms = G.syms := rfl
                  have h0 : wr.cell? ⟨w8.heap.size, 0, none⟩ = some (.int .i64 G.terms) := obj_cell hh 0 rfl
                  have h1 : wr.cell? ⟨w8.heap.size, 1, none⟩ = some (.slice g1 G.syms.length c1) := obj_cell hh 1 rfl
                  have h2 : wr.cell? ⟨w8.heap.size, 2, none⟩ = some (.slice pa2 xs.length pc2) := obj_cell hh 2 rfl
                  have HE := Lib.hid (And.intro hh (And.intro hwy (And.intro hst (And.intro hbi (And.intro hIL (And.intro hgr hS.below))))))
                  have HIL0 := Lib.hid (And.intro hIL.1 hIL.2.1)
                  clear hlt hh hown hxs hxo hwy hst hB hps hgr hIL hbi hrc hcs hS
                  generalize wr = wE at *
                  go_wp2
                  go_loopw [15] (fun i wq => ∃ sn : Nat, tn + 1 ≤ sn ∧ sn ≤ G.syms.length ∧ i = .int .i64 sn ∧ wq = wE) (fun i _ => G.syms.length - (intOf i).toNat)
                  case atStart => exact ⟨tn + 1, Nat.le_refl _, by have := HTN.out; omega, by rw [HTN.out]; rfl, rfl⟩
                  case round =>
                    obtain ⟨sn, hs0, hs1, rfl, rfl⟩ := hrel
                    by_cases hlt5 : sn < G.syms.length
                    · have hso : sn < (outRow G).length := by rw [outRow_len]; exact hlt5
                      have e1 := bools_cell HE.out.2.2.2.1 sn hso
                      have e2 := bools_cell HE.out.2.1.1 sn (by rw [HE.out.2.1.2.1]; exact hlt5)
                      have e3 := bools_cell HE.out.2.2.1.1 sn (by rw [HE.out.2.2.1.2.1]; exact hlt5)
                      have hget := outRow_get (G := G) hlt5
                      have hwl := HE.out.2.1.2.1
                      have hsl := HE.out.2.2.1.2.1
                      rw [List.getD_eq_getElem?_getD, List.getElem?_eq_getElem hso, Option.getD_some, decide_eq_true (by have := HTN.out; omega), Bool.true_and] at hget
                      have hlaw := fun ho => way_law HIN.out.1 hlt5 (by have := HTN.out; omega) ho
                      have hwt : outB G sn = false → Wy[sn]'(by rw [hwl]; exact hlt5) = true := fun ho => by
                        obtain ⟨⟨q, hq, hkq, hle⟩, _⟩ := hlaw ho
                        have := HE.out.2.1.2.2 q hq hkq
                        rw [hle, List.getD_eq_getElem?_getD, List.getElem?_eq_getElem (by rw [hwl]; exact hlt5), Option.getD_some] at this
                        exact this
                      have hstt : outB G sn = false → St[sn]'(by rw [hsl]; exact hlt5) = true := fun ho => by
                        obtain ⟨_, q, hq, hkq, x, hx, hle⟩ := hlaw ho
                        have := HE.out.2.2.1.2.2 q hq hkq x hx
                        rw [hle, List.getD_eq_getElem?_getD, List.getElem?_eq_getElem (by rw [hsl]; exact hlt5), Option.getD_some] at this
                        exact this
                      rw [hget] at e1
                      clear hget hlaw
                      cases hob : outB G sn
                      · rw [hob] at e1
                        rw [hwt hob] at e2
                        rw [hstt hob] at e3
                        clear hwt hstt hob hwl hsl hso
                        go_wp2
                        go_roundw
                        case rel => exact ⟨sn + 1, by omega, by omega, by simp, trivial⟩
                        case measure => simp [intOf]; omega
                      · rw [hob] at e1
                        clear hwt hstt hob hwl hsl hso e2 e3
                        go_wp2
                        go_roundw
                        case rel => exact ⟨sn + 1, by omega, by omega, by simp, trivial⟩
                        case measure => simp [intOf]; omega
                    · obtain rfl : sn = G.syms.length := by omega
                      clear hlt5
                      go_wp2_with (first
                        | (go_at_call 8; refine HR2.out.mono ?_; rintro e wa ⟨rfl, hba⟩; have hga := HE.out.2.2.2.2.2.1.fr (Fr.new hba); have oa := (Fr.new hba).obj HE.out.1 fun e => e; have a0 : wa.cell? ⟨w8.heap.size, 0, none⟩ = some (.int .i64 G.terms) := obj_cell oa 0 rfl; have a1 : wa.cell? ⟨w8.heap.size, 1, none⟩ = some (.slice g1 G.syms.length c1) := obj_cell oa 1 rfl; have a2 : wa.cell? ⟨w8.heap.size, 2, none⟩ = some (.slice pa2 xs.length pc2) := obj_cell oa 2 rfl; have HGA := Lib.hid (And.intro hga hba); clear hga oa hba)
                        | (go_at_call 9; refine (HF2.out _ HGA.out.1).mono ?_; rintro e wb ⟨fa, fc, rfl, hfo, hbb⟩)
                        | (go_at_call 13; refine (sameInts_one _ _ (findL G) _ (own_ints hfo HIL0.out.1 HIL0.out.2) ((HE.out.2.2.2.2.1.fr (Fr.new HGA.out.2)).fr (Fr.new hbb))).mono ?_; rintro e wc ⟨rfl, hbc⟩))
                      go_ret
                      have hb1 := HE.out.2.2.2.2.2.2.trans (HGA.out.2.mono HE.out.2.2.2.2.2.2.size)
                      have hb2 := hb1.trans (hbb.mono hb1.size)
                      exact ⟨rfl, hb2.trans (hbc.mono hb2.size)⟩
end Go.Proofs.Ytiiceickjaeehaa
