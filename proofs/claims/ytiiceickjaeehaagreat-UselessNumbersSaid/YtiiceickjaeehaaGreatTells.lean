/-
  UselessTells: the walk.
-/
import Derived.Test.YtiiceickjaeehaaGreatApart
import Derived.Test.YtiiceickjaeehaaGreatSame16
import Derived.Test.YtiiceickjaeehaaGreatStands
import Derived.Test.YtiiceickjaeehaaGreatUseAwake
import Derived.Test.YtiiceickjaeehaaGreatParts
import Derived.Test.YtiiceickjaeehaaGreatGramK
namespace Go.Proofs.YtiiceickjaeehaaGreat
open Go.RowKit
set_option maxHeartbeats 400000

/-- A row of truths in new memory, or none. -/
structure NewR (x w' : World) (a : Option Addr) (L : List Bool) : Prop where
  row : L = [] ∨ ∃ b, a = some ⟨b, 0, none⟩ ∧ w'.heap[b]? = some (boolsObj L)
  lies : ∀ b, a = some ⟨b, 0, none⟩ → x.heap.size ≤ b ∧ b < w'.heap.size
  below : Below x.heap.size x w'
theorem NewR.bools {x w' : World} {a : Option Addr} {L : List Bool} (h : NewR x w' a L) : IsBools w' (.slice a L.length L.length) L := ⟨a, rfl, h.row⟩
theorem AnsB.newR {w w' : World} {v : Value} {c : Bool} {L : List Bool} (h : AnsB w w' v c L) : ∃ a, v = .slice a (ansL c L).length (ansL c L).length ∧ NewR w w' a (ansL c L) := by
  rcases h with ⟨rfl, b, rfl, h0, h1, h2⟩ | ⟨rfl, rfl, h2⟩
  · exact ⟨_, rfl, .inr ⟨b, rfl, h1⟩, fun b' e => by cases e; exact ⟨h0, (Array.getElem?_eq_some_iff.1 h1).1⟩, h2⟩
  · exact ⟨none, rfl, .inl rfl, fun b' e => (by cases e), h2⟩
theorem makesN (G : Gram) (v : Value) (w : World) (h : IsGram w v G) : Calls Tryz.prog 8 #[v] w fun e w' => ∃ a, e = .returned (.slice a (ansL (rightG G) (makesL G)).length (ansL (rightG G) (makesL G)).length) ∧ NewR w w' a (ansL (rightG G) (makesL G)) := by
  refine (makesU_any G v w h).mono ?_
  rintro e w' ⟨r, rfl, ha⟩
  obtain ⟨a, rfl, h⟩ := ha.newR
  exact ⟨a, rfl, h⟩
theorem reachedN (G : Gram) (v : Value) (w : World) (h : IsGram w v G) : Calls Tryz.prog 9 #[v] w fun e w' => ∃ a, e = .returned (.slice a (ansL (rightG G) (fromL G fun _ => true)).length (ansL (rightG G) (fromL G fun _ => true)).length) ∧ NewR w w' a (ansL (rightG G) (fromL G fun _ => true)) := by
  refine (reachedU_any G v w h).mono ?_
  rintro e w' ⟨r, rfl, ha⟩
  obtain ⟨a, rfl, h⟩ := ha.newR
  exact ⟨a, rfl, h⟩
theorem makes16N (G : Gram) (v : Value) (w : World) (h : IsGram w v G) : Calls Tryz.prog 12 #[v] w fun e w' => ∃ a, e = .returned (.slice a (ansL (rightG G) (makesL G)).length (ansL (rightG G) (makesL G)).length) ∧ NewR w w' a (ansL (rightG G) (makesL G)) := by
  refine (makes16_any G v w h).mono ?_
  rintro e w' ⟨r, rfl, ha⟩
  obtain ⟨a, rfl, h⟩ := ha.newR
  exact ⟨a, rfl, h⟩
theorem reached16N (G : Gram) (v : Value) (w : World) (h : IsGram w v G) : Calls Tryz.prog 13 #[v] w fun e w' => ∃ a, e = .returned (.slice a (ansL (rightG G) (fromL G fun _ => true)).length (ansL (rightG G) (fromL G fun _ => true)).length) ∧ NewR w w' a (ansL (rightG G) (fromL G fun _ => true)) := by
  refine (reached16_any G v w h).mono ?_
  rintro e w' ⟨r, rfl, ha⟩
  obtain ⟨a, rfl, h⟩ := ha.newR
  exact ⟨a, rfl, h⟩
theorem findU_small (G : Gram) : (findU G).length ≤ G.syms.length ∧ ∀ x ∈ findU G, -9223372036854775808 ≤ x ∧ (x : Int) < G.syms.length := by
  unfold findU
  split
  · refine ⟨by have := findTo_len G G.syms.length; rw [find_law] at this; exact this, fun x hx => ?_⟩
    obtain ⟨s, rfl, h1, _⟩ := findL_mem.1 hx
    omega
  · exact ⟨Nat.zero_le _, fun x hx => by simp at hx⟩
/-- Numbers in new memory. -/
def NewI (x w' : World) (v : Value) (xs : List Int) : Prop := OwnInts x w' v xs
theorem findN (G : Gram) (v : Value) (w : World) (h : IsGram w v G) : Calls Tryz.prog 10 #[v] w fun e w' => ∃ a c, e = .returned (.slice a (findU G).length c) ∧ OwnInts w w' (.slice a (findU G).length c) (findU G) := by
  refine (findU_any G v w h).mono ?_
  rintro e w' ⟨r, rfl, h1, h2⟩
  obtain ⟨a, c, rfl, _⟩ := own_cells h1
  exact ⟨a, c, rfl, h1, h2⟩
theorem find16N (G : Gram) (v : Value) (w : World) (h : IsGram w v G) : Calls Tryz.prog 15 #[v] w fun e w' => ∃ a c, e = .returned (.slice a (findU G).length c) ∧ OwnInts w w' (.slice a (findU G).length c) (findU G) := by
  refine (find16_any G v w h).mono ?_
  rintro e w' ⟨r, rfl, h1, h2⟩
  obtain ⟨a, c, rfl, _⟩ := own_cells h1
  exact ⟨a, c, rfl, h1, h2⟩

/-- Truths turned, the first k of them. -/
def flip (L : List Bool) (k : Nat) : List Bool := (L.take k).map (fun b => !b) ++ L.drop k
theorem flip_len (L : List Bool) (k : Nat) : (flip L k).length = L.length := by simp [flip]; omega
theorem flip_zero (L : List Bool) : flip L 0 = L := by simp [flip]
theorem flip_get (L : List Bool) (k : Nat) (h : k < L.length) : (flip L k)[k]'(by rw [flip_len]; exact h) = L[k] := by
  unfold flip
  rw [List.getElem_append_right (by simp; omega)]
  simp [Nat.min_eq_left (Nat.le_of_lt h)]
theorem flip_set (L : List Bool) (k : Nat) (h : k < L.length) : (flip L k).set k (!L[k]) = flip L (k + 1) := by
  unfold flip
  have h1 : ((L.take k).map (fun b => !b)).length = k := by simp; omega
  rw [List.set_append_right _ _ (by omega), h1, Nat.sub_self, List.take_add_one, List.getElem?_eq_getElem h, List.drop_eq_getElem_cons h, List.map_append, List.append_assoc]
  rfl

theorem sameLen {a b : Option Addr} {n : Nat} {w : World} (m' : Nat) (e : m' = n) (h : Calls Tryz.prog 11 #[.slice a n n, .slice b n n] w fun e w' => e = .returned (.bool true) ∧ Below w.heap.size w w') :
    Calls Tryz.prog 11 #[.slice a m' m', .slice b m' m'] w fun e w' => e = .returned (.bool true) ∧ Below w.heap.size w w' := e ▸ h
theorem apartTwo (B N : Nat) (fa xa : Option Addr) (fc xc : Nat) (FU : List Int) (x0 x1 : World) (hN : N ≤ 3000) (hl : FU.length = N) (hB : B ≤ x0.heap.size) (hf : x0.ownsRow B 3 1 (.slice fa N fc) N (FU.map (Value.int .i64))) (hb : Below x0.heap.size x0 x1) (hx : x1.ownsRow x0.heap.size 3 1 (.slice xa N xc) N (FU.map (Value.int .i64))) :
    Calls Tryz.prog 17 #[.slice (some ⟨x1.heap.size, 0, none⟩) 2 2] (x1.alloc (.cells #[.slice fa N fc, .slice xa N xc] 31)) fun e w' => e = .returned (.bool true) ∧ Below B (x1.alloc (.cells #[.slice fa N fc, .slice xa N xc] 31)) w' := by
  have hf1 := (own_fr hf (Fr.new hb) fun _ _ e => e).alloc (.cells #[.slice fa N fc, .slice xa N xc] 31)
  have hx1 := hx.alloc (.cells #[.slice fa N fc, .slice xa N xc] 31)
  have hs := hb.size
  refine (apartInts_any B 2 (fun j => if j = 0 then .slice fa N fc else .slice xa N xc) (fun _ => N) _ _ ⟨by omega, fun _ _ => by omega, fun i hi j hj hij g e1 e2 => ?_⟩ (by simp; omega) ?_ fun j hj => ?_).mono ?_
  · have a1 := fun (e : (Value.slice fa N fc).ownBlock = some g) => (hf.lt g e).2
    have a2 := fun (e : (Value.slice xa N xc).ownBlock = some g) => (hx.lt g e).1
    by_cases h0 : i = 0
    · by_cases h1 : j = 0
      · omega
      · simp only [if_pos h0] at e1
        simp only [if_neg h1] at e2
        have := a1 e1
        have := a2 e2
        omega
    · by_cases h1 : j = 0
      · simp only [if_neg h0] at e1
        simp only [if_pos h1] at e2
        have := a1 e2
        have := a2 e1
        omega
      · omega
  · exact own_laid (B := B) (n := 2) (size := 1) (alloc_obj x1 (.cells #[.slice fa N fc, .slice xa N xc] 31)) (by omega) rfl (by unfold maxLen; omega)
  · by_cases h0 : j = 0
    · simp only [if_pos h0]
      exact ⟨FU, hl, hf1⟩
    · simp only [if_neg h0]
      exact ⟨FU, hl, own_base hx1 hB⟩
  · rintro e w' ⟨rfl, hF⟩
    refine ⟨rfl, hF.below (by simp; omega) fun g e => ?_⟩
    rcases e with ⟨j, _, e⟩ | e
    · by_cases h0 : j = 0
      · simp only [if_pos h0] at e
        exact (hf.lt g e).1
      · simp only [if_neg h0] at e
        exact Nat.le_trans hB (hx.lt g e).1
    · have : (x1.alloc (.cells #[.slice fa N fc, .slice xa N xc] 31)).heap.size = x1.heap.size + 1 := by simp
      omega
theorem tellKeep {W W3 W' : World} {BL : Nat} {u0 u1 u2 v : Value} {G : Gram} (h1 : W.cell? ⟨BL, 0, none⟩ = some u0) (h2 : W.cell? ⟨BL, 1, none⟩ = some u1) (h3 : W.cell? ⟨BL, 2, none⟩ = some u2) (h4 : IsGram W v G) (h5 : Below W3.heap.size W3 W) (hb : Below W.heap.size W W') :
    (W'.cell? ⟨BL, 0, none⟩ = some u0 ∧ W'.cell? ⟨BL, 1, none⟩ = some u1 ∧ W'.cell? ⟨BL, 2, none⟩ = some u2) ∧ IsGram W' v G ∧ Below W3.heap.size W3 W' :=
  have f := Fr.new hb
  ⟨⟨f.cell h1 fun e => e, f.cell h2 fun e => e, f.cell h3 fun e => e⟩, h4.fr f, h5.trans (hb.mono h5.size)⟩
set_option maxRecDepth 100000 in
set_option maxHeartbeats 4000000 in
theorem tells_any (G : Gram) (v : Value) (w : World) (h : IsGram w v G) (hf : Fits G) :
    Calls Tryz.prog 3 #[v] w fun e w' => e = .returned (.bool true) ∧ Below w.heap.size w w' := by
  have hG := h
  obtain ⟨hterms, vs, vp, rfl, hs, hp⟩ := h
  obtain ⟨_, sa, sc, rfl, _, _, _⟩ := id hs
  obtain ⟨_, pa, pc, rfl, _, _, _⟩ := id hp
  have hS0 : Stands w.heap.size w G sa pa sc pc (w.alloc (grO G sa pa sc pc)) := ⟨alloc_obj _ _, hG.fr (Fr.alloc _ _), (Below.refl _ w).alloc (Nat.le_refl _) _⟩
  have HS0 := Lib.hid hS0
  have HF := Lib.hid hf
  have HGO := Lib.hid (grammarOf_any G 3000 _ (w.alloc (grO G sa pa sc pc)) hS0.gram hf (by omega))
  unfold grV grO at HGO
  clear hS0 hs hp hG hf
  go_enter Tryz.func3, Tryz.ntmps3
  by_cases hP : partsG G 3000 ≤ 3000
  case neg =>
    have hP' : decide (partsG G 3000 > 3000) = true := decide_eq_true (by omega)
    go_wp2_with (first
      | (go_at_call 5; refine HGO.out.mono ?_; rintro e w2 ⟨rfl, hb2⟩)
      | (go_at_call 6; refine (awake_any _).mono ?_; rintro e w3 ⟨rfl, hb3⟩))
    go_ret
    exact ⟨rfl, ((HS0.out.keep hb2).keep hb3).below⟩
  case pos =>
    have hlen := (partsG_len hP).1
    have hP' : decide (partsG G 3000 > 3000) = false := decide_eq_false (by omega)
    go_upto_region 3 with (go_at_call 5; refine HGO.out.mono ?_; rintro e w2 ⟨rfl, hb2⟩)
    have hS2 := HS0.out.keep hb2
    have HLG := Lib.hid (lentGrammar_any _ G w2 hS2.gram (by omega) (by omega))
    unfold grV at HLG
    have d0 := hS2.d0
    have d1 := hS2.d1
    have d2 := hS2.d2
    have HS2 := Lib.hid hS2
    clear HGO hP hb2 HS0 hP' hS2 HF
    go_upto_region 4 with (go_at_call 7; refine HLG.out.mono ?_; rintro e w3 ⟨g1, c1, g2, c2, rfl, hlg, hb3⟩)
    refine wp_atW (F := fun W => Stands w.heap.size w G sa pa sc pc W ∧ W.heap[w3.heap.size]? = some (grO G (some ⟨g1, 0, none⟩) (some ⟨g2, 0, none⟩) c1 c2) ∧ LentG W w2.heap.size (grV G (some ⟨g1, 0, none⟩) (some ⟨g2, 0, none⟩) c1 c2) G) ?_ ?_
    · have hba : Below w3.heap.size w3 (w3.alloc (grO G (some ⟨g1, 0, none⟩) (some ⟨g2, 0, none⟩) c1 c2)) := (Below.refl _ w3).alloc (Nat.le_refl _) _
      exact ⟨(HS2.out.keep hb3).keep hba, alloc_obj _ _, LentG.fr hlg (Fr.new hba)⟩
    intro W3 ⟨hS3, hin, hle⟩
    have HS3 := Lib.hid (And.intro hS3 (And.intro hin hle))
    clear hS3 hin hle hlg hb3 HS2 HLG d0 d1 d2
    generalize w3.heap.size = BL at *
    generalize w2.heap.size = BE at *
    have hL1 : (ansL (rightG G) (makesL G)).length = (ansL (rightG G) (fromL G fun _ => true)).length := by
      unfold ansL
      split
      · rw [makesL_len, fromL_len]
      · rfl
    have hL2 : (ansL (rightG G) (makesL G)).length ≤ 3000 := by
      unfold ansL
      split
      · rw [makesL_len]; omega
      · simp
    have HMN := Lib.hid (makesN G)
    have HRN := Lib.hid (reachedN G)
    have HM16 := Lib.hid (makes16N G)
    have HR16 := Lib.hid (reached16N G)
    have HFN := Lib.hid (findN G)
    have HF16 := Lib.hid (find16N G)
    have HFS := Lib.hid (findU_small G)
    generalize ansL (rightG G) (makesL G) = LM at *
    generalize ansL (rightG G) (fromL G fun _ => true) = LR at *
    generalize hFU : findU G = FU at *
    clear hFU
    have hin := HS3.out.2.1
    have c0 : W3.cell? ⟨BL, 0, none⟩ = some (.int .i64 G.terms) := obj_cell hin 0 rfl
    have c1' : W3.cell? ⟨BL, 1, none⟩ = some (.slice (some ⟨g1, 0, none⟩) G.syms.length c1) := obj_cell hin 1 rfl
    have c2' : W3.cell? ⟨BL, 2, none⟩ = some (.slice (some ⟨g2, 0, none⟩) G.prods.length c2) := obj_cell hin 2 rfl
    have hgr := LentG.gram HS3.out.2.2
    unfold grV at hgr
    have hB0 := Below.refl W3.heap.size W3
    clear hin
    have hLR := hL1.symm
    clear hL1
    go_upto_region 5 with fail
    go_cut [4, 5, 6] (fun a b c wx => ∃ ma ra fa fc, a = .slice ma LM.length LM.length ∧ b = .slice ra LM.length LM.length ∧ c = .slice fa FU.length fc ∧ (IsBools wx (.slice ma LM.length LM.length) LM ∧ IsBools wx (.slice ra LM.length LM.length) LR ∧ wx.ownsRow W3.heap.size 3 1 (.slice fa FU.length fc) FU.length (FU.map (Value.int .i64))) ∧
      ((∀ g, ma = some ⟨g, 0, none⟩ → W3.heap.size ≤ g) ∧ (∀ g, ra = some ⟨g, 0, none⟩ → W3.heap.size ≤ g ∧ ∀ g', ma = some ⟨g', 0, none⟩ → g' ≠ g)) ∧ Below W3.heap.size W3 wx)
    case first =>
      go_region_held3 (fun w' => (w'.cell? ⟨BL, 0, none⟩ = some (.int .i64 G.terms) ∧ w'.cell? ⟨BL, 1, none⟩ = some (.slice (some ⟨g1, 0, none⟩) G.syms.length c1) ∧ w'.cell? ⟨BL, 2, none⟩ = some (.slice (some ⟨g2, 0, none⟩) G.prods.length c2)) ∧ IsGram w' (.agg #[.int .i64 G.terms, .slice (some ⟨g1, 0, none⟩) G.syms.length c1, .slice (some ⟨g2, 0, none⟩) G.prods.length c2]) G ∧ Below W3.heap.size W3 w')
        (first
          | exact tellKeep c0 c1' c2' hgr hB0 (Below.refl _ _).drew
          | (go_split_ands; exact tellKeep (by assumption) (by assumption) (by assumption) (by assumption) (by assumption) hbm)
          | (go_split_ands; exact tellKeep (by assumption) (by assumption) (by assumption) (by assumption) (by assumption) hbr)
          | (go_split_ands; exact tellKeep (by assumption) (by assumption) (by assumption) (by assumption) (by assumption) hbf))
        (first
          | (go_at_call 8; go_split_ands; refine (HMN.out _ _ (by assumption)).mono ?_; rintro e wm ⟨ma, rfl, hma⟩; have hbm := hma.below)
          | (go_at_call 9; go_split_ands; refine (HRN.out _ _ (by assumption)).mono ?_; rintro e wr ⟨ra, rfl, hra⟩; have hbr := hra.below)
          | (go_at_call 10; go_split_ands; refine (HFN.out _ _ (by assumption)).mono ?_; rintro e wf ⟨fa, fc, rfl, hfo, hbf⟩))
      all_goals
        try go_wp2
        go_meet
        have e1 : Below W3.heap.size W3 wm := hB0.drew.trans hbm
        have e2 := e1.trans (hbr.mono e1.size)
        have e3 := e2.trans (hbf.mono e2.size)
        have hrb := hra.bools
        rw [hLR] at hrb
        exact ⟨ma, ra, fa, fc, rfl, rfl, rfl, ⟨(hma.bools.fr (Fr.new hbr)).fr (Fr.new hbf), hrb.fr (Fr.new hbf), own_base hfo e2.size⟩, ⟨fun g e => (hma.lies g e).1, fun g e => ⟨Nat.le_trans e1.size (hra.lies g e).1, fun g' e' => by have h1 := (hma.lies g' e').2; have h2 := (hra.lies g e).1; omega⟩⟩, e3⟩
    case rest =>
      obtain ⟨ma, ra, fa, fc, rfl, rfl, rfl, ⟨hmb, hrb, hfo⟩, ⟨hs1, hs2⟩, hB⟩ := hcut
      have hSx := HS3.out.1.keep hB
      have hFB : ∀ x ∈ FU, -9223372036854775808 ≤ x ∧ x ≤ 9223372036854775807 := fun x hx => by have := HFS.out.2 x hx; omega
      have hFL : FU.length ≤ 3000 := by have := HFS.out.1; omega
      have d0 := hSx.d0
      have d1 := hSx.d1
      have d2 := hSx.d2
      have HX := Lib.hid (And.intro hmb (And.intro hrb (And.intro hfo (And.intro hs1 (And.intro hs2 hB)))))
      clear hmb hrb hfo hs1 hs2 hB c0 c1' c2' hgr hB0 hSx HRN
      go_upto_region 7 with (first
        | (go_at_call 12; refine (HM16.out _ wc (HS3.out.1.keep HX.out.2.2.2.2.2).gram).mono ?_; rintro e y1 ⟨a1, rfl, h1⟩; have hB1 := Lib.hid (HX.out.2.2.2.2.2.trans (h1.below.mono HX.out.2.2.2.2.2.size)); have H1 := Lib.hid h1; clear h1; have HSA := Lib.hid (same16_any _ _ LM (by omega) y1 (HX.out.1.fr (Fr.new H1.out.below)) H1.out.bools))
        | (go_at_call 11; with_reducible refine HSA.out.mono ?_; rintro e y2 ⟨rfl, hb2⟩; have hB2 := Lib.hid (hB1.out.trans (hb2.mono hB1.out.size)); have H2 := Lib.hid hb2; have s2 := HS3.out.1.keep hB2.out; have d3 := s2.d0; have d4 := s2.d1; have d5 := s2.d2; clear hb2 s2)
        | (go_at_call 13; refine (HR16.out _ y2 (HS3.out.1.keep hB2.out).gram).mono ?_; rw [hLR]; rintro e y3 ⟨a3, rfl, h3⟩; have hB3 := Lib.hid (hB2.out.trans (h3.below.mono hB2.out.size)); have H3 := Lib.hid h3; clear h3; have HSB := Lib.hid (sameLen LM.length hLR.symm (same16_any _ _ LR (by omega) y3 (((by have := HX.out.2.1; rw [← hLR] at this; exact this : IsBools wc (.slice ra LR.length LR.length) LR).fr (Fr.new H1.out.below)).fr (Fr.new H2.out) |>.fr (Fr.new H3.out.below)) H3.out.bools)))
        | (go_at_call 11; with_reducible refine HSB.out.mono ?_; rintro e y4 ⟨rfl, hb4⟩; have hB4 := Lib.hid (hB3.out.trans (hb4.mono hB3.out.size)); have H4 := Lib.hid hb4; have s4 := HS3.out.1.keep hB4.out; have d6 := s4.d0; have d7 := s4.d1; have d8 := s4.d2; clear hb4 s4)
        | (go_at_call 15; refine (HF16.out _ y4 (HS3.out.1.keep hB4.out).gram).mono ?_; rintro e y5 ⟨a5, k5, rfl, h5, hb5⟩; have hB5 := Lib.hid (hB4.out.trans (hb5.mono hB4.out.size)); have H5 := Lib.hid (And.intro h5 hb5); clear h5 hb5; have HSI := Lib.hid (sameInts_one _ _ FU y5 (own_ints (own_fr HX.out.2.2.1 (((((Fr.new H1.out.below).trans (Fr.new H2.out)).trans (Fr.new H3.out.below)).trans (Fr.new H4.out)).trans (Fr.new H5.out.2)) fun _ _ e => e) hFB (by omega)) (own_ints H5.out.1 hFB (by omega))))
        | (go_at_call 14; refine HSI.out.mono ?_; rintro e y6 ⟨rfl, hb6⟩; have hB6 := Lib.hid (hB5.out.trans (hb6.mono hB5.out.size)); have H6 := Lib.hid hb6; have s6 := HS3.out.1.keep hB6.out; have d9 := s6.d0; have d10 := s6.d1; have d11 := s6.d2; have i6 := (Fr.new hB6.out).obj HS3.out.2.1 fun e => e; have d12 : y6.cell? ⟨BL, 0, none⟩ = some (.int .i64 G.terms) := obj_cell i6 0 rfl; have d13 : y6.cell? ⟨BL, 1, none⟩ = some (.slice (some ⟨g1, 0, none⟩) G.syms.length c1) := obj_cell i6 1 rfl; have d14 : y6.cell? ⟨BL, 2, none⟩ = some (.slice (some ⟨g2, 0, none⟩) G.prods.length c2) := obj_cell i6 2 rfl; have HKG := Lib.hid (keptGrammar_any BE _ _ G y6 (LentG.fr HS3.out.2.2 (Fr.new hB6.out)) s6.gram); unfold grV at HKG; clear hb6 s6 i6)
        | (go_at_call 16; refine HKG.out.mono ?_; rintro e y7 ⟨rfl, hb7⟩))
      have hB7 := hB6.out.trans (hb7.mono hB6.out.size)
      have hF7 := ((((((Fr.new H1.out.below).trans (Fr.new H2.out)).trans (Fr.new H3.out.below)).trans (Fr.new H4.out)).trans (Fr.new H5.out.2)).trans (Fr.new H6.out)).trans (Fr.new hb7)
      have H7 := Lib.hid (show (LM = [] ∨ ∃ b, ma = some ⟨b, 0, none⟩ ∧ y7.heap[b]? = some (boolsObj (flip LM 0))) ∧ (LR = [] ∨ ∃ b, ra = some ⟨b, 0, none⟩ ∧ y7.heap[b]? = some (boolsObj (flip LR 0))) ∧ y7.ownsRow W3.heap.size 3 1 (.slice fa FU.length fc) FU.length (FU.map (Value.int .i64)) ∧ Below W3.heap.size W3 y7 from by
        obtain ⟨x1, x2, x3, x4, x5, x6⟩ := HX.out
        rw [flip_zero, flip_zero]
        refine ⟨?_, ?_, own_fr x3 hF7 fun _ _ e => e, hB7⟩
        · obtain ⟨a', e, h⟩ := x1.fr hF7
          simp only [Value.slice.injEq, and_true] at e
          rw [e]
          exact h
        · rw [← hLR] at x2
          obtain ⟨a', e, h⟩ := x2.fr hF7
          simp only [Value.slice.injEq, and_true] at e
          rw [e]
          exact h)
      simp only [hLR] at HR16
      have HSEP := Lib.hid (And.intro HX.out.2.2.2.1 HX.out.2.2.2.2.1)
      clear d0 d1 d2 d3 d4 d5 d6 d7 d8 d9 d10 d11 d12 d13 d14 HX H1 H2 H3 H4 H5 H6 hb7 hB7 hF7 hB1 hB2 hB3 hB4 hB5 hB6 HKG HSI HSA HSB HF16
      go_wp2
      go_loopw [7] (fun i wq => ∃ k : Nat, k ≤ LM.length ∧ i = .int .i64 k ∧ (LM = [] ∨ ∃ b, ma = some ⟨b, 0, none⟩ ∧ wq.heap[b]? = some (boolsObj (flip LM k))) ∧ (LR = [] ∨ ∃ b, ra = some ⟨b, 0, none⟩ ∧ wq.heap[b]? = some (boolsObj (flip LR k))) ∧ wq.ownsRow W3.heap.size 3 1 (.slice fa FU.length fc) FU.length (FU.map (Value.int .i64)) ∧ Below W3.heap.size W3 wq) (fun i _ => LM.length - (intOf i).toNat)
      case atStart => exact ⟨0, Nat.zero_le _, rfl, H7.out⟩
      case round =>
        obtain ⟨k, hk, rfl, hm, hr, hfo, hB⟩ := hrel
        clear H7
        by_cases hlt : k < LM.length
        · obtain ⟨bm, rfl, hbm⟩ : ∃ b, ma = some ⟨b, 0, none⟩ ∧ wr.heap[b]? = some (boolsObj (flip LM k)) := by
            rcases hm with h | h
            · rw [h] at hlt; simp at hlt
            · exact h
          have hltr : k < LR.length := by rw [hLR]; exact hlt
          obtain ⟨br, rfl, hbr⟩ : ∃ b, ra = some ⟨b, 0, none⟩ ∧ wr.heap[b]? = some (boolsObj (flip LR k)) := by
            rcases hr with h | h
            · rw [h] at hltr; simp at hltr
            · exact h
          have hne := (HSEP.out.2 br rfl).2 bm rfl
          have hbm3 := HSEP.out.1 bm rfl
          have hbr3 := (HSEP.out.2 br rfl).1
          have cm := bools_cell hbm k (by rw [flip_len]; exact hlt)
          have fm := obj_frozen hbm k
          rw [flip_get _ _ hlt] at cm
          have hsm := flip_set LM k hlt
          have hsr := flip_set LR k hltr
          have HK := Lib.hid (And.intro hbm (And.intro hbr (And.intro hfo (And.intro hB (And.intro hsm hsr)))))
          clear hm hr hfo hB hbm hbr hsm hsr
          generalize LM[k] = vm at *
          go_upto_region 11 with fail
          refine wp_atW (F := fun Y => Y.heap[bm]? = some (boolsObj (flip LM (k + 1))) ∧ Fr (only bm) wr Y) ?_ ?_
          · exact ⟨by rw [← HK.out.2.2.2.2.1]; exact bools_set HK.out.1 _ _, Fr.setCell _ ⟨bm, k, none⟩ _⟩
          intro Y ⟨hmY, hFY⟩
          have hrY := hFY.obj HK.out.2.1 (show ¬ only bm br from fun e => hne (show br = bm from e).symm)
          have hBY : Below W3.heap.size W3 Y := HK.out.2.2.2.1.trans (hFY.below HK.out.2.2.2.1.size fun g e => by have e' : g = bm := e; omega)
          have hfY := own_fr HK.out.2.2.1 hFY fun g e e2 => own_ne HK.out.2.2.1 HK.out.1 (by decide) (e.trans (congrArg some (show g = bm from e2)))
          have hSY := HS3.out.1.keep hBY
          have hgY := hSY.gram
          unfold grV at hgY
          have d0 := hSY.d0
          have d1 := hSY.d1
          have d2 := hSY.d2
          have cr := bools_cell hrY k (by rw [flip_len]; exact hltr)
          rw [flip_get _ _ hltr] at cr
          have hsr := HK.out.2.2.2.2.2
          obtain ⟨vr, hvr⟩ : ∃ vr, LR[k] = vr := ⟨_, rfl⟩
          rw [hvr] at cr hsr
          have HVR := Lib.hid hvr
          have HGY := Lib.hid hgY
          have HY := Lib.hid (And.intro hmY (And.intro hrY (And.intro hBY (And.intro hfY hsr))))
          clear hmY hFY hrY hBY hfY hSY hgY hsr hvr cm fm HK
          go_region_with ((go_at_call 13; refine (HR16.out _ _ (HGY.out.fr (Fr.drew _))).mono ?_; rintro e z ⟨na, rfl, hna⟩; obtain ⟨nb, rfl, hnb⟩ := hna.row.resolve_left (fun h => by rw [h] at hltr; simp at hltr); have cn := bools_cell hnb k hltr; rw [HVR.out] at cn; have cz := (Fr.new hna.below).cell (show Y.drew.cell? ⟨br, k, none⟩ = some (.bool vr) from cr) fun e => e; have fz := obj_frozen ((Fr.new hna.below).obj (show Y.drew.heap[br]? = some (boolsObj (flip LR k)) from HY.out.2.1) fun e => e) k))
          all_goals
            try go_wp2
            go_roundw
            case rel =>
              have hFz : Fr nothing Y z := (Fr.drew Y).trans (Fr.new hna.below)
              have hS := Fr.setCell z ⟨br, k, none⟩ (.bool (!vr))
              have hrz := hFz.obj HY.out.2.1 fun e => e
              have hBz := HY.out.2.2.1.trans (hFz.below HY.out.2.2.1.size fun _ e => e.elim)
              refine ⟨k + 1, by omega, by simp, .inr ⟨bm, rfl, hS.obj (hFz.obj HY.out.1 fun e => e) (show ¬ only br bm from fun e => hne (show bm = br from e))⟩, .inr ⟨br, rfl, ?_⟩, own_fr (own_fr HY.out.2.2.2.1 hFz fun _ _ e => e) hS fun g e e2 => own_ne HY.out.2.2.2.1 HY.out.2.1 (by decide) (e.trans (congrArg some (show g = br from e2))), hBz.trans (hS.below hBz.size fun g e => by have e' : g = br := e; omega)⟩
              rw [← HY.out.2.2.2.2]
              exact bools_set hrz _ _
            case measure => simp [intOf]; omega
        · obtain rfl : k = LM.length := by omega
          have HE := Lib.hid (And.intro hfo hB)
          have hSE := HS3.out.1.keep hB
          have d0 := hSE.d0
          have d1 := hSE.d1
          have d2 := hSE.d2
          have iE := (Fr.new hB).obj HS3.out.2.1 fun e => e
          have b0 : wr.cell? ⟨BL, 0, none⟩ = some (.int .i64 G.terms) := obj_cell iE 0 rfl
          have b1 : wr.cell? ⟨BL, 1, none⟩ = some (.slice (some ⟨g1, 0, none⟩) G.syms.length c1) := obj_cell iE 1 rfl
          have b2 : wr.cell? ⟨BL, 2, none⟩ = some (.slice (some ⟨g2, 0, none⟩) G.prods.length c2) := obj_cell iE 2 rfl
          clear hm hr hfo hB hlt hSE iE HR16
          generalize wr = wE at *
          have HGE := Lib.hid (show IsGram wE (.agg #[.int .i64 G.terms, .slice sa G.syms.length sc, .slice pa G.prods.length pc]) G from (HS3.out.1.keep HE.out.2).gram)
          have hlE : w.heap.size < wE.heap.size := (Array.getElem?_eq_some_iff.1 (HS3.out.1.keep HE.out.2).obj).1
          have hlB : BL < wE.heap.size := (Array.getElem?_eq_some_iff.1 ((Fr.new HE.out.2).obj HS3.out.2.1 fun e => e)).1
          go_upto_region 14 with fail
          go_region_with (first
            | (go_at_call 10; refine (HFN.out _ _ (HGE.out.fr (Fr.drew _))).mono ?_; rintro e x1 ⟨xa, xc, rfl, hxo, hbx⟩; have hBx : Below W3.heap.size W3 x1 := HE.out.2.drew.trans (hbx.mono HE.out.2.size); have HAP := Lib.hid (apartTwo W3.heap.size FU.length fa xa fc xc FU wE.drew x1 hFL rfl HE.out.2.size HE.out.1 hbx hxo); have HBX := Lib.hid hBx; clear hxo hbx hBx)
            | (go_at_call 17; refine HAP.out.mono ?_; rintro e x2 ⟨rfl, hb2⟩; have hB2 : Below W3.heap.size W3 x2 := (HBX.out.alloc HBX.out.size _).trans hb2; have s2 := HS3.out.1.keep hB2; have d3 := s2.d0; have d4 := s2.d1; have d5 := s2.d2; have i2 := (Fr.new hB2).obj HS3.out.2.1 fun e => e; have d6 : x2.cell? ⟨BL, 0, none⟩ = some (.int .i64 G.terms) := obj_cell i2 0 rfl; have d7 : x2.cell? ⟨BL, 1, none⟩ = some (.slice (some ⟨g1, 0, none⟩) G.syms.length c1) := obj_cell i2 1 rfl; have d8 : x2.cell? ⟨BL, 2, none⟩ = some (.slice (some ⟨g2, 0, none⟩) G.prods.length c2) := obj_cell i2 2 rfl; have HB2 := Lib.hid hB2; have HG2 := Lib.hid (show IsGram x2 (.agg #[.int .i64 G.terms, .slice (some ⟨g1, 0, none⟩) G.syms.length c1, .slice (some ⟨g2, 0, none⟩) G.prods.length c2]) G from LentG.gram (LentG.fr HS3.out.2.2 (Fr.new hB2))); clear hb2 hB2 s2 i2)
            | (go_at_call 8; refine (HMN.out _ _ HG2.out).mono ?_; rintro e x3 ⟨ma3, rfl, hm3⟩; have hB3 : Below W3.heap.size W3 x3 := HB2.out.trans (hm3.below.mono HB2.out.size); have s3 := HS3.out.1.keep hB3; have d9 := s3.d0; have d10 := s3.d1; have d11 := s3.d2; have HB3 := Lib.hid hB3; have HG3 := Lib.hid (show IsGram x3 (.agg #[.int .i64 G.terms, .slice sa G.syms.length sc, .slice pa G.prods.length pc]) G from s3.gram); have HM3 := Lib.hid hm3; clear hB3 s3 hm3)
            | (go_at_call 12; refine (HM16.out _ _ HG3.out).mono ?_; rintro e x4 ⟨ma4, rfl, hm4⟩; have hB4 : Below W3.heap.size W3 x4 := HB3.out.trans (hm4.below.mono HB3.out.size); have HSM := Lib.hid (same16_any _ _ LM (by omega) x4 (HM3.out.bools.fr (Fr.new hm4.below)) hm4.bools); have HB4 := Lib.hid hB4; clear hB4 hm4)
            | (go_at_call 11; refine HSM.out.mono ?_; rintro e x5 ⟨rfl, hb5⟩; have HB5 := Lib.hid (HB4.out.trans (hb5.mono HB4.out.size)); clear hb5)
            | (go_at_call 6; refine (awake_any _).mono ?_; rintro e x6 ⟨rfl, hb6⟩))
          all_goals
            try go_wp2
            go_ret
            exact ⟨rfl, (HS3.out.1.keep (HB5.out.trans (hb6.mono HB5.out.size))).below⟩
end Go.Proofs.YtiiceickjaeehaaGreat
