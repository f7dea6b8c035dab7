/-
  gristmillref23: Make.
-/
import Derived.Test.YtpnihegmhalcfaaRunG28
import Derived.Test.YtpnihegmhalcfaaRunG03
import Derived.StillTailTactics
namespace Go.Proofs.Ytpnihegmhalcfaa
open Go.RowKit Go.MapKept Go.ChangeMaps
set_option maxHeartbeats 400000

theorem mayL_len (K : List It) (E : List (Int × Int)) (i term : Nat) (l : List Ah) : (mayL K E i term l).length ≤ 1 + K.length + l.length := by
  unfold mayL
  have h1 := shfL_len E term
  have h2 := kerL_len term K
  have h3 := ahdL_len i term l
  simp only [List.length_append]
  omega
/-- The table's part that is made of the first states. -/
def preT (G : Gram) (ks : List (List It)) (gs : List (List (Int × Int))) (l : List Ah) (a g : Nat) : Tbl :=
  ⟨(List.range a).map fun i => actRow G (ks.getD i []) (gs.getD i []) i l, (List.range g).map fun i => gotoRow G (gs.getD i [])⟩

theorem news_any {w : World} {b : Nat} {l : List Value} {t : TypeId} {f : Nat × Nat} (h : w.heap[b]? = some (.cells l.toArray t f)) : ∀ j u, l[j]? = some u → w.cell? ((⟨b, 0, none⟩ : Addr).add j) = some u :=
  cells_add (fun i hi => by
    have := obj_cell h i (v := l[i]) (by simp [hi])
    simpa using this)
def goAt (G : Gram) (t : Nat) (m : List Ac) (k : Nat) (cur : Ac) : Prop := if k = 0 then cur = ⟨0, 0⟩ else actGo G t cur (m.drop k) = actOf G t m
theorem goAt_zero {G : Gram} {t : Nat} {m : List Ac} : goAt G t m 0 ⟨0, 0⟩ := by unfold goAt; simp
theorem goAt_one {G : Gram} {t : Nat} {m : List Ac} (h : 0 < m.length) : goAt G t m (0 + 1) m[0] := by
  unfold goAt
  rw [if_neg (by omega)]
  cases m with
  | nil => simp at h
  | cons x r => rfl
theorem goAt_end {G : Gram} {t : Nat} {m : List Ac} {cur : Ac} (h : goAt G t m m.length cur) : cur = actOf G t m := by
  unfold goAt at h
  split at h
  · rename_i h0
    rw [h, List.eq_nil_of_length_eq_zero h0]
    rfl
  · rw [List.drop_length] at h
    exact h
theorem goAt_next {G : Gram} {t k : Nat} {m : List Ac} {cur : Ac} (hk : k < m.length) (h0 : k ≠ 0) (h : goAt G t m k cur) :
    ((pickE G (t : Int) (entA cur) (entA m[k])).1 = 2 → actOf G t m = ⟨0, 0⟩) ∧ ((pickE G (t : Int) (entA cur) (entA m[k])).1 = 1 → goAt G t m (k + 1) m[k]) ∧ ((pickE G (t : Int) (entA cur) (entA m[k])).1 ≠ 2 → (pickE G (t : Int) (entA cur) (entA m[k])).1 ≠ 1 → goAt G t m (k + 1) cur) := by
  unfold goAt at h ⊢
  rw [if_neg h0, List.drop_eq_getElem_cons hk] at h
  unfold actGo at h
  refine ⟨fun e => ?_, fun e => ?_, fun e e2 => ?_⟩
  · rw [if_pos e] at h
    exact h.symm
  · rw [if_neg (by rw [e]; decide), if_pos e] at h
    rw [if_neg (by omega)]
    exact h
  · rw [if_neg e, if_neg e2] at h
    rw [if_neg (by omega)]
    exact h
/-- What one state's round holds: the clashes so far, the row that is made, what may stand at one terminal. -/
structure MkM (wI w6 W : World) (B ab Bm tn cn : Nat) (cv mr : Value) (xs : List Value) (L m : List Ac) : Prop where
  cl : W.ownsRow B 129 8 cv cn xs
  row : OwnAc W ab (.slice (some ⟨ab, 0, none⟩) tn tn) L
  fr : Fr (isClash wI) wI W
  bel : Below B w6 W
  may : OwnAc W Bm mr m
theorem MkM.size {wI w6 W : World} {B ab Bm tn cn : Nat} {cv mr : Value} {xs : List Value} {L m : List Ac} (h : MkM wI w6 W B ab Bm tn cn cv mr xs L m) : ab < W.heap.size := by
  obtain ⟨_, cs, hc⟩ := ownObj h.row ab rfl
  exact (Array.getElem?_eq_some_iff.1 hc).1
theorem MkM.keep {wI w6 W W' : World} {B ab Bm tn cn : Nat} {cv mr : Value} {xs : List Value} {L m : List Ac} (h : MkM wI w6 W B ab Bm tn cn cv mr xs L m) (hB : B ≤ ab) (k : Fr nothing W W') : MkM wI w6 W' B ab Bm tn cn cv mr xs L m :=
  ⟨own_fr h.cl k fun _ _ => id, own_fr h.row k fun _ _ => id, h.fr.trans k.wide, h.bel.trans (k.below (by have := h.size; omega) fun _ e => e.elim), own_fr h.may k fun _ _ => id⟩
theorem MkM.store {wI w6 W : World} {B ab Bm tn cn : Nat} {cv mr : Value} {xs : List Value} {L m : List Ac} (h : MkM wI w6 W B ab Bm tn cn cv mr xs L m) (hI : wI.heap.size = ab) (hB : B ≤ ab) (hm : ab < Bm) (hL : L.length = tn) (t : Nat) (x : Ac) :
    MkM wI w6 ((W.setCell ⟨ab, t * 2, none⟩ (.int .u8 x.kind)).setCell ⟨ab, t * 2 + 1, none⟩ (.int .i64 x.dst)) B ab Bm tn cn cv mr xs (L.set t x) m := by
  have hF : Fr (only ab) W ((W.setCell ⟨ab, t * 2, none⟩ (.int .u8 x.kind)).setCell ⟨ab, t * 2 + 1, none⟩ (.int .i64 x.dst)) := (Fr.setCell W ⟨ab, t * 2, none⟩ _).trans (Fr.setCell _ ⟨ab, t * 2 + 1, none⟩ _)
  obtain ⟨_, cs, hc⟩ := ownObj h.row ab rfl
  refine ⟨own_fr h.cl hF fun g hg e => ?_, h.row.store hL x, ?_, h.bel.trans (hF.below (by have := h.size; omega) fun g e => by have e' : g = ab := e; omega), own_fr h.may hF fun g hg e => ?_⟩
  · have e' : g = ab := e
    subst e'
    exact own_ne h.cl hc (by decide) hg
  · exact ((h.fr.mono (ch' := fun b => isClash wI b ∨ b = ab) fun _ _ e => .inl e).trans (hF.mono fun _ _ e => .inr e)).mono fun b hb e => by
      rcases e with e | e
      · exact e
      · omega
  · have e' : g = ab := e
    have := (ownObj h.may g hg).1
    omega
theorem MkM.clash {wI w6 W W' : World} {B ab Bm tn cn cn' : Nat} {cv cv' mr : Value} {xs xs' : List Value} {L m : List Ac} (h : MkM wI w6 W B ab Bm tn cn cv mr xs L m) (hB : B ≤ ab) (hown : W'.ownsRow B 129 8 cv' cn' xs') (k : Fr (fun b => cv.ownBlock = some b) W W') : MkM wI w6 W' B ab Bm tn cn' cv' mr xs' L m := by
  have off : ∀ {B' e size n : Nat} {u : Value} {xs : List Value}, W.ownsRow B' e size u n xs → e ≠ 129 → W'.ownsRow B' e size u n xs := fun ho he => own_fr ho k fun g hg hc => by
    obtain ⟨_, cs, hcs⟩ := ownObj ho g hg
    exact own_ne h.cl hcs (Ne.symm he) hc
  refine ⟨hown, off h.row (by decide), ?_, h.bel.trans (k.below (by have := h.size; omega) fun g e => (ownObj h.cl g e).1), off h.may (by decide)⟩
  refine ((h.fr.mono (ch' := fun b => isClash wI b ∨ cv.ownBlock = some b) fun _ _ e => .inl e).trans (k.mono fun _ _ e => .inr e)).mono fun b hb e => ?_
  rcases e with e | e
  · exact e
  · refine Classical.byContradiction fun hn => ?_
    obtain ⟨_, cs, hc⟩ := ownObj h.cl b e
    rw [h.fr.block b hb hn] at hc
    exact hn ⟨cs, _, hc⟩
theorem items_i64 {w : World} {v : Value} {l : List It} (h : IsItems w v l) : ∀ x ∈ l, i64 x.1 ∧ i64 x.2 := fun x hx => by
  obtain ⟨a, c, rfl, -, -, -⟩ := id h.parts
  obtain ⟨i, hi, rfl⟩ := List.getElem_of_mem hx
  obtain ⟨_, _, -, -, -, h1, h2⟩ := h.at hi
  exact ⟨h1, h2⟩
theorem preT_ok {G : Gram} {ks : List (List It)} {gs : List (List (Int × Int))} {l : List Ah} (hE : ∀ j, ∀ x ∈ gs.getD j [], i64 x.2) (hl : ∀ a ∈ l, i64 a.2.1) (hn : G.terms.toNat ≤ 1000 ∧ G.syms.length ≤ 1000) (a g : Nat) :
    (∀ r ∈ (preT G ks gs l a g).acts, r.length ≤ 1000000 ∧ ∀ x ∈ r, (0 ≤ x.kind ∧ x.kind < 256) ∧ i64 x.dst) ∧ (∀ r ∈ (preT G ks gs l a g).gotos, r.length ≤ 1000000 ∧ ∀ x ∈ r, -9223372036854775808 ≤ x ∧ x ≤ 9223372036854775807) := by
  refine ⟨fun r hr => ?_, fun r hr => ?_⟩
  · obtain ⟨i, _, rfl⟩ := List.mem_map.1 hr
    refine ⟨by simp [actRow]; omega, fun x hx => ?_⟩
    obtain ⟨t, _, rfl⟩ := List.mem_map.1 hx
    exact actOf_ok (mayL_ok (hE i) hl)
  · obtain ⟨i, _, rfl⟩ := List.mem_map.1 hr
    refine ⟨by simp [gotoRow]; omega, fun x hx => ?_⟩
    obtain ⟨t, _, rfl⟩ := List.mem_map.1 hx
    exact toE_i64 (by unfold i64; omega) (hE i)

theorem own_other {w w' : World} {B B' e e' size size' n n' : Nat} {u v : Value} {xs xs' : List Value} (hv : w.ownsRow B e size v n xs) (k : Fr (fun b => v.ownBlock = some b) w w') (ho : w.ownsRow B' e' size' u n' xs') (he : e' ≠ e) : w'.ownsRow B' e' size' u n' xs' := own_fr ho k fun g hg hc => by
  obtain ⟨_, cs, hcs⟩ := ownObj ho g hg
  exact own_ne hv hcs (Ne.symm he) hc
theorem own_struct {w : World} {B' e' size' n' b i : Nat} {e : TypeId} {cs : Array Value} {f : Nat × Nat} {u v : Value} {xs' : List Value} (hb : w.heap[b]? = some (.cells cs e f)) (ho : w.ownsRow B' e' size' u n' xs') (he : e' ≠ e) : (w.setCell ⟨b, i, none⟩ v).ownsRow B' e' size' u n' xs' := own_fr ho (Fr.setCell w ⟨b, i, none⟩ v) fun g hg hc => by
  have e' : g = b := hc
  subst e'
  exact own_ne ho hb he hg
theorem range_succ_map {α : Type} (n : Nat) (f : Nat → α) : (List.range (n + 1)).map f = (List.range n).map f ++ [f n] := by rw [List.range_succ, List.map_append]; rfl
theorem preT_succ (G : Gram) (ks : List (List It)) (gs : List (List (Int × Int))) (l : List Ah) (i : Nat) (hik : i < ks.length) (hig : i < gs.length) :
    preT G ks gs l (i + 1) (i + 1) = ⟨(preT G ks gs l i i).acts ++ [actRow G ks[i] gs[i] i l], (preT G ks gs l i i).gotos ++ [gotoRow G gs[i]]⟩ := by
  unfold preT
  rw [range_succ_map, range_succ_map, List.getD_eq_getElem?_getD, List.getElem?_eq_getElem hik, List.getD_eq_getElem?_getD, List.getElem?_eq_getElem hig]
  rfl
set_option maxRecDepth 100000 in
set_option maxHeartbeats 16000000 in
theorem make23_any (G : Gram) (v : Value) (sta la : Option Addr) (n stc ln lc : Nat) (ks : List (List It)) (gs : List (List (Int × Int))) (l : List Ah) (w : World) (h : IsGram w v G) (hr : rightG G = true) (hc : colI G = some (ks, gs)) (hst : IsStates w (.slice sta n stc) (ks.zip gs)) (hn : ks.length = n)
    (hl : IsAheads w (.slice la ln lc) l) (hg : AhGood n G.prods.length G.terms.toNat l) (hll : l.length = ln) (hln : ln ≤ 40000) :
    Calls Try.prog 29 #[v, .slice sta n stc, .slice la ln lc] w fun e w' => ∃ tv cv, e = .returned (.tuple #[tv, cv, .int .i64 0]) ∧ IsTbl w' tv (makeT G ks gs l n) ∧ (∀ (ch : Nat → Prop) (w2 : World), Fr ch w' w2 → (∀ b, w.heap.size + 2 ≤ b → ¬ ch b) → IsTbl w2 tv (makeT G ks gs l n)) ∧ Below w.heap.size w w' := by
  have hG := h
  obtain ⟨hterms, vs, vp, rfl, hs, hp⟩ := h
  obtain ⟨-, sa, sc, rfl, -, -, -⟩ := id hs
  obtain ⟨-, pa, pc, rfl, -, -, -⟩ := id hp
  have hS0 : Stands w.heap.size w G sa pa sc pc (w.alloc (grO G sa pa sc pc)) := ⟨alloc_obj _ _, hG.fr (Fr.alloc _ _), (Below.refl _ w).alloc (Nat.le_refl _) _⟩
  have HS0 := Lib.hid hS0
  have hn1 := (rightG_parts hr).1
  obtain ⟨tn, htn⟩ : ∃ tn : Nat, G.terms = (tn : Int) := ⟨G.terms.toNat, by omega⟩
  have htn' : G.terms.toNat = tn := by omega
  have hok := colI_ok hc
  have hkok := colI_kok hr hc
  have hgl : gs.length = n := by rw [hok.len, hn]
  have hnle : n ≤ 256 := by rw [← hn]; exact hok.le
  have hE64 : ∀ j, ∀ x ∈ gs.getD j [], i64 x.2 := fun j x hx => by
    by_cases hj : j < gs.length
    · have hjk : j < ks.length := by omega
      obtain ⟨sb, so, ka, kc, ga, gc, -, -, hg0, -, -⟩ := hst.get hjk hj
      rw [List.getD_eq_getElem?_getD, List.getElem?_eq_getElem hj] at hx
      exact (items_i64 hg0 x hx).2
    · rw [List.getD_eq_getElem?_getD, List.getElem?_eq_none (by omega)] at hx
      cases hx
  have hP64 : ∀ a ∈ l, i64 a.2.1 := fun a ha => by
    have := hg.prod a ha
    unfold i64
    omega
  have HPT := Lib.hid (preT_ok (G := G) (ks := ks) hE64 hP64 (by omega))
  clear hE64 hP64
  have HKL := Lib.hid (fun j (hj : j < ks.length) => show ks[j].length ≤ 40000 by have := (hkok j hj).1; omega)
  have HGL := Lib.hid (And.intro hgl hn)
  have HG := Lib.hid (And.intro hG (And.intro hst hl))
  have HR := Lib.hid hr
  have HTN := Lib.hid (And.intro htn htn')
  have HCOL := Lib.hid hc
  have HGD := Lib.hid hg
  have HLL := Lib.hid hll
  have htn1 : tn ≤ 64 := by omega
  have htn0 : 0 < tn := by omega
  have hnl1 : G.syms.length ≤ 128 := by omega
  have htnl : tn < G.syms.length := by omega
  obtain ⟨i0, hi, hz0, hz1, hz2⟩ := info_parts Try.infoActR
  obtain ⟨j0, hj, hy0, hy1, hy2⟩ := info_parts Try.infoActs
  obtain ⟨k0, hk, hx0, hx1, hx2⟩ := info_parts Try.infoIntsR
  obtain ⟨c0, hcl, hv0, hv1, hv2⟩ := info_parts Try.infoClash
  obtain ⟨i1, hi1, hu0, hu1, hu2⟩ := info_parts Try.infoInt'
  clear hG hst hl hr htn htn' hok hkok hgl hc hg hll hn hS0 hs hp hn1
  go_enter Try.func29, Try.ntmps29
  go_upto_region 1 with fail
  have hka := Fr.alloc (ch := nothing) (w.alloc (grO G sa pa sc pc)) (Obj.cells #[.slice none 0 0, .slice none 0 0] 29 (0, 0))
  have hro := alloc_obj (w.alloc (grO G sa pa sc pc)) (Obj.cells #[.slice none 0 0, .slice none 0 0] 29 (0, 0))
  have hsz1 : (w.alloc (grO G sa pa sc pc)).heap.size = w.heap.size + 1 := by simp
  rw [hsz1] at hro
  have HS1 := Lib.hid (HS0.out.keep hka.below_new)
  have HRO := Lib.hid hro
  clear hka hro hsz1 HS0
  unfold grO at HS1 HRO
  generalize (w.alloc (Obj.cells #[.int .i64 G.terms, .slice sa G.syms.length sc, .slice pa G.prods.length pc] 25 (0, 0))).alloc (Obj.cells #[.slice none 0 0, .slice none 0 0] 29 (0, 0)) = W1 at *
  have d0 := HS1.out.d0
  have d1 := HS1.out.d1
  have d2 := HS1.out.d2
  have HCO := Lib.hid (col19_good HR.out HCOL.out _ W1 HS1.out.gram)
  unfold grV at HCO
  rw [HGL.out.2] at HCO
  go_upto_region 2 with (go_at_call 27; refine HCO.out.mono ?_; rintro e w3 ⟨ca, cc, rfl, hst3, hb3⟩)
  have hS3 := HS1.out.keep hb3
  have HS3 := Lib.hid (And.intro hS3 ((Fr.new hb3).obj HRO.out id))
  have HSS := Lib.hid (sameStates_any _ _ _ _ w3 (HG.out.2.1.fr (Fr.new hS3.below)) hst3)
  clear d0 d1 d2 HCO HS1 HRO hb3 hS3 hst3
  rw [decide_eq_true rfl] at HSS
  go_upto_region 4 with (go_at_call 52; refine HSS.out.mono ?_; rintro e w4 ⟨rfl, hb4⟩)
  have hS4 := HS3.out.1.keep hb4
  have HS4 := Lib.hid (And.intro hS4 ((Fr.new hb4).obj HS3.out.2 id))
  have HAH := Lib.hid (aheads23_any G _ _ l n w4 hS4.gram (HG.out.2.2.fr (Fr.new hS4.below)) HGD.out (by rw [HTN.out.1]; omega))
  unfold grV at HAH
  have d0 := hS4.d0
  have d1 := hS4.d1
  have d2 := hS4.d2
  clear HSS HS3 hb4 hS4
  go_upto_region 7 with (go_at_call 58; refine HAH.out.mono ?_; rintro e w5 ⟨rfl, hb5⟩)
  have hS5 := HS4.out.1.keep hb5
  have hro5 := (Fr.new hb5).obj HS4.out.2 id
  have hka := Fr.alloc (ch := nothing) w5 (Obj.cells #[.slice none 0 0, .slice none 0 0] 29 (0, 0))
  have hto := alloc_obj w5 (Obj.cells #[.slice none 0 0, .slice none 0 0] 29 (0, 0))
  have hT0 : TblM _ w5.heap.size w5.heap.size (.slice none 0 0) (.slice none 0 0) [] [] ⟨[], []⟩ := ⟨hto, World.ownsRow_nil _ _ _ _, World.ownsRow_nil _ _ _ _, rfl, rfl, fun _ h => by simp at h, fun _ h => by simp at h⟩
  have hS6 := hS5.keep hka.below_new
  have hro6 := hka.obj hro5 id
  have hrl : w.heap.size + 1 < w5.heap.size := (Array.getElem?_eq_some_iff.1 hro5).1
  have H6 := Lib.hid (And.intro hS6 (And.intro hro6 (And.intro hT0 hka.size)))
  clear d0 d1 d2 HAH HS4 hb5 hS5 hro5 hka hto hT0 hS6 hro6
  generalize hB : w5.heap.size = B at *
  generalize w5.alloc (Obj.cells #[.slice none 0 0, .slice none 0 0] 29 (0, 0)) = w6 at *
  clear hB
  go_wp2
  go_loopw [12, 13, 14, 15, 16, 17, 18, 19, 20, 21, 22] (fun cv iv _ _ _ _ _ _ _ _ _ wr => ∃ (i cn : Nat) (av gv : Value) (aL gL xs : List Value), i ≤ n ∧ iv = .int .i64 (i : Int) ∧ aL.length = i ∧ gL.length = i ∧ cn ≤ i * (tn * 90000) ∧ TblM wr B B av gv aL gL (preT G ks gs l i i) ∧ wr.ownsRow B 129 8 cv cn xs ∧ Below B w6 wr) (fun _ iv _ _ _ _ _ _ _ _ _ _ => n - (intOf iv).toNat)
  case atStart => exact ⟨0, 0, _, _, [], [], [], Nat.zero_le _, rfl, rfl, rfl, Nat.zero_le _, H6.out.2.2.1, World.ownsRow_nil _ _ _ _, Below.refl _ _⟩
  case round =>
    obtain ⟨i, cn, av, gv, aL, gL, xs, hin, rfl, hal, hgl, hcn, hT, hown, hbel⟩ := hrel
    have hS := H6.out.1.wide HG.out.1 (Fr.of_below hbel) fun g e => by have e' : B ≤ g := e; omega
    have d0 := hS.d0
    have d1 := hS.d1
    rw [HTN.out.1] at d0
    by_cases hlt : i < n
    ·
      -- <X>
      have hik : i < ks.length := by rw [HGL.out.2]; exact hlt
      have hig : i < gs.length := by rw [HGL.out.1]; exact hlt
      obtain ⟨sb, so, ka, kc, ga, gc, rfl, hk0, hg0, s0, s1⟩ := HG.out.2.1.get hik hig
      have s0 := (Fr.new hS.below).cell s0 id
      have s1 := (Fr.new hS.below).cell s1 id
      have hBr : B ≤ wr.heap.size := by have h1 := (Array.getElem?_eq_some_iff.1 hT.obj).1; omega
      have HI := Lib.hid (And.intro hT (And.intro hown (And.intro hbel (And.intro hS hBr))))
      have HKG := Lib.hid (And.intro hk0 hg0)
      clear hT hbel hS hk0 hg0
      go_upto_region 12 with (at_make; refine wpList_make_full _ rfl _ _ 52 rfl wr.heap.size 81 i0 (.agg #[.int .u8 0, .int .i64 0]) 2 Try.underlying52 hi hz0 hz1 .i64 .i64 _ _ tn rfl rfl rfl rfl (by rw [hz2]; omega) (by unfold maxLen; omega) (Nat.le_refl _) ?_; intro W hownA hgrow)
      have hA := made_acs hownA
      have kW : Fr nothing wr W := (Fr.grown hgrow).mono fun _ _ e => by cases e
      obtain ⟨ab, habe⟩ : ∃ ab, wr.heap.size = ab := ⟨_, rfl⟩
      rw [habe] at hA ⊢
      have hkc : Fr (isClash wr) wr W := kW.wide
      have HA := Lib.hid (And.intro hA (And.intro hkc habe))
      have hownW := own_fr hown kW fun _ _ => id
      have HBW := Lib.hid (HI.out.2.2.1.trans (kW.below HI.out.2.2.2.2 fun _ e => e.elim))
      clear hownA hgrow hA kW hkc s0 s1 d0 d1
      generalize hmw : wr = wI at *
      clear hmw
      have hf : ∃ f : Nat → Ac, f = fun term => actOf G term (mayL ks[i] gs[i] i term l) := ⟨_, rfl⟩
      obtain ⟨f, hf⟩ := hf
      have HF := Lib.hid hf
      clear hf
      go_wp2
      go_loopw [12, 15, 16, 17, 18, 19] (fun cv tv _ _ _ _ wr => ∃ (t cn2 : Nat) (xs2 : List Value), t ≤ tn ∧ tv = .int .i64 (t : Int) ∧ cn2 ≤ cn + t * 90000 ∧ wr.ownsRow B 129 8 cv cn2 xs2 ∧ OwnAc wr ab (.slice (some ⟨ab, 0, none⟩) tn tn) (rowTo tn t f) ∧ Fr (isClash wI) wI wr ∧ Below B w6 wr) (fun _ tv _ _ _ _ _ => tn - (intOf tv).toNat)
      case atStart => exact ⟨0, cn, xs, Nat.zero_le _, rfl, by omega, hownW, by rw [rowTo_zero]; exact HA.out.1, HA.out.2.1, HBW.out⟩
      case round =>
        obtain ⟨t, cn2, xs2, htn2, rfl, hcn2, hown2, hrow, hkI, hbel⟩ := hrel
        have hS := H6.out.1.wide HG.out.1 (Fr.of_below hbel) fun g e => by have e' : B ≤ g := e; omega
        have d0 := hS.d0
        have d1 := hS.d1
        have d2 := hS.d2
        rw [HTN.out.1] at d0
        by_cases hltt : t < tn
        ·
          -- <Q>
          have hbw := Fr.new hS.below
          obtain ⟨sb', so', ka', kc', ga', gc', e, hk0, hg0, s0, s1⟩ := HG.out.2.1.get hik hig
          simp only [Option.some.injEq, Addr.mk.injEq, and_true] at e
          obtain ⟨rfl, rfl⟩ := e
          have s0 := hbw.cell s0 id
          have s1 := hbw.cell s1 id
          have hlnl : l.length ≤ 1000000 := by rw [HLL.out]; omega
          have hkl := HKL.out i hik
          have HMY := Lib.hid (may23_any _ _ _ ks[i] gs[i] l i t wr (hk0.fr hbw) (hg0.fr hbw) (HG.out.2.2.fr hbw) (by omega) hlnl)
          have hml := mayL_len ks[i] gs[i] i t l
          have hft : f t = actOf G t (mayL ks[i] gs[i] i t l) := by rw [HF.out]
          rw [HLL.out] at hml
          have HX := Lib.hid (And.intro hown2 (And.intro hrow (And.intro hkI (And.intro hbel (And.intro hS hft)))))
          have habw : ab < wr.heap.size := by
            obtain ⟨_, cs, hc⟩ := ownObj hrow ab rfl
            exact (Array.getElem?_eq_some_iff.1 hc).1
          clear hown2 hrow hkI hbel hS hft hbw hk0 hg0
          generalize mayL ks[i] gs[i] i t l = m at *
          generalize ks[i].length = kl at *
          generalize gs[i].length = gl at *
          go_upto_region 16 with (go_at_call 59; refine HMY.out.mono ?_; rintro e w7 ⟨mr, rfl, hm, hb7⟩)
          obtain ⟨ma, mc, rfl, -, -, -⟩ := own_as_cells2 hm
          have k7 := Fr.new hb7
          have hrowB : ∀ {W : World}, Fr nothing wr W → OwnAc W ab (.slice (some ⟨ab, 0, none⟩) tn tn) ((rowTo tn t f).set t ⟨0, 0⟩) := fun k' => by rw [rowTo_same hltt]; exact own_fr HX.out.2.1 k' fun _ _ => id
          have H7 := Lib.hid (And.intro (own_fr HX.out.1 k7 fun _ _ => id) (And.intro (hrowB k7) (And.intro (HX.out.2.2.1.trans k7.wide) (And.intro (HX.out.2.2.2.1.trans (k7.below (by have := HI.out.2.2.2.2; omega) fun _ e => e.elim)) hm))))
          have hw7 : wr.heap.size ≤ w7.heap.size := hb7.size
          clear hm hb7 k7 hrowB HMY s0 s1 d0 d1 d2
          obtain ⟨mn, hmn⟩ : ∃ mn, m.length = mn := ⟨_, rfl⟩
          rw [hmn] at hml ⊢
          have HMN := Lib.hid hmn
          clear hmn
          generalize hBm : wr.heap.size = Bm at *
          clear hBm
          go_wp2
          go_loopw [12, 17, 18, 19] (fun cv kv _ _ wr => ∃ (k cn3 : Nat) (xs3 : List Value) (cur : Ac), k ≤ mn ∧ kv = .int .i64 (k : Int) ∧ cn3 ≤ cn2 + k ∧ goAt G t m k cur ∧ MkM wI w6 wr B ab Bm tn cn3 cv (.slice ma mn mc) xs3 ((rowTo tn t f).set t cur) m) (fun _ kv _ _ _ => mn - (intOf kv).toNat)
          case atStart => exact ⟨0, cn2, xs2, ⟨0, 0⟩, Nat.zero_le _, rfl, by omega, goAt_zero, H7.out.1, H7.out.2.1, H7.out.2.2.1, H7.out.2.2.2.1, by have := H7.out.2.2.2.2; rw [← HMN.out]; exact this⟩
          case round =>
            obtain ⟨k, cn3, xs3, cur, hkn, rfl, hcn3, hgo, hM⟩ := hrel
            have hS := H6.out.1.wide HG.out.1 (Fr.of_below hM.bel) fun g e => by have e' : B ≤ g := e; omega
            have d0 := hS.d0
            have d1 := hS.d1
            have d2 := hS.d2
            rw [HTN.out.1] at d0
            by_cases hltk : k < mn
            · have hkm : k < m.length := by rw [HMN.out]; exact hltk
              obtain ⟨mb, rfl⟩ : ∃ mb, ma = some ⟨mb, 0, none⟩ := by
                obtain ⟨a', c', e, -, -, h3⟩ := own_as_cells2 hM.may
                simp only [Value.slice.injEq] at e
                obtain ⟨rfl, -, rfl⟩ := e
                rcases h3 with h3 | ⟨mb, e, -, -⟩
                · have := ac_len m
                  rw [h3] at this
                  simp at this
                  omega
                · exact ⟨mb, e⟩
              obtain ⟨q0, q1⟩ := hM.may.cell k hkm
              have hrl : ((rowTo tn t f).set t cur).length = tn := by rw [List.length_set, rowTo_len]
              obtain ⟨p0, p1⟩ := hM.row.cell t (by rw [hrl]; exact hltt)
              rw [List.getElem_set_self] at p0 p1
              have z0 := hM.row.frozen (t * 2)
              have z1 := hM.row.frozen (t * 2 + 1)
              rcases Nat.eq_zero_or_pos k with h0 | h0
              · -- <P>
                subst h0
                have hm0 := goAt_one (G := G) (t := t) hkm
                have hst := fun x => hM.store HA.out.2.2 (by have := HI.out.2.2.2.2; have := HA.out.2.2; omega) (by omega) hrl t x
                simp only [List.set_set] at hst
                have HST := Lib.hid (And.intro (hst m[0]) hm0)
                clear hst hm0 hM hS hgo
                generalize m[0] = x0 at *
                go_wp2
                go_roundw
                case rel => exact ⟨0 + 1, cn3, xs3, x0, by omega, by simp, by omega, HST.out.2, HST.out.1⟩
                case measure => simp [intOf]; omega
                -- </P>
              · have hk0 : k ≠ 0 := by omega
                have hk0' : ((k : Int) == 0) = false := beq_eq_false_iff_ne.2 (by omega)
                have hnx := goAt_next hkm hk0 hgo
                have HPK := Lib.hid fun p : After wr => after_call p (pick22_any G (t : Int) (entA cur) (entA m[k]) (grV G sa pa sc pc) p.w (hS.gram.fr (Fr.new p.ok)))
                unfold grV entVal entA at HPK
                rw [HTN.out.1] at HPK
                have hne := after_ne wr
                have e0 := after_cell d0
                have e1 := after_cell d1
                have e2 := after_cell d2
                have g0 := after_cell q0
                have g1 := after_cell q1
                have r0 := after_cell p0
                have r1 := after_cell p1
                have HM := Lib.hid (And.intro hM (And.intro hnx hrl))
                clear hM hS hnx hgo hrl
                unfold entA at HM
                generalize pickE G (t : Int) ⟨cur.kind, cur.dst⟩ ⟨m[k].kind, m[k].dst⟩ = R at *
                generalize hxk : m[k] = x at *
                have HXK := Lib.hid hxk
                clear hxk
                go_upto_region 21 with fail
                refine wp_region_after wr (by kernel_rfl) (by kernel_rfl) (Below.refl _ _) ?_
                repeat (go_big_quiet_step (exact HPK.out _))
                refine wpQuiet_nil ?_
                intro _ hw'
                obtain ⟨pw, hw''⟩ := hw'
                subst hw''
                have hBab : B ≤ ab := by have := HI.out.2.2.2.2; have := HA.out.2.2; omega
                have kp := Fr.new pw.ok
                have hM8 := HM.out.1.keep hBab kp
                have q0 := kp.cell q0 id
                have q1 := kp.cell q1 id
                have p0 := kp.cell p0 id
                have p1 := kp.cell p1 id
                clear HPK hne e0 e1 e2 g0 g1 r0 r1 kp d0 d1 d2
                generalize pw.w = w8 at *
                clear pw
                obtain ⟨R1, R2⟩ := R
                simp only at HM ⊢
                obtain ⟨za, zc, rfl, -, -, -⟩ := own_as_cells2 hM8.cl
                have hcnB : cn ≤ 256 * (64 * 90000) := Nat.le_trans hcn (Nat.mul_le_mul (by omega) (Nat.mul_le_mul_right _ htn1))
                have hM9 := hM8.keep hBab (Fr.drew w8)
                have q09 := (Fr.drew (ch := nothing) w8).cell q0 id
                have q19 := (Fr.drew (ch := nothing) w8).cell q1 id
                have p09 := (Fr.drew (ch := nothing) w8).cell p0 id
                have p19 := (Fr.drew (ch := nothing) w8).cell p1 id
                go_upto_region 22 with fail
                refine wp_region_lead (s := 12) 14 (by kernel_rfl) rfl rfl (by kernel_rfl) (by decide) (by kernel_rfl) (by kernel_rfl) (by kernel_rfl) (fun _ _ _ _ h => h) ?_
                simp only [addLead, List.modify_succ_cons, List.modify_zero_cons, List.take_succ_cons, List.take_zero, List.drop_succ_cons, List.drop_zero]
                repeat still_step
                try refine wpStill_nil ?_
                change wpList _ _ _ _ _ w8.drew
                generalize w8.drew = W9 at *
                have hown2 := hM9.cl.alloc (Obj.cells #[.int .i64 (i : Int), .int .i64 (t : Int), .int .u8 cur.kind, .int .i64 cur.dst, .int .u8 x.kind, .int .i64 x.dst, .int .i64 R1, .bool R2] 129 (0, 0))
                have hna := news_any (l := [.int .i64 (i : Int), .int .i64 (t : Int), .int .u8 cur.kind, .int .i64 cur.dst, .int .u8 x.kind, .int .i64 x.dst, .int .i64 R1, .bool R2]) (alloc_obj W9 (Obj.cells #[.int .i64 (i : Int), .int .i64 (t : Int), .int .u8 cur.kind, .int .i64 cur.dst, .int .u8 x.kind, .int .i64 x.dst, .int .i64 R1, .bool R2] 129 (0, 0)))
                have hBa : B ≤ (W9.alloc (Obj.cells #[.int .i64 (i : Int), .int .i64 (t : Int), .int .u8 cur.kind, .int .i64 cur.dst, .int .u8 x.kind, .int .i64 x.dst, .int .i64 R1, .bool R2] 129 (0, 0))).heap.size := by have := hM9.size; simp; omega
                have H9 := Lib.hid (And.intro hM9 (And.intro q09 (And.intro q19 (And.intro p09 p19))))
                clear hM9 hM8 q0 q1 p0 p1 q09 q19 p09 p19
                go_upto_region 23 with (at_builtin; refine wpList_append_lies _ rfl _ _ 71 rfl B 129 c0 _ 8 64 Try.underlying71 hcl hv0 hv1 hv2 rfl (by decide) (.slice za cn3 zc) _ _ rfl hown2 ⟨W9.heap.size, 0, none⟩ 1 1 [.int .i64 (i : Int), .int .i64 (t : Int), .int .u8 cur.kind, .int .i64 cur.dst, .int .u8 x.kind, .int .i64 x.dst, .int .i64 R1, .bool R2] rfl rfl hna (by simp [Value.oneCell']) (by omega) (by unfold maxLen; omega) (by omega) hBa _ rfl ?_
                                        intro g cap w4 hown4 hgrow4 hat4 hlt4)
                have k4 : Fr (fun b => (Value.slice za cn3 zc).ownBlock = some b) W9 w4 := (Fr.alloc _ _).trans (Fr.grown hgrow4)
                have hM4 := H9.out.1.clash hBab hown4 k4
                have q := hM4.may.cell k hkm
                rw [HXK.out] at q
                obtain ⟨q0, q1⟩ := q
                obtain ⟨p0, p1⟩ := hM4.row.cell t (by rw [HM.out.2.2]; exact hltt)
                rw [List.getElem_set_self] at p0 p1
                have z0 := hM4.row.frozen (t * 2)
                have z1 := hM4.row.frozen (t * 2 + 1)
                have hst := fun x => hM4.store HA.out.2.2 hBab (by omega) HM.out.2.2 t x
                simp only [List.set_set] at hst
                have H4 := Lib.hid (And.intro hM4 hst)
                clear hM4 hst k4 hown4 hgrow4 hat4 hlt4 hown2 hna hBa H9
                by_cases hR1 : R1 = 1
                · subst hR1
                  have hg := HM.out.2.1.2.1 rfl
                  have HE := Lib.hid (And.intro hg (H4.out.2 x))
                  clear hg
                  go_wp2
                  go_roundw
                  case rel => exact ⟨k + 1, cn3 + 1, _, x, by omega, by simp, by omega, HE.out.1, HE.out.2⟩
                  case measure => simp [intOf]; omega
                · have hb1 : (R1 == 1) = false := beq_eq_false_iff_ne.2 hR1
                  by_cases hR2 : R1 = 2
                  · subst hR2
                    have hz := HM.out.2.1.1 rfl
                    have hr1 := rowTo_set hltt f
                    have h0 := H4.out.2 ⟨0, 0⟩
                    rw [HX.out.2.2.2.2.2, hz] at hr1
                    rw [hr1] at h0
                    have HE := Lib.hid h0
                    clear hz hr1 h0
                    go_wp2
                    go_roundw
                    case rel => exact ⟨t + 1, cn3 + 1, _, by omega, by simp, by rw [Nat.succ_mul]; omega, HE.out.cl, HE.out.row, HE.out.fr, HE.out.bel⟩
                    case measure => simp [intOf]; omega
                  · have hb2 : (R1 == 2) = false := beq_eq_false_iff_ne.2 hR2
                    have hg := HM.out.2.1.2.2 hR2 hR1
                    have HE := Lib.hid (And.intro hg H4.out.1)
                    clear hg
                    go_wp2
                    go_roundw
                    case rel => exact ⟨k + 1, cn3 + 1, _, cur, by omega, by simp, by omega, HE.out.1, HE.out.2⟩
                    case measure => simp [intOf]; omega
            · obtain rfl : k = mn := by omega
              have hcur : cur = f t := by
                rw [HX.out.2.2.2.2.2]
                rw [← HMN.out] at hgo
                exact goAt_end hgo
              have hr1 := rowTo_set hltt f
              rw [← hcur] at hr1
              have HE := Lib.hid (And.intro hM hr1)
              clear hM hr1 hgo hS
              go_wp2
              go_roundw
              case rel => exact ⟨t + 1, cn3, xs3, by omega, by simp, by rw [Nat.succ_mul]; omega, HE.out.1.cl, by rw [← HE.out.2]; exact HE.out.1.row, HE.out.1.fr, HE.out.1.bel⟩
              case measure => simp [intOf]; omega
          -- </Q>
        · obtain rfl : tn = t := by omega
          have hTa := HI.out.1.fr hkI
          obtain ⟨aa, ac, hae, -, -, -⟩ := own_as_cells hTa.oa
          obtain ⟨ga2, gc2, hge, -, -, -⟩ := own_as_cells hTa.og
          rw [hal] at hae
          rw [hgl] at hge
          subst hae
          subst hge
          have hbw := Fr.new hS.below
          obtain ⟨sb', so', ka', kc', ga', gc', e, hk0, hg0, s0, s1⟩ := HG.out.2.1.get hik hig
          simp only [Option.some.injEq, Addr.mk.injEq, and_true] at e
          obtain ⟨rfl, rfl⟩ := e
          have s0 := hbw.cell s0 id
          have s1 := hbw.cell s1 id
          have HG0 := Lib.hid (hg0.fr hbw)
          rw [rowTo_all] at hrow
          have HJ := Lib.hid (And.intro hTa (And.intro hown2 (And.intro hrow (And.intro hbel hS))))
          have hBJ : B ≤ wr.heap.size := by have h1 := (Array.getElem?_eq_some_iff.1 hTa.obj).1; omega
          clear hTa hown2 hrow hkI hbel hS hk0 hg0 hbw
          generalize hwj : wr = wJ at *
          clear hwj
          go_upto_region 29 with fail
          go_loopw [20, 21, 22] (fun gv4 sv _ wr => ∃ s j : Nat, s = tn + j ∧ s ≤ G.syms.length ∧ sv = .int .i64 (s : Int) ∧ wr.ownsRow wJ.heap.size 3 1 gv4 j (((List.range j).map fun q => toE (-1) ((tn + q : Nat) : Int) gs[i]).map (Value.int .i64)) ∧ Below wJ.heap.size wJ wr) (fun _ sv _ _ => G.syms.length - (intOf sv).toNat)
          case atStart => exact ⟨tn, 0, rfl, by omega, rfl, World.ownsRow_nil _ _ _ _, Below.refl _ _⟩
          case round =>
            obtain ⟨s, j, hsj, hsn, rfl, hownj, hbj⟩ := hrel
            have kj := Fr.new hbj
            have d0 := kj.cell d0 id
            have d1 := kj.cell d1 id
            have s0 := kj.cell s0 id
            have s1 := kj.cell s1 id
            by_cases hlt4 : s < G.syms.length
            · have HTO := Lib.hid (to23_any (.slice ka' ks[i].length kc') (.slice ga' gs[i].length gc') gs[i] (s : Int) wr (HG0.out.fr kj))
              have hstep := range_succ_map j fun q => toE (-1) ((tn + q : Nat) : Int) gs[i]
              try simp only at hstep
              rw [← hsj] at hstep
              have HX4 := Lib.hid (And.intro hownj (And.intro hbj hstep))
              have hbjs := hbj.size
              have hjb : j < 128 := by omega
              have HSJ := Lib.hid hsj
              clear hownj hbj hstep kj hsj
              generalize toE (-1) (s : Int) gs[i] = z at *
              generalize ks[i].length = kl at *
              generalize gs[i].length = gl at *
              go_upto_region 32 with (go_at_call 61; refine HTO.out.mono ?_; rintro e w7 ⟨rfl, hb7⟩)
              have hownq := own_fr HX4.out.1 (Fr.new hb7) fun _ _ => id
              obtain ⟨qa, qc, rfl, -, -, -⟩ := own_as_cells hownq
              have hown2 := hownq.alloc (Obj.cells #[.int .i64 z] 3 (0, 0))
              have hna := one_news (alloc_obj w7 (Obj.cells #[.int .i64 z] 3 (0, 0)))
              have hw7 := hb7.size
              have hBa : wJ.heap.size ≤ (w7.alloc (Obj.cells #[.int .i64 z] 3 (0, 0))).heap.size := by simp; omega
              have H7 := Lib.hid (And.intro hownq (HX4.out.2.1.trans (hb7.mono hbjs)))
              clear hownq hb7 HTO
              go_wp2_with (at_builtin; refine wpList_append_lies _ rfl _ _ 30 rfl wJ.heap.size 3 i1 _ 1 8 Try.underlying30 hi1 hu0 hu1 hu2 rfl (by decide) (.slice qa j qc) _ _ rfl hown2 ⟨w7.heap.size, 0, none⟩ 1 1 [.int .i64 z] rfl rfl hna (by simp [Value.oneCell']) (by omega) (by unfold maxLen; omega) (by omega) hBa _ rfl ?_
                           intro g cap w4 hown4 hgrow4 hat4 hlt4)
              go_roundw
              case rel =>
                have k4 : Fr (fun b => (Value.slice qa j qc).ownBlock = some b) w7 w4 := (Fr.alloc _ _).trans (Fr.grown hgrow4)
                refine ⟨s + 1, j + 1, by have := HSJ.out; omega, by omega, by simp, ?_, H7.out.2.trans (k4.below (by omega) fun g e => (ownObj H7.out.1 g e).1)⟩
                rw [HX4.out.2.2, List.map_append]
                exact hown4
              case measure => simp [intOf]; omega
            · obtain rfl : s = G.syms.length := by omega
              have kj := Fr.new hbj
              obtain ⟨qa, qc, rfl, -, -, -⟩ := own_as_cells hownj
              have hBJ2 : B ≤ wr.heap.size := Nat.le_trans hBJ hbj.size
              have hT4 := HJ.out.1.keep kj
              have hrow4 : OwnAc wr B (.slice (some ⟨ab, 0, none⟩) tn tn) (actRow G ks[i] gs[i] i l) := by
                have h1 := ownDown (own_fr HJ.out.2.2.1 kj fun _ _ => id) (show B ≤ ab by have := HI.out.2.2.2.2; have := HA.out.2.2; omega)
                unfold actRow
                rw [HTN.out.2]
                rw [HF.out] at h1
                exact h1
              have hgo4 : IntRow wr B (.slice qa j qc) (gotoRow G gs[i]) := by
                have h1 := ownDown hownj hBJ
                have hjn : G.syms.length - tn = j := by omega
                unfold IntRow gotoRow
                rw [HTN.out.2, hjn, List.length_map, List.length_range]
                exact h1
              have hcl4 := own_fr HJ.out.2.1 kj fun _ _ => id
              have hbl4 := HJ.out.2.2.2.1.trans (hbj.mono hBJ)
              have hob := hT4.obj
              have t0 := obj_cell hob 0 (v := .slice aa i ac) rfl
              have f0 := obj_frozen hob 0
              have hown5 := hT4.oa.alloc (Obj.cells #[.slice (some ⟨ab, 0, none⟩) tn tn] 52 (0, 0))
              rw [hal] at hown5
              have hna := one_news (alloc_obj wr (Obj.cells #[.slice (some ⟨ab, 0, none⟩) tn tn] 52 (0, 0)))
              have hBa : B ≤ (wr.alloc (Obj.cells #[.slice (some ⟨ab, 0, none⟩) tn tn] 52 (0, 0))).heap.size := by simp; omega
              have hnB : ¬ (Value.slice aa i ac).ownBlock = some B := fun hc => own_ne hT4.oa hob (by decide) hc
              have H8 := Lib.hid (And.intro hT4 (And.intro hrow4 (And.intro hgo4 (And.intro hcl4 hbl4))))
              have hjb : j ≤ 128 := by omega
              clear hT4 hrow4 hgo4 hcl4 hbl4 hownj hbj kj s0 s1 hsj
              go_upto_region 34 with (at_builtin; refine wpList_append_lies _ rfl _ _ 26 rfl B 52 j0 _ 1 24 Try.underlying26 hj hy0 hy1 hy2 rfl (by decide) (.slice aa i ac) _ _ rfl hown5 ⟨wr.heap.size, 0, none⟩ 1 1 [.slice (some ⟨ab, 0, none⟩) tn tn] rfl rfl hna (by simp [Value.oneCell']) (by omega) (by unfold maxLen; omega) (by omega) hBa _ rfl ?_
                                      intro g cap w4 hown4 hgrow4 hat4 hlt4
                                      have k4 : Fr (fun b => (Value.slice aa i ac).ownBlock = some b) wr w4 := (Fr.alloc _ _).trans (Fr.grown hgrow4)
                                      have ho4 := k4.obj hob hnB
                                      have t4 := obj_cell ho4 0 (v := .slice aa i ac) rfl
                                      have f4 := obj_frozen ho4 0)
              have hTA := H8.out.1.snocA H8.out.2.1 (by rw [hal]; exact hown4) k4
              have hcl5 := own_struct (i := 0) (v := .slice (some ⟨g, 0, none⟩) (i + 1) cap) ho4 (own_other H8.out.1.oa k4 H8.out.2.2.2.1 (by decide)) (by decide)
              have hgo5 : IntRow _ B (.slice qa j qc) (gotoRow G gs[i]) := own_struct (i := 0) (v := .slice (some ⟨g, 0, none⟩) (i + 1) cap) ho4 (own_other H8.out.1.oa k4 H8.out.2.2.1 (by decide)) (by decide)
              have hbl5 := (H8.out.2.2.2.2.trans (k4.below hBJ2 fun b e => (ownObj H8.out.1.oa b e).1)).trans ((Fr.setCell w4 ⟨B, 0, none⟩ (.slice (some ⟨g, 0, none⟩) (i + 1) cap)).below (Nat.le_trans hBJ2 k4.size) fun b e => by have e' : b = B := e; omega)
              have hBJ5 : B ≤ (w4.setCell ⟨B, 0, none⟩ (.slice (some ⟨g, 0, none⟩) (i + 1) cap)).heap.size := by have := k4.size; simp; omega
              clear hown4 hgrow4 hat4 hlt4 k4 ho4 t4 f4 H8 hown5 hna hBa hnB hob t0 f0 hBJ2
              generalize w4.setCell ⟨B, 0, none⟩ (.slice (some ⟨g, 0, none⟩) (i + 1) cap) = w5 at *
              have hob := hTA.obj
              have t1 := obj_cell hob 1 (v := .slice ga2 i gc2) rfl
              have hown5 := hTA.og.alloc (Obj.cells #[.slice qa j qc] 30 (0, 0))
              rw [hgl] at hown5
              have hna := one_news (alloc_obj w5 (Obj.cells #[.slice qa j qc] 30 (0, 0)))
              have hBa : B ≤ (w5.alloc (Obj.cells #[.slice qa j qc] 30 (0, 0))).heap.size := by simp; omega
              have hnB : ¬ (Value.slice ga2 i gc2).ownBlock = some B := fun hc => own_ne hTA.og hob (by decide) hc
              have H9 := Lib.hid (And.intro hTA (And.intro hcl5 (And.intro hgo5 hbl5)))
              clear hTA hcl5 hgo5 hbl5
              go_wp2_with (at_builtin; refine wpList_append_lies _ rfl _ _ 27 rfl B 30 k0 _ 1 24 Try.underlying27 hk hx0 hx1 hx2 rfl (by decide) (.slice ga2 i gc2) _ _ rfl hown5 ⟨w5.heap.size, 0, none⟩ 1 1 [.slice qa j qc] rfl rfl hna (by simp [Value.oneCell']) (by omega) (by unfold maxLen; omega) (by omega) hBa _ rfl ?_
                           intro g4 cap4 w6' hown6 hgrow6 hat6 hlt6
                           have k6 : Fr (fun b => (Value.slice ga2 i gc2).ownBlock = some b) w5 w6' := (Fr.alloc _ _).trans (Fr.grown hgrow6)
                           have ho6 := k6.obj hob hnB
                           have t6 := obj_cell ho6 1 (v := .slice ga2 i gc2) rfl
                           have f6 := obj_frozen ho6 1)
              go_roundw
              case rel =>
                obtain ⟨hTA, hcl5, hgo5, hbl5⟩ := H9.out
                have hTG := hTA.snocG hgo5 (by rw [hgl]; exact hown6) k6
                have hcl6 := own_struct (i := 1) (v := .slice (some ⟨g4, 0, none⟩) (i + 1) cap4) ho6 (own_other hTA.og k6 hcl5 (by decide)) (by decide)
                have hbl6 := (hbl5.trans (k6.below hBJ5 fun b e => (ownObj hTA.og b e).1)).trans ((Fr.setCell w6' ⟨B, 1, none⟩ (.slice (some ⟨g4, 0, none⟩) (i + 1) cap4)).below (Nat.le_trans hBJ5 k6.size) fun b e => by have e' : b = B := e; omega)
                have q1 : i + 1 ≤ n := by omega
                have q2 : cn2 ≤ (i + 1) * (tn * 90000) := by rw [Nat.succ_mul]; exact Nat.le_trans hcn2 (Nat.add_le_add_right hcn _)
                have q3 : (aL ++ [Value.slice (some ⟨ab, 0, none⟩) tn tn]).length = i + 1 := by rw [List.length_append, hal]; rfl
                have q4 : (gL ++ [Value.slice qa j qc]).length = i + 1 := by rw [List.length_append, hgl]; rfl
                refine ⟨i + 1, cn2, .slice (some ⟨g, 0, none⟩) (i + 1) cap, .slice (some ⟨g4, 0, none⟩) (i + 1) cap4, aL ++ [.slice (some ⟨ab, 0, none⟩) tn tn], gL ++ [.slice qa j qc], xs2, q1, ?_, q3, q4, q2, ?_, hcl6, hbl6⟩
                · simp
                · rw [preT_succ G ks gs l i hik hig]
                  exact hTG
              case measure => simp [intOf]; omega
      -- </X>
    · obtain rfl : i = n := by omega
      have hob := hT.obj
      have t0 := obj_cell hob 0 (v := av) rfl
      have t1 := obj_cell hob 1 (v := gv) rfl
      have hro := (Fr.of_below hbel).obj H6.out.2.1 (fun e => by have e' : B ≤ w.heap.size + 1 := e; omega)
      have f6 : ∀ j, wr.frozen? ⟨w.heap.size + 1, j, none⟩ = false := fun j => obj_frozen hro j
      have r0 := obj_cell hro 0 (v := .slice none 0 0) rfl
      have r1 := obj_cell hro 1 (v := .slice none 0 0) rfl
      have f60 := f6 0
      have f61 := f6 1
      have hbw := hS.below
      obtain ⟨aa, ac, hae, -, -, -⟩ := own_as_cells hT.oa
      obtain ⟨ga, gc, hge, -, -, -⟩ := own_as_cells hT.og
      have HE := Lib.hid (And.intro hT (And.intro hbw (And.intro hae hge)))
      subst hae
      subst hge
      clear hT hown hbel hS hob hbw d0 d1
      go_wp2
      refine at_world (Q := bodyPost _ _ _ _ _) (F := fun W => W.cell? ⟨w.heap.size + 1, 0, none⟩ = some (.slice aa i ac) ∧ W.cell? ⟨w.heap.size + 1, 1, none⟩ = some (.slice ga i gc) ∧ Fr (only (w.heap.size + 1)) wr W) ⟨?_, ?_, ?_⟩ ?_
      · simp [go_sem, r0]
      · simp [go_sem, r1]
      · exact (Fr.setCell wr ⟨w.heap.size + 1, 0, none⟩ _).trans (Fr.setCell _ ⟨w.heap.size + 1, 1, none⟩ _)
      rintro WE ⟨e0, e1, hkE⟩
      refine bodyPost_ret (by simp [results, Try.results29, go_sem, e0, e1]; try rfl) rfl ?_
      obtain ⟨hT, hbw, -, -⟩ := HE.out
      have hlow := hT.low (Nat.le_refl _) hkE fun g h1 h2 => by have h2' : g = w.heap.size + 1 := h2; omega
      have hrd := hlow.reads (HPT.out i i).1 (HPT.out i i).2 ⟨by omega, by omega⟩
      have hkeep : ∀ (ch : Nat → Prop) (w2 : World), Fr ch WE w2 → (∀ b, w.heap.size + 2 ≤ b → ¬ ch b) → IsTbl w2 (.agg #[.slice aa i ac, .slice ga i gc]) (makeT G ks gs l i) := fun ch w2 k hc => by
        have h := (hlow.low (Nat.le_refl _) k fun g hg => hc g (by omega)).reads (HPT.out i i).1 (HPT.out i i).2 ⟨by omega, by omega⟩
        first
          | exact h
          | (rw [hal, hgl] at h; exact h)
      rw [hal, hgl] at hrd
      refine ⟨_, ⟨_, rfl⟩, hrd, hkeep, hbw.trans (hkE.below hbw.size fun g h2 => by have h2' : g = w.heap.size + 1 := h2; omega)⟩
end Go.Proofs.Ytpnihegmhalcfaa
