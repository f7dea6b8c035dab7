/-
  Package run: reduce.
-/
import Derived.Test.YtpnihegmhalcfaaRunG32
import Derived.Test.YtpnihegmhalcfaaRunG16
import Derived.Test.YtpnihegmhalcfaaRunG30
namespace Go.Proofs.Ytpnihegmhalcfaa
open Go.RowKit Go.MapKept Go.ChangeMaps
set_option maxHeartbeats 400000

theorem right_left2 {G : Gram} (h : rightG G = true) (k : Nat) (hk : k < G.prods.length) (h1 : 1 ≤ k) : G.terms < G.prods[k].left ∧ G.prods[k].left < (G.syms.length : Int) := by
  obtain ⟨terms, syms, prods⟩ := G
  have := (rightG_parts h).2.2
  cases prods with
  | nil => simp at hk
  | cons p r =>
    simp only [prodsG, Bool.and_eq_true, List.all_eq_true] at this
    obtain ⟨-, h2⟩ := this
    cases k with
    | zero => omega
    | succ k =>
      have hk' : k < r.length := by simpa using hk
      have h3 := h2 r[k] (List.getElem_mem _)
      simp only [List.getElem_cons_succ]
      generalize r[k] = p at *
      unfold prodG at h3
      simp only [Bool.and_eq_true, Bool.not_eq_true', Bool.or_eq_false_iff, decide_eq_false_iff_not] at h3
      have := h3.1
      omega

/-- What an automaton reads. -/
structure Inp (w : World) (A : AuA) (G : Gram) (T : Tbl) (terms : List Int) : Prop where
  gram : IsGram w (.agg #[.int .i64 G.terms, .slice A.sa G.syms.length A.sc, .slice A.pa G.prods.length A.pc]) G
  acts : Rows' (.slice A.aa T.acts.length A.ac) 1 (ActRow w) T.acts
  gotos : Rows' (.slice A.ga T.gotos.length A.gc) 1 (NumRow w) T.gotos
  terms : Ints w (.slice A.ta terms.length A.tc) terms
theorem Inp.fr {w w' : World} {A : AuA} {G : Gram} {T : Tbl} {terms : List Int} (h : Inp w A G T terms) (k : Fr nothing w w') : Inp w' A G T terms := ⟨h.gram.fr k, actRows_fr h.acts k, numRows_fr h.gotos k, h.terms.fr k⟩

section
variable {w : World} {B ab : Nat} {A : AuA} {G : Gram} {T : Tbl} {terms : List Int} {sv pv : Value} {L : List ((Int × Tr) × Value)} {st : Au}
theorem AuM.lt (h : AuM w B ab A G T terms sv pv L st) : ab < w.heap.size := (Array.getElem?_eq_some_iff.1 h.obj).1
theorem AuM.setSince (h : AuM w B ab A G T terms sv pv L st) (s : Nat) : AuM (w.setCell ⟨ab, 8, none⟩ (.int .i64 (s : Int))) B ab A G T terms sv pv L ⟨st.stack, st.pos, s, st.prods⟩ :=
  ⟨by simpa using setCell_obj h.obj (i := 8) (.int .i64 (s : Int)), own_structS h.obj h.own (by decide), h.row, fun x hx => kids_set h.obj (by decide) (h.kids x hx), own_structS h.obj h.prods (by decide)⟩
theorem AuM.setStack {sb c n : Nat} (h : AuM w B ab A G T terms (.slice (some ⟨sb, 0, none⟩) n c) pv L st) (m : Nat) (hm : m ≤ L.length) (hn : L.length = n) : AuM (w.setCell ⟨ab, 6, none⟩ (.slice (some ⟨sb, 0, none⟩) m c)) B ab A G T terms (.slice (some ⟨sb, 0, none⟩) m c) pv (L.take m) ⟨st.stack.take m, st.pos, st.since, st.prods⟩ := by
  subst hn
  refine ⟨by simpa using setCell_obj h.obj (i := 6) (.slice (some ⟨sb, 0, none⟩) m c), ?_, by rw [List.map_take, h.row], fun x hx => kids_set h.obj (by decide) (h.kids x (List.mem_of_mem_take hx)), own_structS h.obj h.prods (by decide)⟩
  have h1 := own_take h.own hm
  have h2 : (L.flatMap stC).take (m * 4) = (L.take m).flatMap stC := by
    conv => lhs; rw [← List.take_append_drop m L, List.flatMap_append]
    rw [List.take_left' (by rw [stC_len, List.length_take, Nat.min_eq_left hm])]
  rw [h2] at h1
  rw [List.length_take, Nat.min_eq_left hm]
  exact own_structS h.obj h1 (by decide)
/-- What is left to be told of an automaton that has ended by an error. -/
structure EndM (w : World) (B ab : Nat) (pv : Value) (st : Au) : Prop where
  c7 : w.cell? ⟨ab, 7, none⟩ = some (.int .i64 (st.pos : Int))
  c9 : w.cell? ⟨ab, 9, none⟩ = some pv
  prods : w.ownsRow B 3 1 pv st.prods.length (st.prods.map (Value.int .i64))
theorem AuM.ends (h : AuM w B ab A G T terms sv pv L st) {st' : Au} (h1 : st'.pos = st.pos) (h2 : st'.prods = st.prods) : EndM w B ab pv st' :=
  ⟨by rw [h1]; exact obj_cell h.obj 7 rfl, obj_cell h.obj 9 rfl, by rw [h2]; exact h.prods⟩
end
/-- What a reduction does. -/
def redU (G : Gram) (T : Tbl) (st : Au) (k : Int) : Sum Int Au :=
  if 4096 < st.since + 1 then .inl 104
  else if st.stack.length < (prdAt G k).right.length + 1 then .inl 4
  else if gotoAt T (lastN (st.stack.take (st.stack.length - (prdAt G k).right.length))) ((prdAt G k).left - G.terms) < 0 then .inl 4
  else .inr ⟨st.stack.take (st.stack.length - (prdAt G k).right.length) ++ [(gotoAt T (lastN (st.stack.take (st.stack.length - (prdAt G k).right.length))) ((prdAt G k).left - G.terms),
            ⟨k, 0, foOf ((st.stack.drop (st.stack.length - (prdAt G k).right.length)).map Prod.snd)⟩)], st.pos, st.since + 1, st.prods ++ [k]⟩
def RedP (w : World) (B ab : Nat) (A : AuA) (G : Gram) (T : Tbl) (terms : List Int) (st : Au) (k : Int) (e : Ending) (w' : World) : Prop :=
  Below B w w' ∧ MapsKept w w' ∧ match redU G T st k with
    | .inl x => e = .panicked [{ v := errV x, recovered := false }] ∧ ∃ pv', EndM w' B ab pv' st
    | .inr st' => e = .returned (.tuple #[]) ∧ ∃ sv' pv' L', AuM w' B ab A G T terms sv' pv' L' st'
theorem red_many {w w' : World} {B ab : Nat} {A : AuA} {G : Gram} {T : Tbl} {terms : List Int} {st : Au} {k : Int} {pv' : Value} (h : 4096 < st.since + 1) (hb : Below B w w') (hm : MapsKept w w') (he : EndM w' B ab pv' st) : RedP w B ab A G T terms st k (.panicked [{ v := errV 104, recovered := false }]) w' := by
  refine ⟨hb, hm, ?_⟩
  unfold redU
  rw [if_pos h]
  exact ⟨rfl, _, he⟩
theorem red_short {w w' : World} {B ab : Nat} {A : AuA} {G : Gram} {T : Tbl} {terms : List Int} {st : Au} {k : Int} {pv' : Value} (h : ¬ 4096 < st.since + 1) (h2 : st.stack.length < (prdAt G k).right.length + 1) (hb : Below B w w') (hm : MapsKept w w') (he : EndM w' B ab pv' st) : RedP w B ab A G T terms st k (.panicked [{ v := errV 4, recovered := false }]) w' := by
  refine ⟨hb, hm, ?_⟩
  unfold redU
  rw [if_neg h, if_pos h2]
  exact ⟨rfl, _, he⟩
theorem red_to {w w' : World} {B ab : Nat} {A : AuA} {G : Gram} {T : Tbl} {terms : List Int} {st : Au} {k : Int} {pv' : Value} (h : ¬ 4096 < st.since + 1) (h2 : ¬ st.stack.length < (prdAt G k).right.length + 1) (h3 : gotoAt T (lastN (st.stack.take (st.stack.length - (prdAt G k).right.length))) ((prdAt G k).left - G.terms) < 0) (hb : Below B w w') (hm : MapsKept w w') (he : EndM w' B ab pv' st) : RedP w B ab A G T terms st k (.panicked [{ v := errV 4, recovered := false }]) w' := by
  refine ⟨hb, hm, ?_⟩
  unfold redU
  rw [if_neg h, if_neg h2, if_pos h3]
  exact ⟨rfl, _, he⟩
theorem red_next {w w' : World} {B ab : Nat} {A : AuA} {G : Gram} {T : Tbl} {terms : List Int} {st : Au} {k : Int} {sv' pv' : Value} {L' : List ((Int × Tr) × Value)} (h : ¬ 4096 < st.since + 1) (h2 : ¬ st.stack.length < (prdAt G k).right.length + 1) (h3 : ¬ gotoAt T (lastN (st.stack.take (st.stack.length - (prdAt G k).right.length))) ((prdAt G k).left - G.terms) < 0) (hb : Below B w w') (hm : MapsKept w w')
    (he : AuM w' B ab A G T terms sv' pv' L' ⟨st.stack.take (st.stack.length - (prdAt G k).right.length) ++ [(gotoAt T (lastN (st.stack.take (st.stack.length - (prdAt G k).right.length))) ((prdAt G k).left - G.terms), ⟨k, 0, foOf ((st.stack.drop (st.stack.length - (prdAt G k).right.length)).map Prod.snd)⟩)], st.pos, st.since + 1, st.prods ++ [k]⟩) : RedP w B ab A G T terms st k (.returned (.tuple #[])) w' := by
  refine ⟨hb, hm, ?_⟩
  unfold redU
  rw [if_neg h, if_neg h2, if_neg h3]
  exact ⟨rfl, _, _, _, he⟩
def trC (x : (Int × Tr) × Value) : List Value := [.int .i64 x.1.2.p, .int .i64 x.1.2.a, x.2]

theorem trC_len (L : List ((Int × Tr) × Value)) : (L.flatMap trC).length = L.length * 3 := by
  induction L with
  | nil => rfl
  | cons x L ih => rw [List.flatMap_cons, List.length_append, ih, List.length_cons]; simp [trC]; omega
theorem kids_of_row {w : World} {B Bt : Nat} (hBt : Bt ≤ B) {kv : Value} {M : List ((Int × Tr) × Value)} (h : w.ownsRow B 40 3 kv M.length (M.flatMap trC)) (hk : ∀ x ∈ M, KidsV w (isTr Bt w) x.1.2.kids x.2) : KidsV w (isTr Bt w) (foOf (M.map fun x => x.1.2)) kv := by
  have hl : (foOf (M.map fun x => x.1.2)).len = M.length := by rw [foOf_len, List.length_map]
  obtain ⟨h1, h2 | ⟨g, c, cur, rfl, hb, hg, r1, r2, r3, r4⟩⟩ := h
  · obtain ⟨rfl, h2⟩ := h2
    have : M = [] := List.eq_nil_of_length_eq_zero h2
    subst this
    exact KidsV.nil (by unfold maxLen; omega)
  · refine ⟨some ⟨g, 0, none⟩, c, by rw [hl], by rw [hl]; exact r1, r2, .inr ⟨g, 0, rfl, ⟨Nat.le_trans hBt hb, _, _, hg⟩, ?_⟩⟩
    refine isFo_of fun i hi => ?_
    have hi' : i < M.length := by simpa using hi
    have key : ∀ j, j < 3 → w.cell? ⟨g, i * 3 + j, none⟩ = (trC M[i])[j]? := fun j hj => by
      have h3 := flat_get trC 3 (fun _ => rfl) M i j hi' hj
      have h4 := World.ownsRow.cellAt (w := w) (base := B) ⟨h1, .inr ⟨g, c, cur, rfl, hb, hg, r1, r2, r3, r4⟩⟩ (i * 3 + j) (by omega)
      rw [h4, h3]
    rw [Nat.zero_add, List.getElem_map]
    exact ⟨key 0 (by omega), key 1 (by omega), M[i].2, key 2 (by omega), hk _ (List.getElem_mem _)⟩
theorem rightT_parts {G : Gram} {T : Tbl} (h : rightT G T = true) : rightG G = true ∧ 1 ≤ T.acts.length ∧ T.acts.length ≤ 256 ∧ T.gotos.length = T.acts.length ∧ rowsB G T.acts.length T.acts T.gotos = true := by
  unfold rightT at h
  simp only [Bool.and_eq_true, decide_eq_true_eq] at h
  exact ⟨h.1.1.1.1, h.1.1.1.2, h.1.1.2, h.1.2, h.2⟩
theorem rowB_parts {G : Gram} {n : Nat} {a : List Ac} {g : List Int} (h : rowB G n a g = true) : (a.length : Int) = G.terms ∧ (g.length : Int) = (G.syms.length : Int) - G.terms ∧ (∀ x ∈ g, -1 ≤ x ∧ x < (n : Int)) ∧ entsB G n 0 a = true := by
  unfold rowB at h
  simp only [Bool.and_eq_true, decide_eq_true_eq] at h
  refine ⟨h.1.1.1, h.1.1.2, fun x hx => ?_, h.2⟩
  have := h.1.2
  unfold gotosB at this
  rw [List.all_eq_true] at this
  have := this x hx
  simp only [Bool.not_eq_true', Bool.or_eq_false_iff, decide_eq_false_iff_not] at this
  omega

set_option maxRecDepth 100000 in
set_option maxHeartbeats 16000000 in
theorem reduce_any {w : World} {B ab : Nat} {A : AuA} {G : Gram} {T : Tbl} {terms : List Int} {sv pv : Value} {L : List ((Int × Tr) × Value)} {st : Au} (h : AuM w B ab A G T terms sv pv L st) (hI : ∀ W, Below B w W → Inp W A G T terms) (hT : rightT G T = true) (hok : AuOk G T terms st) (hterms : terms.length ≤ 100) (hab : B ≤ ab)
    (k : Nat) (hk1 : 1 ≤ k) (hk : k < G.prods.length) : Calls Try.prog 69 #[.pointer (some ⟨ab, 0, none⟩), .int .i64 (k : Int)] w (RedP w B ab A G T terms st (k : Int)) := by
  have hL := h.len
  have hne := hok.ne
  have hlen := hok.len
  have hsince := hok.since
  have hposb := hok.pos
  have hn1 : st.stack.length ≤ 1000000 := by have := Nat.mul_le_mul_right 4098 (Nat.le_trans hposb hterms); omega
  obtain ⟨sb, sc, rfl, hsb, hLsc, hscm, -, -, -, -⟩ := st_cell h.own 0 (by omega)
  obtain ⟨i0, hi, hz0, hz1, hz2⟩ := info_parts Try.infoStack
  obtain ⟨j0, hj0, hy0, hy1, hy2⟩ := info_parts Try.infoTree
  obtain ⟨k0, hkk, hx0, hx1, hx2⟩ := info_parts Try.infoInt'
  have hp : prdAt G (k : Int) = G.prods[k] := by
    unfold prdAt
    rw [Int.toNat_natCast, List.getD_eq_getElem?_getD, List.getElem?_eq_getElem hk]
    rfl
  have c2 := obj_cell h.obj 2 (v := .slice A.pa G.prods.length A.pc) rfl
  obtain ⟨qb, qo, ra, rc, hpa, hri, -, hcx⟩ := IsGram.prd (hI w (Below.refl _ _)).gram k hk
  rw [hpa] at c2
  have y0 := hcx 0 (by simp [prdCells])
  have y1 := hcx 1 (by simp [prdCells])
  have y2 := hcx 2 (by simp [prdCells])
  have y3 := hcx 3 (by simp [prdCells])
  have y4 := hcx 4 (by simp [prdCells])
  have y5 := hcx 5 (by simp [prdCells])
  simp only [prdCells, List.getElem_cons_zero, List.getElem_cons_succ, Nat.add_zero] at y0 y1 y2 y3 y4 y5
  have HP := Lib.hid hp
  have hrl := hri.2.1
  have H := Lib.hid (And.intro h (And.intro hI (And.intro hT (And.intro hok hL))))
  clear h hI hT hok hcx hri hp hlen hposb
  generalize hpr : G.prods[k] = p at *
  have hkp : k < 1000 := by have := (rightG_parts (show rightG G = true by have := H.out.2.2.1; unfold rightT at this; simp only [Bool.and_eq_true] at this; exact this.1.1.1.1)).1; omega
  go_enter Try.func69, Try.ntmps69
  go_upto_region 1 with fail
  have hBw : B ≤ w.heap.size := by have := H.out.1.lt; omega
  have hka := Fr.alloc (ch := nothing) w (Obj.cells #[.int .i64 p.left, .slice ra p.right.length rc, .int .i64 p.prec, .bool p.has, .string p.action, .int .i64 p.whr] 46 (0, 0))
  have hob := alloc_obj w (Obj.cells #[.int .i64 p.left, .slice ra p.right.length rc, .int .i64 p.prec, .bool p.has, .string p.action, .int .i64 p.whr] 46 (0, 0))
  have h1 := H.out.1.keep hka
  have hb1 := hka.below_new.mono hBw
  have p1 := obj_cell hob 1 (v := .slice ra p.right.length rc) rfl
  have c6 := obj_cell h1.obj 6 (v := .slice (some ⟨sb, 0, none⟩) L.length sc) rfl
  have hpB : B ≤ w.heap.size := hBw
  have H1 := Lib.hid (And.intro h1 (And.intro hob hb1))
  have M1 := Lib.hid (mk_none hka)
  clear hka hob h1 hb1 c2 y0 y1 y2 y3 y4 y5
  generalize hpb : w.heap.size = pb at *
  generalize w.alloc (Obj.cells #[.int .i64 p.left, .slice ra p.right.length rc, .int .i64 p.prec, .bool p.has, .string p.action, .int .i64 p.whr] 46 (0, 0)) = W1 at *
  have hLn : L.length = st.stack.length := H.out.2.2.2.2
  rw [hLn] at c6
  generalize hnn : st.stack.length = n at *
  generalize hrr : p.right.length = rl at *
  have e1 : IntKind.i64.wrap ((n : Int) - (rl : Int)) = (n : Int) - (rl : Int) := IntWalk.i64_in _ (by omega)
  go_quiet (fail)
  have hbq : Below W1.heap.size W1 (W1.drewN nq) := below_drewN (Below.refl _ _) _
  have kq := Fr.new hbq
  have h2 := H1.out.1.keep kq
  have hob2 := kq.obj H1.out.2.1 id
  have hb2 := H1.out.2.2.trans (hbq.mono (by have := H1.out.1.lt; omega))
  have c8 := obj_cell h2.obj 8 (v := .int .i64 (st.since : Int)) rfl
  have z8 := obj_frozen h2.obj 8
  have H2 := Lib.hid (And.intro h2 (And.intro hob2 hb2))
  have M2 := Lib.hid (M1.out.trans (mk_none kq))
  clear kq hbq h2 hob2 hb2 c6 p1
  generalize W1.drewN nq = W2 at *
  have hss : st.since ≤ 5000 := by omega
  generalize hsn : st.since = sn at *
  have HSN := Lib.hid hsn
  have HRL := Lib.hid hrr
  have HNN := Lib.hid hnn
  have HPR := Lib.hid hpr
  clear hsn hrr hnn hpr
  go_upto_region 3 with fail
  have h3 := H2.out.1.setSince (sn + 1)
  rw [show ((sn + 1 : Nat) : Int) = (sn : Int) + 1 from rfl] at h3
  have k3 := Fr.setCell W2 ⟨ab, 8, none⟩ (.int .i64 ((sn : Int) + 1))
  have hob3 := k3.obj H2.out.2.1 (fun e => by have e' : pb = ab := e; have := H.out.1.lt; omega)
  have hb3 := H2.out.2.2.trans (k3.below (by have := H2.out.1.lt; omega) fun b e => by have e' : b = ab := e; omega)
  have c8' := obj_cell h3.obj 8 (v := .int .i64 ((sn : Int) + 1)) rfl
  have H3 := Lib.hid (And.intro h3 (And.intro hob3 hb3))
  have M3 := Lib.hid (M2.out.trans (mk_set (i := 8) H2.out.1.obj (.int .i64 ((sn : Int) + 1))))
  clear h3 k3 hob3 hb3 c8 z8
  generalize W2.setCell ⟨ab, 8, none⟩ (.int .i64 ((sn : Int) + 1)) = W3 at *
  have HF := Lib.hid fun (e : Int) (V : World) => fail_no e V
  have HY := Lib.hid fun (e : Int) (V : World) => fail_yes e V
  by_cases hm : 4096 < sn + 1
  · have d1 : decide ((4096 : Int) < (sn : Int) + 1) = true := decide_eq_true (by omega)
    go_wp2_with (go_at_call 67; refine (HY.out _ _).mono ?_; rintro e w' ⟨rfl, rfl⟩)
    exact ⟨rfl, red_many (by rw [HSN.out]; exact hm) H3.out.2.2 M3.out (H3.out.1.ends rfl rfl)⟩
  have d1 : decide ((4096 : Int) < (sn : Int) + 1) = false := decide_eq_false (by omega)
  have HM := Lib.hid hm
  clear hm
  go_upto_region 4 with (go_at_call 67; refine (HF.out _ _).mono ?_; rintro e w' ⟨rfl, rfl⟩)
  by_cases hl2 : n < rl + 1
  · have d2 : decide ((n : Int) - (rl : Int) < 1) = true := decide_eq_true (by omega)
    go_wp2_with (go_at_call 67; refine (HY.out _ _).mono ?_; rintro e w' ⟨rfl, rfl⟩)
    exact ⟨rfl, red_short (by rw [HSN.out]; exact HM.out) (by rw [HP.out, HRL.out, HNN.out]; exact hl2) H3.out.2.2 M3.out (H3.out.1.ends rfl rfl)⟩
  obtain ⟨m, hmn⟩ : ∃ m, n - rl = m := ⟨_, rfl⟩
  have em : (n : Int) - (rl : Int) = (m : Int) := by omega
  rw [em]
  have d2 : decide ((m : Int) < 1) = false := decide_eq_false (by omega)
  have hmn1 : m + rl = n := by omega
  have hm1 : 1 ≤ m := by omega
  have hmle : m ≤ n := by omega
  have hnm : n - m = rl := by omega
  have hnsc : n ≤ sc := by omega
  have c6 := obj_cell H3.out.1.obj 6 (v := .slice (some ⟨sb, 0, none⟩) L.length sc) rfl
  rw [hLn] at c6
  have HMN := Lib.hid (And.intro hmn hmn1)
  clear hl2 e1 em hmn hmn1 d1 c8'
  obtain ⟨adr, hadr⟩ : ∃ adr, (if sc = m then some (⟨sb, 0, none⟩ : Addr) else some ⟨sb, m * 4, none⟩) = adr := ⟨_, rfl⟩
  have HADR := Lib.hid (show m < sc → adr = some ⟨sb, m * 4, none⟩ from fun e => by rw [← hadr, if_neg (by omega)])
  have c6 := (Fr.alloc (ch := nothing) W3 (Obj.cells #[.int .i64 (k : Int), .int .i64 0, .slice none 0 0] 40 (0, 0))).cell c6 id
  go_upto_region 7 with (go_at_call 67; refine (HF.out _ _).mono ?_; rintro e w' ⟨rfl, rfl⟩)
  have hka := Fr.alloc (ch := nothing) W3 (Obj.cells #[.int .i64 (k : Int), .int .i64 0, .slice none 0 0] 40 (0, 0))
  have hobx := alloc_obj W3 (Obj.cells #[.int .i64 (k : Int), .int .i64 0, .slice none 0 0] 40 (0, 0))
  have HX0 := Lib.hid (And.intro hka.below_new hobx)
  clear hka hobx hadr c6 hnm
  generalize W3.alloc (Obj.cells #[.int .i64 (k : Int), .int .i64 0, .slice none 0 0] 40 (0, 0)) = W4 at *
  obtain ⟨xb, hxb⟩ : ∃ xb, W3.heap.size = xb := ⟨_, rfl⟩
  rw [hxb] at HX0 ⊢
  have HXB := Lib.hid hxb
  clear hxb
  have hmr1 : m + rl ≤ n := by have := HMN.out.2; omega
  have hmr2 : n ≤ m + rl := by have := HMN.out.2; omega
  have hrl1 : rl ≤ 1000000 := by omega
  go_loopw [8, 52] (fun _ iv wr => ∃ (j : Nat) (kv : Value), j ≤ rl ∧ iv = .int .i64 (j : Int) ∧ Below xb W3 wr ∧ wr.heap[xb]? = some (.cells #[.int .i64 (k : Int), .int .i64 0, kv] 40 (0, 0)) ∧ wr.ownsRow (xb + 1) 40 3 kv j (((L.drop m).take j).flatMap trC)) (fun _ iv _ => rl - (intOf iv).toNat)
  case atStart => exact ⟨0, _, Nat.zero_le _, rfl, HX0.out.1, HX0.out.2, World.ownsRow_nil _ _ _ _⟩
  case round =>
    obtain ⟨j, kv, hj, rfl, hbel, hxo, hown⟩ := hrel
    by_cases hlt : j < rl
    ·
      -- <X>
      obtain rfl := HADR.out (by omega)
      have kw : Fr nothing W3 wr := Fr.new (by rw [HXB.out]; exact hbel)
      have hA := H3.out.1.keep kw
      have hjl : m + j < L.length := by rw [hLn]; omega
      obtain ⟨g, c, hgc, -, -, -, s0, s1, s2, s3⟩ := st_cell hA.own (m + j) hjl
      simp only [Value.slice.injEq, Option.some.injEq, Addr.mk.injEq, and_true, true_and] at hgc
      obtain ⟨rfl, rfl⟩ := hgc
      have hkd := hA.kids L[m + j] (List.getElem_mem _)
      have hdk : (L.drop m).take (j + 1) = (L.drop m).take j ++ [L[m + j]] := by
        rw [List.take_add_one, List.getElem?_drop, List.getElem?_eq_getElem hjl]
        rfl
      have e4 : (m + j) * 4 = m * 4 + j * 4 := Nat.add_mul _ _ _
      rw [e4] at s0 s1 s2 s3
      have HD := Lib.hid hdk
      clear hdk e4 hA
      generalize L[m + j] = x at *
      obtain ⟨⟨xn, xt⟩, xv⟩ := x
      obtain ⟨xp, xa, xk⟩ := xt
      simp only at s0 s1 s2 s3 hkd
      obtain ⟨ka, kc, rfl, -, -, -⟩ := id hkd
      generalize xk.len = xl at *
      obtain ⟨za, zc, rfl, -, -, -⟩ := own_cells hown
      have h1a := Fr.alloc (ch := nothing) wr (Obj.cells #[.int .i64 xn, .int .i64 xp, .int .i64 xa, .slice ka xl kc] 90 (0, 0))
      have hsb := alloc_obj wr (Obj.cells #[.int .i64 xn, .int .i64 xp, .int .i64 xa, .slice ka xl kc] 90 (0, 0))
      have b0 := obj_cell hsb 0 (v := .int .i64 xn) rfl
      have b1 := obj_cell hsb 1 (v := .int .i64 xp) rfl
      have b2 := obj_cell hsb 2 (v := .int .i64 xa) rfl
      have b3 := obj_cell hsb 3 (v := .slice ka xl kc) rfl
      have hxo1 := h1a.obj hxo id
      have x2 := obj_cell hxo1 2 (v := .slice za j zc) rfl
      have hown1 := own_fr hown h1a fun _ _ => id
      have hlt1 : xb ≤ wr.heap.size := HXB.out ▸ hbel.size
      have hbel1 := hbel.trans (h1a.below_new.mono hlt1)
      have H5 := Lib.hid (And.intro hown1 (And.intro hxo1 hbel1))
      clear hown hxo hbel h1a hsb kw hkd
      go_upto_region 9 with fail
      generalize hw5 : wr.alloc (Obj.cells #[.int .i64 xn, .int .i64 xp, .int .i64 xa, .slice ka xl kc] 90 (0, 0)) = W5 at *
      have hw5s : xb ≤ W5.heap.size := by rw [← hw5]; simp; omega
      have HW5 := Lib.hid hw5
      clear hw5
      have hown2 := H5.out.1.alloc (Obj.cells #[.int .i64 xp, .int .i64 xa, .slice ka xl kc] 40 (0, 0))
      have hna := news_cells (l := [.int .i64 xp, .int .i64 xa, .slice ka xl kc]) (alloc_obj W5 (Obj.cells #[.int .i64 xp, .int .i64 xa, .slice ka xl kc] 40 (0, 0)))
      have hxw : xb < W5.heap.size := (Array.getElem?_eq_some_iff.1 H5.out.2.1).1
      have hBa : xb + 1 ≤ (W5.alloc (Obj.cells #[.int .i64 xp, .int .i64 xa, .slice ka xl kc] 40 (0, 0))).heap.size := by simp; omega
      have hnx : ¬ (Value.slice za j zc).ownBlock = some xb := fun e => by have := (ownObj H5.out.1 xb e).1; omega
      go_wp2_with (at_builtin; refine wpList_append_lies _ rfl _ _ 38 rfl (xb + 1) 40 j0 _ 3 40 Try.underlying38 hj0 hy0 hy1 hy2 rfl (by decide) (.slice za j zc) _ _ rfl hown2 ⟨W5.heap.size, 0, none⟩ 1 1 [.int .i64 xp, .int .i64 xa, .slice ka xl kc] rfl rfl hna (by simp [Value.oneCell']) (by omega) (by unfold maxLen; omega) (by omega) hBa _ rfl ?_
                   intro g cap w7 hown7 hgrow7 hat7 hlt7
                   have k7 : Fr (fun b => (Value.slice za j zc).ownBlock = some b) W5 w7 := (Fr.alloc _ _).trans (Fr.grown hgrow7)
                   have ho7 := k7.obj H5.out.2.1 hnx
                   have q7 := obj_cell ho7 2 (v := .slice za j zc) rfl
                   have f7 := obj_frozen ho7 2)
      go_roundw
      case rel =>
        have hb7 : Below xb W3 w7 := H5.out.2.2.trans (k7.below (by omega) fun b e => by have := (ownObj H5.out.1 b e).1; omega)
        refine ⟨j + 1, _, by omega, by simp, hb7.trans ((Fr.setCell w7 ⟨xb, 2, none⟩ _).below (by have := k7.size; omega) fun b e => by have e' : b = xb := e; omega), by simpa using setCell_obj ho7 (i := 2) (.slice (some ⟨g, 0, none⟩) (j + 1) cap), ?_⟩
        rw [HD.out, List.flatMap_append]
        refine own_fr hown7 (Fr.setCell w7 ⟨xb, 2, none⟩ _) fun b hb hc => ?_
        have e' : b = xb := hc
        have := (ownObj hown7 b hb).1
        omega
      case measure => simp [intOf]; omega
      -- </X>
    · obtain rfl : j = rl := by omega
      have kw : Fr nothing W3 wr := Fr.new (by rw [HXB.out]; exact hbel)
      have hA := H3.out.1.keep kw
      have hob4 := kw.obj H3.out.2.1 id
      have htk : (L.drop m).take j = L.drop m := List.take_of_length_le (by rw [List.length_drop, hLn]; omega)
      have hdl : (L.drop m).length = j := by rw [List.length_drop, hLn]; omega
      rw [htk] at hown
      have hkids : KidsV wr (isTr B wr) (foOf ((L.drop m).map fun x => x.1.2)) kv := kids_of_row (show B ≤ xb + 1 by rw [← HXB.out]; have := H3.out.1.lt; omega) (by rw [hdl]; exact hown) fun x hx => hA.kids x (List.mem_of_mem_drop hx)
      have hxbs : xb ≤ wr.heap.size := HXB.out ▸ hbel.size
      have hbB := H3.out.2.2.trans (hbel.mono (show B ≤ xb by rw [← HXB.out]; have := H3.out.1.lt; omega))
      have c6 := obj_cell hA.obj 6 (v := .slice (some ⟨sb, 0, none⟩) L.length sc) rfl
      rw [hLn] at c6
      have z6 := obj_frozen hA.obj 6
      have habx : ab < xb := by rw [← HXB.out]; exact H3.out.1.lt
      have hpbx : pb < xb := by rw [← HXB.out]; exact (Array.getElem?_eq_some_iff.1 H3.out.2.1).1
      have hlw := hA.lt
      have k6 := Fr.setCell wr ⟨ab, 6, none⟩ (.slice (some ⟨sb, 0, none⟩) m sc)
      have h6 := hA.setStack m (by omega) rfl
      have hx6 := k6.obj hxo (fun e => by have e' : xb = ab := e; omega)
      have hob6 := k6.obj hob4 (fun e => by have e' : pb = ab := e; have := H.out.1.lt; omega)
      have hk6 := kids_set (i := 6) (v := .slice (some ⟨sb, 0, none⟩) m sc) hA.obj (by decide) hkids
      have hb6 := hbB.trans (k6.below (by omega) fun b e => by have e' : b = ab := e; omega)
      have H6 := Lib.hid (And.intro h6 (And.intro hx6 (And.intro hob6 (And.intro hk6 hb6))))
      have M6 := Lib.hid (M3.out.trans ((mk_none kw).trans (mk_set (i := 6) hA.obj (.slice (some ⟨sb, 0, none⟩) m sc))))
      clear hA hob4 htk hdl hown hkids hbB h6 hx6 hob6 hk6 hb6 k6 hxo hbel kw
      go_upto_region 12 with fail
      generalize wr.setCell ⟨ab, 6, none⟩ (.slice (some ⟨sb, 0, none⟩) m sc) = W6 at *
      have hTP := rightT_parts H.out.2.2.1
      have hgp := (rightG_parts hTP.1).1
      have hpl := right_left2 hTP.1 k hk hk1
      rw [HPR.out] at hpl
      have hSl : (st.stack.take m).length = m := by rw [List.length_take, HNN.out]; omega
      obtain ⟨y, hy, hyn, -⟩ := lastN_mem (l := st.stack.take m) (by omega)
      have hyr := H.out.2.2.2.1.num y (List.mem_of_mem_take hy)
      obtain ⟨tn, htn⟩ : ∃ tn : Nat, lastN (st.stack.take m) = (tn : Int) := ⟨(lastN (st.stack.take m)).toNat, by omega⟩
      obtain ⟨d, hd⟩ : ∃ d : Nat, p.left - G.terms = (d : Int) := ⟨(p.left - G.terms).toNat, by omega⟩
      have htnl : tn < T.gotos.length := by rw [hTP.2.2.2.1]; omega
      have htna : tn < T.acts.length := by omega
      have hrB := rowB_parts (rowsB_at T.acts T.gotos tn htna htnl hTP.2.2.2.2)
      have hdl : d < T.gotos[tn].length := by have := hrB.2.1; omega
      have hzr := hrB.2.2.1 T.gotos[tn][d] (List.getElem_mem _)
      have hgoto : gotoAt T (lastN (st.stack.take m)) (p.left - G.terms) = T.gotos[tn][d] := by
        unfold gotoAt
        rw [htn, hd, Int.toNat_natCast, Int.toNat_natCast, List.getD_eq_getElem?_getD, List.getD_eq_getElem?_getD, List.getElem?_eq_getElem htnl, Option.getD_some, List.getElem?_eq_getElem hdl]
        rfl
      have hI6 := H.out.2.1 W6 H6.out.2.2.2.2
      obtain ⟨gb, go, hga, -, rg, g0, hrg⟩ := Rows'.at hI6.gotos htnl
      rw [Nat.mul_one] at g0
      obtain ⟨-, -, rga, rgc, rfl, -, -, -⟩ := id hrg
      obtain ⟨eb, eo, rfl, -, -, r0, -⟩ := hrg.at hdl
      have c4 := obj_cell H6.out.1.obj 4 (v := .slice A.ga T.gotos.length A.gc) rfl
      rw [hga] at c4
      have c0 := obj_cell H6.out.1.obj 0 (v := .int .i64 G.terms) rfl
      have p0 := obj_cell H6.out.2.2.1 0 (v := .int .i64 p.left) rfl
      have hTOP := fun (q : Nat) => top_any (H6.out.1.keep (Fr.new (below_drewN (Below.refl _ W6) q))) (by show 1 ≤ (st.stack.take m).length; omega) (by show (st.stack.take m).length ≤ 1000000000; omega)
      simp only [htn] at hTOP
      have HTOP := Lib.hid hTOP
      have e2 : IntKind.i64.wrap (p.left - G.terms) = (d : Int) := by rw [IntWalk.i64_in _ (by omega)]; exact hd
      have hglb : T.gotos.length ≤ 256 := by omega
      have hrlb : T.gotos[tn].length ≤ 1000 := by have := hrB.2.1; omega
      have HZ := Lib.hid (And.intro hgoto hzr)
      clear hTOP hgoto hzr hrg hI6 hga hrB hyr hy hyn hd htn hpl
      generalize T.gotos[tn][d] = z at *
      generalize T.gotos[tn].length = gl at *
      generalize T.gotos.length = tgl at *
      go_quiet ((go_at_call 72; exact Calls.quiet_of (HTOP.out _)))
      have hbq : Below W6.heap.size W6 (W6.drewN nq) := below_drewN (Below.refl _ _) _
      have kq := Fr.new hbq
      have h7 := H6.out.1.keep kq
      have hx7 := kq.obj H6.out.2.1 id
      have hk7 := kids_fr H6.out.2.2.2.1 kq fun _ _ _ => id
      have hb7 := H6.out.2.2.2.2.trans (hbq.mono (by have := H6.out.1.lt; omega))
      have H7 := Lib.hid (And.intro h7 (And.intro hx7 (And.intro hk7 hb7)))
      have M7 := Lib.hid (M6.out.trans (mk_none kq))
      clear kq hbq h7 hx7 hk7 hb7 c0 c4 p0 g0 r0 e2 HTOP
      generalize W6.drewN nq = W7 at *
      by_cases hz : z < 0
      · have d3 : decide (z < 0) = true := decide_eq_true hz
        clear hz
        go_wp2_with (go_at_call 67; refine (HY.out _ _).mono ?_; rintro e w' ⟨rfl, rfl⟩)
        exact ⟨rfl, red_to (by rw [HSN.out]; exact HM.out) (by rw [HP.out, HRL.out, HNN.out]; omega) (by rw [HP.out, HRL.out, HNN.out, HMN.out.1, HZ.out.1]; exact of_decide_eq_true d3) H7.out.2.2.2 M7.out (H7.out.1.ends rfl rfl)⟩
      have d3 : decide (z < 0) = false := decide_eq_false hz
      go_upto_region 14 with (go_at_call 67; refine (HF.out _ _).mono ?_; rintro e w' ⟨rfl, rfl⟩)
      obtain ⟨ka, kc, hkv, -, -, -⟩ := id H7.out.2.2.1
      generalize (foOf ((L.drop m).map fun x => x.1.2)).len = fl at *
      subst hkv
      have HZN := Lib.hid hz
      clear hz d3 hnsc
      have hmx : m ≤ 1000000 := by omega
      have htm : (L.take m).length = m := by rw [List.length_take, hLn]; omega
      have hown0 := H7.out.1.own
      rw [htm] at hown0
      have hcf : ∀ (ch : Nat → Prop) (W : World), Fr ch W7.drew W → ¬ ch ab → ¬ ch xb → W.cell? ⟨ab, 6, none⟩ = some (.slice (some ⟨sb, 0, none⟩) m sc) ∧ W.cell? ⟨xb, 0, none⟩ = some (.int .i64 (k : Int)) ∧ W.cell? ⟨xb, 1, none⟩ = some (.int .i64 0) ∧ W.cell? ⟨xb, 2, none⟩ = some (.slice ka fl kc) := fun ch W kk ha hx =>
        ⟨kk.cell (obj_cell H7.out.1.obj 6 rfl) ha, kk.cell (obj_cell H7.out.2.1 0 rfl) hx, kk.cell (obj_cell H7.out.2.1 1 rfl) hx, kk.cell (obj_cell H7.out.2.1 2 rfl) hx⟩
      have HCF := Lib.hid hcf
      have hnab : ¬ (Value.slice (some ⟨sb, 0, none⟩) m sc).ownBlock = some ab := fun hc => own_ne hown0 H7.out.1.obj (by decide) hc
      have hnxb : ¬ (Value.slice (some ⟨sb, 0, none⟩) m sc).ownBlock = some xb := fun hc => own_ne hown0 H7.out.2.1 (by decide) hc
      have HNB := Lib.hid (And.intro hnab hnxb)
      have h7d := H7.out.1.keep (Fr.drew W7)
      have hk7d := kids_fr H7.out.2.2.1 (Fr.drew W7) fun _ _ _ => id
      have hb7d := H7.out.2.2.2.trans ((Fr.drew (ch := nothing) W7).below (B := B) (by have := H7.out.1.lt; omega) fun _ e => e.elim)
      have H8 := Lib.hid (And.intro h7d (And.intro hk7d hb7d))
      have M8 := Lib.hid (M7.out.trans (mk_none (Fr.drew W7)))
      have hown0 := h7d.own
      rw [htm] at hown0
      clear hcf hnab hnxb h7d hk7d hb7d
      refine wp_region_anyT (fun j W => j < 12 → W.cell? ⟨ab, 6, none⟩ = some (.slice (some ⟨sb, 0, none⟩) m sc) ∧ W.cell? ⟨xb, 0, none⟩ = some (.int .i64 (k : Int)) ∧ W.cell? ⟨xb, 1, none⟩ = some (.int .i64 0) ∧ W.cell? ⟨xb, 2, none⟩ = some (.slice ka fl kc)) (by kernel_rfl) ?_
      have hS0 := HCF.out _ _ (Fr.refl (ch := nothing) W7.drew) id id
      generalize hwq : W7.drew = wq at *
      clear hwq
      refine anyT_take (R := _) (i := 0) (v := ?_) (fun j => decide (j < 12)) (fun j w h k => k (of_decide_eq_true h)) (fun w h _ => h) rfl (by kernel_rfl) (fun _ _ _ h => h) _ _ _ _ (by kernel_rfl) (by kernel_rfl) (by kernel_rfl) (by kernel_rfl) (Or.inl ⟨by rfl, ?_⟩) (by assumption) ?_
      rotate_left
      · (intro w hSw; (try dsimp only at hSw); go_simp)
        try with_reducible rfl
      refine anyT_take (R := _) (i := 1) (v := ?_) (fun j => decide (j < 12)) (fun j w h k => k (of_decide_eq_true h)) (fun w h _ => h) rfl (by kernel_rfl) (fun _ _ _ h => h) _ _ _ _ (by kernel_rfl) (by kernel_rfl) (by kernel_rfl) (by kernel_rfl) (Or.inl ⟨by rfl, ?_⟩) (by assumption) ?_
      rotate_left
      · (intro w hSw; (try dsimp only at hSw); go_simp)
        try with_reducible rfl
      refine anyT_take (R := _) (i := 2) (v := ?_) (fun j => decide (j < 12)) (fun j w h k => k (of_decide_eq_true h)) (fun w h _ => h) rfl (by kernel_rfl) (fun _ _ _ h => h) _ _ _ _ (by kernel_rfl) (by kernel_rfl) (by kernel_rfl) (by kernel_rfl) (Or.inl ⟨by rfl, ?_⟩) (by assumption) ?_
      rotate_left
      · (intro w hSw; (try dsimp only at hSw); go_simp)
        try with_reducible rfl
      refine anyT_take (R := _) (i := 3) (v := ?_) (fun j => decide (j < 12)) (fun j w h k => k (of_decide_eq_true h)) (fun w h _ => h) rfl (by kernel_rfl) (fun _ _ _ h => h) _ _ _ _ (by kernel_rfl) (by kernel_rfl) (by kernel_rfl) (by kernel_rfl) (Or.inl ⟨by rfl, ?_⟩) (by assumption) ?_
      rotate_left
      · (intro w hSw; (try dsimp only at hSw); go_simp)
        try with_reducible rfl
      refine anyT_take (R := _) (i := 4) (v := ?_) (fun j => decide (j < 12)) (fun j w h k => k (of_decide_eq_true h)) (fun w h _ => h) rfl (by kernel_rfl) (fun _ _ _ h => h) _ _ _ _ (by kernel_rfl) (by kernel_rfl) (by kernel_rfl) (by kernel_rfl) (Or.inl ⟨by rfl, ?_⟩) (by assumption) ?_
      rotate_left
      · (intro w hSw; (try dsimp only at hSw); go_simp)
        try with_reducible rfl
      refine anyT_take (R := _) (i := 5) (v := ?_) (fun j => decide (j < 12)) (fun j w h k => k (of_decide_eq_true h)) (fun w h _ => h) rfl (by kernel_rfl) (fun _ _ _ h => h) _ _ _ _ (by kernel_rfl) (by kernel_rfl) (by kernel_rfl) (by kernel_rfl) (Or.inl ⟨by rfl, ?_⟩) (by assumption) ?_
      rotate_left
      · (intro w hSw; (try dsimp only at hSw); go_simp)
        try with_reducible rfl
      refine anyT_take (R := _) (i := 6) (v := ?_) (fun j => decide (j < 12)) (fun j w h k => k (of_decide_eq_true h)) (fun w h _ => h) rfl (by kernel_rfl) (fun _ _ _ h => h) _ _ _ _ (by kernel_rfl) (by kernel_rfl) (by kernel_rfl) (by kernel_rfl) (Or.inl ⟨by rfl, ?_⟩) (by assumption) ?_
      rotate_left
      · (intro w hSw; (try dsimp only at hSw); go_simp)
        try with_reducible rfl
      refine anyT_take (R := _) (i := 7) (v := ?_) (fun j => decide (j < 12)) (fun j w h k => k (of_decide_eq_true h)) (fun w h _ => h) rfl (by kernel_rfl) (fun _ _ _ h => h) _ _ _ _ (by kernel_rfl) (by kernel_rfl) (by kernel_rfl) (by kernel_rfl) (Or.inl ⟨by rfl, ?_⟩) (by assumption) ?_
      rotate_left
      · (intro w hSw; (try dsimp only at hSw); go_simp)
        try with_reducible rfl
      refine anyT_ready (rs := [8]) (by kernel_rfl) (by simp) ?_
      intro j hj
      obtain rfl := List.mem_singleton.1 hj
      clear hj
      refine wpOp_plain rfl rfl ?_
      go_simp
      have hka : ∀ ch, Fr ch wq (wq.alloc (Obj.cells #[.int .i64 z, .int .i64 (k : Int), .int .i64 0, .slice ka fl kc] 90 (0, 0))) := fun ch => Fr.alloc _ _
      refine ⟨HCF.out _ _ (hka nothing) id id, ?_⟩
      have hown1 := hown0.alloc (Obj.cells #[.int .i64 z, .int .i64 (k : Int), .int .i64 0, .slice ka fl kc] 90 (0, 0))
      have hna := news_cells (l := [.int .i64 z, .int .i64 (k : Int), .int .i64 0, .slice ka fl kc]) (alloc_obj wq (Obj.cells #[.int .i64 z, .int .i64 (k : Int), .int .i64 0, .slice ka fl kc] 90 (0, 0)))
      have hwz : ab < wq.heap.size := H8.out.1.lt
      have hBa : B ≤ (wq.alloc (Obj.cells #[.int .i64 z, .int .i64 (k : Int), .int .i64 0, .slice ka fl kc] 90 (0, 0))).heap.size := by simp; omega
      have HKA := Lib.hid hka
      clear hS0 hka
      refine anyT_ready (rs := [9]) (by kernel_rfl) (by simp) ?_
      intro j hj
      obtain rfl := List.mem_singleton.1 hj
      clear hj
      refine wpOp_plain rfl rfl ?_
      refine wp_append_lies _ _ _ 86 rfl B 90 i0 _ 4 48 Try.underlying86 hi hz0 hz1 hz2 (by rfl) (by decide) (.slice (some ⟨sb, 0, none⟩) m sc) _ _ (by rfl) hown1 ⟨wq.heap.size, 0, none⟩ 1 1 [.int .i64 z, .int .i64 (k : Int), .int .i64 0, .slice ka fl kc] (by rfl) (by rfl) hna (by simp [Value.oneCell']) (by omega) (by unfold maxLen; omega) (by omega) hBa _ rfl ?_
      intro g cap w4 hown4 hgrow4 hat4 hlt4
      have hF4 : Fr (fun b => (Value.slice (some ⟨sb, 0, none⟩) m sc).ownBlock = some b) wq w4 := (HKA.out _).trans (Fr.grown hgrow4)
      have hob4 := hF4.obj H8.out.1.obj HNB.out.1
      have z6 := obj_frozen hob4 6
      have hS4 := HCF.out _ _ hF4 HNB.out.1 HNB.out.2
      have H4 := Lib.hid (And.intro hown4 (And.intro hF4 hob4))
      clear hown4 hF4 hob4 hgrow4 hat4 hlt4 hna hBa hown1
      refine ⟨fun _ => hS4, ?_⟩
      obtain ⟨x6, xx0, xx1, xx2⟩ := hS4
      refine anyT_ready (rs := [10]) (by kernel_rfl) (by simp) ?_
      intro j hj
      obtain rfl := List.mem_singleton.1 hj
      clear hj
      refine wpOp_plain rfl rfl ?_
      go_simp
      refine anyT_ready (rs := [11]) (by kernel_rfl) (by simp) ?_
      intro j hj
      obtain rfl := List.mem_singleton.1 hj
      clear hj
      refine wpOp_plain rfl rfl ?_
      go_simp
      refine anyT_ready (rs := [12]) (by kernel_rfl) (by simp) ?_
      intro j hj
      obtain rfl := List.mem_singleton.1 hj
      clear hj
      refine wpOp_plain rfl rfl ?_
      go_simp
      refine anyT_done (by kernel_rfl) ?_ _
      have h5 := setCell_obj H4.out.2.2 (i := 6) (.slice (some ⟨g, 0, none⟩) (m + 1) cap)
      obtain ⟨pa2, pc2, hpv, -, -, -⟩ := own_as_cells H8.out.1.prods
      simp only at hpv
      have y9 := obj_cell h5 9 (v := pv) rfl
      have z9 := obj_frozen h5 9
      have hpr5 := own_structS (i := 6) (v := .slice (some ⟨g, 0, none⟩) (m + 1) cap) H4.out.2.2 (own_otherS hown0 H4.out.2.1 H8.out.1.prods (by decide)) (by decide)
      have hst5 := own_structS (i := 6) (v := .slice (some ⟨g, 0, none⟩) (m + 1) cap) H4.out.2.2 H4.out.1 (by decide)
      have hkd5 : ∀ x ∈ L.take m ++ [((z, ⟨(k : Int), 0, foOf ((L.drop m).map fun x => x.1.2)⟩), .slice ka fl kc)], KidsV (w4.setCell ⟨ab, 6, none⟩ (.slice (some ⟨g, 0, none⟩) (m + 1) cap)) (isTr B (w4.setCell ⟨ab, 6, none⟩ (.slice (some ⟨g, 0, none⟩) (m + 1) cap))) x.1.2.kids x.2 := fun x hx => by
        refine kids_set H4.out.2.2 (by decide) (kids_own hown0 (by decide) H4.out.2.1 ?_)
        rcases List.mem_append.1 hx with hx | hx
        · exact H8.out.1.kids x hx
        · rw [List.mem_singleton.1 hx]
          exact H8.out.2.1
      have hlow5 : Below B w (w4.setCell ⟨ab, 6, none⟩ (.slice (some ⟨g, 0, none⟩) (m + 1) cap)) :=
        H8.out.2.2.trans ((H4.out.2.1.below (by omega) fun b e => (ownObj hown0 b e).1).trans ((Fr.setCell w4 ⟨ab, 6, none⟩ _).below (by have := (Array.getElem?_eq_some_iff.1 H4.out.2.2).1; omega) fun b e => by have e' : b = ab := e; omega))
      have HOW := Lib.hid hown0
      have hpl : st.prods.length ≤ 1000000 := by have := H.out.2.2.2.1.prods; have := H.out.2.2.2.1.pos; have := Nat.mul_le_mul_right 4098 (Nat.le_trans H.out.2.2.2.1.pos hterms); have := H.out.2.2.2.1.since; omega
      have M5 := Lib.hid (M8.out.trans ((mk_own hown0 H4.out.2.1).trans (mk_set (i := 6) H4.out.2.2 (.slice (some ⟨g, 0, none⟩) (m + 1) cap))))
      have H5 := Lib.hid (And.intro h5 (And.intro hpr5 (And.intro hst5 (And.intro hkd5 hlow5))))
      clear h5 hst5 hkd5 hlow5 x6 z6 hown0 xx0 xx1 xx2
      generalize w4.setCell ⟨ab, 6, none⟩ (.slice (some ⟨g, 0, none⟩) (m + 1) cap) = w5 at *
      rw [hpv] at y9
      obtain ⟨npl, hnpl⟩ : ∃ npl, st.prods.length = npl := ⟨_, rfl⟩
      rw [hpv] at hpr5
      rw [hnpl] at y9 hpl
      have hnpv : ¬ (Value.slice pa2 npl pc2).ownBlock = some ab := fun hc => by rw [hnpl] at hpr5; exact own_ne hpr5 H5.out.1 (by decide) hc
      have hpr6 := hpr5
      rw [hnpl] at hpr6
      have hown2 := hpr6.alloc (Obj.cells #[.int .i64 (k : Int)] 3 (0, 0))
      have hna := one_news (alloc_obj w5 (Obj.cells #[.int .i64 (k : Int)] 3 (0, 0)))
      have h5s : ab < w5.heap.size := (Array.getElem?_eq_some_iff.1 H5.out.1).1
      have hBa : B ≤ (w5.alloc (Obj.cells #[.int .i64 (k : Int)] 3 (0, 0))).heap.size := by simp; omega
      have HPV := Lib.hid (And.intro hpv (And.intro hnpl hpr6))
      clear hpv hnpl hpr5 hpr6
      go_wp2_with (at_builtin; refine wpList_append_lies _ rfl _ _ 30 rfl B 3 k0 _ 1 8 Try.underlying30 hkk hx0 hx1 hx2 rfl (by decide) (.slice pa2 npl pc2) _ _ rfl hown2 ⟨w5.heap.size, 0, none⟩ 1 1 [.int .i64 (k : Int)] rfl rfl hna (by simp [Value.oneCell']) (by omega) (by unfold maxLen; omega) (by omega) hBa _ rfl ?_
                   intro g2 cap2 w6 hown6 hgrow6 hat6 hlt6
                   have k6 : Fr (fun b => (Value.slice pa2 npl pc2).ownBlock = some b) w5 w6 := (Fr.alloc _ _).trans (Fr.grown hgrow6)
                   have ho6 := k6.obj H5.out.1 hnpv
                   have q9 : w6.cell? ⟨ab, 9, none⟩ = some (.slice pa2 npl pc2) := k6.cell y9 hnpv
                   have f9 := obj_frozen ho6 9)
      go_end0
      have hlow6 : Below B w (w6.setCell ⟨ab, 9, none⟩ (.slice (some ⟨g2, 0, none⟩) (npl + 1) cap2)) :=
        H5.out.2.2.2.2.trans ((k6.below (by omega) fun b e => (ownObj HPV.out.2.2 b e).1).trans ((Fr.setCell w6 ⟨ab, 9, none⟩ _).below (by have := (Array.getElem?_eq_some_iff.1 ho6).1; omega) fun b e => by have e' : b = ab := e; omega))
      refine red_next (sv' := .slice (some ⟨g, 0, none⟩) (m + 1) cap) (pv' := .slice (some ⟨g2, 0, none⟩) (npl + 1) cap2) (L' := L.take m ++ [((z, ⟨(k : Int), 0, foOf ((L.drop m).map fun x => x.1.2)⟩), .slice ka fl kc)]) (by rw [HSN.out]; exact HM.out) (by rw [HP.out, HRL.out, HNN.out]; omega) (by rw [HP.out, HRL.out, HNN.out, HMN.out.1, HZ.out.1]; have := HZN.out; omega) hlow6 (M5.out.trans ((mk_own HPV.out.2.2 k6).trans (mk_set (i := 9) ho6 (.slice (some ⟨g2, 0, none⟩) (npl + 1) cap2)))) ?_
      rw [HP.out, HRL.out, HNN.out, HMN.out.1, HZ.out.1, HSN.out]
      refine ⟨by simpa using setCell_obj ho6 (i := 9) (.slice (some ⟨g2, 0, none⟩) (npl + 1) cap2), ?_, ?_, fun x hx => kids_set ho6 (by decide) (kids_own HPV.out.2.2 (by decide) k6 (H5.out.2.2.2.1 x hx)), ?_⟩
      · rw [List.length_append, htm, List.flatMap_append]
        exact own_structS (i := 9) ho6 (own_otherS HPV.out.2.2 k6 H5.out.2.2.1 (by decide)) (by decide)
      · rw [List.map_append, List.map_take, H.out.1.row]
        congr 3
        rw [← H.out.1.row, ← List.map_drop, List.map_map]
        rfl
      · simp only [List.length_append, HPV.out.2.1, List.map_append]
        exact own_structS (i := 9) ho6 hown6 (by decide)
end Go.Proofs.Ytpnihegmhalcfaa
