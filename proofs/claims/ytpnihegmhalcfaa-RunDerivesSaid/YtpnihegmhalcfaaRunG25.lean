/-
  Lookaheads as they are read; gristmillref23: aheads (of those that may be).
-/
import Derived.Test.YtpnihegmhalcfaaRunG24
import Derived.Test.YtpnihegmhalcfaaRunG12
namespace Go.Proofs.Ytpnihegmhalcfaa
open Go.RowKit Go.MapKept Go.ChangeMaps
set_option maxHeartbeats 400000

def AhAt (w : World) (b o : Nat) (x : Ah) : Prop := i64 x.1 ∧ i64 x.2.1 ∧ ∃ r, Ints w r x.2.2 ∧ Cells w b o [.int .i64 x.1, .int .i64 x.2.1, r]
def IsAheads (w : World) (v : Value) (l : List Ah) : Prop := Rows' v 3 (AhAt w) l
theorem AhAt.fr {w w' : World} {b o : Nat} {x : Ah} (h : AhAt w b o x) (k : Fr nothing w w') : AhAt w' b o x := by
  obtain ⟨h1, h2, r, h3, h4⟩ := h
  exact ⟨h1, h2, r, h3.fr k, h4.fr k id⟩
theorem IsAheads.fr {w w' : World} {v : Value} {l : List Ah} (h : IsAheads w v l) (k : Fr nothing w w') : IsAheads w' v l := Rows'.mono h fun _ _ _ h => h.fr k
theorem IsAheads.parts {w : World} {v : Value} {l : List Ah} (h : IsAheads w v l) : ∃ a c, v = .slice a l.length c ∧ l.length ≤ c ∧ c ≤ maxLen ∧ l.length ≤ 17592186044416 := by
  obtain ⟨h1, a, c, hv, h2, h3, _⟩ := h
  exact ⟨a, c, hv, h2, h3, h1⟩
theorem IsAheads.at {w : World} {a : Option Addr} {n c : Nat} {l : List Ah} (h : IsAheads w (.slice a n c) l) {k : Nat} (hk : k < l.length) :
    ∃ b o ra rc, a = some ⟨b, o, none⟩ ∧ w.cell? ⟨b, o + k * 3, none⟩ = some (.int .i64 l[k].1) ∧ w.cell? ⟨b, o + k * 3 + 1, none⟩ = some (.int .i64 l[k].2.1) ∧ w.cell? ⟨b, o + k * 3 + 2, none⟩ = some (.slice ra l[k].2.2.length rc) ∧ Ints w (.slice ra l[k].2.2.length rc) l[k].2.2 := by
  obtain ⟨h1, a', c', e, h2, h3, h4⟩ := h
  simp only [Value.slice.injEq] at e
  obtain ⟨rfl, rfl, rfl⟩ := e
  rcases h4 with rfl | ⟨b, o, rfl, hx⟩
  · simp at hk
  · obtain ⟨-, -, r, hr, hc⟩ := hx k hk
    obtain ⟨-, -, ra, rc, rfl, -, -, -⟩ := id hr
    have c0 := hc 0 (by simp)
    have c1 := hc 1 (by simp)
    have c2 := hc 2 (by simp)
    simp only [List.getElem_cons_zero, List.getElem_cons_succ, Nat.add_zero] at c0 c1 c2
    exact ⟨b, o, ra, rc, rfl, c0, c1, c2, hr⟩
theorem zip_flat_at {l : List Ah} {vs : List Value} (hl : l.length = vs.length) {i : Nat} (hi : i < vs.length) (j : Nat) (hj : j < 3) :
    ((l.zip vs).flatMap fun x => [Value.int .i64 x.1.1, .int .i64 x.1.2.1, x.2])[i * 3 + j]? = [Value.int .i64 (l[i]'(by omega)).1, .int .i64 (l[i]'(by omega)).2.1, vs[i]][j]? := by
  have hz : i < (l.zip vs).length := by rw [List.length_zip]; omega
  have := flat_get (fun x : Ah × Value => [Value.int .i64 x.1.1, .int .i64 x.1.2.1, x.2]) 3 (fun _ => rfl) (l.zip vs) i j hz hj
  rw [List.getElem_zip] at this
  exact this
theorem zip_flat_len (l : List (Ah × Value)) : (l.flatMap fun x => [Value.int .i64 x.1.1, .int .i64 x.1.2.1, x.2]).length = l.length * 3 := by
  induction l with
  | nil => rfl
  | cons x l ih => rw [List.flatMap_cons, List.length_append, ih, List.length_cons]; simp; omega
theorem AhM.aheads {w : World} {B : Nat} {v : Value} {vs : List Value} {l : List Ah} (h : AhM w B v vs l) (hs : ∀ x ∈ l, i64 x.1 ∧ i64 x.2.1 ∧ (∀ t ∈ x.2.2, -9223372036854775808 ≤ t ∧ t ≤ 9223372036854775807) ∧ x.2.2.length ≤ 1000000) (hl : l.length ≤ 1000000) : IsAheads w v l := by
  obtain ⟨a, c, hv, h1, h2, h3⟩ := own_as_cells2 h.own
  have hlen := h.len
  refine ⟨by omega, a, c, by rw [hv, hlen], by omega, h2, ?_⟩
  rcases h3 with h3 | ⟨g, rfl, _, hc⟩
  · left
    have := zip_flat_len (l.zip vs)
    rw [h3] at this
    simp only [List.length_nil, List.length_zip] at this
    exact List.eq_nil_of_length_eq_zero (by omega)
  · refine .inr ⟨g, 0, rfl, fun i hi => ?_⟩
    have hi' : i < vs.length := by omega
    obtain ⟨s1, s2, s3, s4⟩ := hs _ (List.getElem_mem hi)
    refine ⟨s1, s2, vs[i], own_ints (h.row i hi') s3 (by omega), fun j hj => ?_⟩
    have hj3 : j < 3 := by simpa using hj
    have hlt : i * 3 + j < ((l.zip vs).flatMap fun x => [Value.int .i64 x.1.1, .int .i64 x.1.2.1, x.2]).length := by rw [zip_flat_len, List.length_zip]; omega
    have h5 := hc (i * 3 + j) hlt
    have h6 := zip_flat_at hlen hi' j hj3
    rw [List.getElem?_eq_getElem hlt, List.getElem?_eq_getElem hj] at h6
    simp only [Nat.zero_add, Option.some.injEq] at h5 h6 ⊢
    rw [h5, h6]

/-- Lookaheads that may be, of n states, p productions, t terminals. -/
structure AhGood (n p t : Nat) (l : List Ah) : Prop where
  state : ∀ x ∈ l, 0 ≤ x.1 ∧ x.1 < (n : Int)
  prod : ∀ x ∈ l, 1 ≤ x.2.1 ∧ x.2.1 < (p : Int)
  rise : ∀ i (h : i + 1 < l.length), l[i].1 < l[i + 1].1 ∨ l[i].1 = l[i + 1].1 ∧ l[i].2.1 < l[i + 1].2.1
  term : ∀ x ∈ l, ∀ y ∈ x.2.2, 0 ≤ y ∧ y < (t : Int)
  terms : ∀ x ∈ l, ∀ i (h : i + 1 < x.2.2.length), x.2.2[i] < x.2.2[i + 1]

set_option maxRecDepth 100000 in
set_option maxHeartbeats 8000000 in
theorem aheads23_any (G : Gram) (v lv : Value) (l : List Ah) (n : Nat) (w : World) (h : IsGram w v G) (hl : IsAheads w lv l) (hg : AhGood n G.prods.length G.terms.toNat l) (htl : 0 ≤ G.terms ∧ G.terms ≤ 1000) :
    Calls Try.prog 58 #[v, .int .i64 (n : Int), lv] w fun e w' => e = .returned (.bool true) ∧ Below w.heap.size w w' := by
  have hG := h
  obtain ⟨hterms, vs, vp, rfl, hs, hp⟩ := h
  obtain ⟨-, sa, sc, rfl, -, -, -⟩ := id hs
  obtain ⟨-, pa, pc, rfl, -, -, -⟩ := id hp
  obtain ⟨la, lc, rfl, -, -, hll⟩ := id hl.parts
  have hS0 : Stands w.heap.size w G sa pa sc pc (w.alloc (grO G sa pa sc pc)) := ⟨alloc_obj _ _, hG.fr (Fr.alloc _ _), (Below.refl _ w).alloc (Nat.le_refl _) _⟩
  have HS0 := Lib.hid hS0
  obtain ⟨tn, htn⟩ : ∃ tn : Nat, G.terms = (tn : Int) := ⟨G.terms.toNat, by omega⟩
  have htn' : G.terms.toNat = tn := by omega
  rw [htn'] at hg
  have HTN := Lib.hid htn
  have HL := Lib.hid hl
  have HGD := Lib.hid hg
  obtain ⟨m, hm⟩ : ∃ m, l.length = m := ⟨_, rfl⟩
  rw [hm] at hll HL ⊢
  have HM := Lib.hid hm
  have htn1 : tn ≤ 1000 := by omega
  clear hS0 hs hp hG hl hg hm htn htn' htl
  go_enter Try.func58, Try.ntmps58
  go_upto_region 1 with fail
  unfold grO at HS0
  generalize hw1 : w.alloc (Obj.cells #[.int .i64 G.terms, .slice sa G.syms.length sc, .slice pa G.prods.length pc] 25 (0, 0)) = W1 at *
  clear hw1
  go_wp2
  go_loopw [7, 8, 9] (fun iv _ _ wr => ∃ i : Nat, i ≤ m ∧ iv = .int .i64 (i : Int) ∧ Below W1.heap.size W1 wr) (fun iv _ _ _ => m - (intOf iv).toNat)
  case atStart => exact ⟨0, Nat.zero_le _, rfl, Below.refl _ _⟩
  case round =>
    obtain ⟨i, hi, rfl, hbel⟩ := hrel
    have hS := HS0.out.keep hbel
    by_cases hlt : i < m
    · have hil : i < l.length := by rw [HM.out]; exact hlt
      have hlW := HL.out.fr (Fr.new hS.below)
      obtain ⟨lb, lo, ra, rc, rfl, c0, c1, c2, hri⟩ := hlW.at hil
      obtain ⟨x0, x1⟩ := HGD.out.state _ (List.getElem_mem hil)
      obtain ⟨x2, x3⟩ := HGD.out.prod _ (List.getElem_mem hil)
      have hprev : 0 < i → ∃ ps pp : Int, wr.cell? ⟨lb, lo + (i - 1) * 3, none⟩ = some (.int .i64 ps) ∧ wr.cell? ⟨lb, lo + (i - 1) * 3 + 1, none⟩ = some (.int .i64 pp) ∧ (ps < l[i].1 ∨ ps = l[i].1 ∧ pp < l[i].2.1) := fun h0 => by
        have hi1 : i - 1 < l.length := by omega
        obtain ⟨lb', lo', ra', rc', e, c0', c1', -, -⟩ := hlW.at hi1
        simp only [Option.some.injEq, Addr.mk.injEq, and_true] at e
        obtain ⟨rfl, rfl⟩ := e
        refine ⟨_, _, c0', c1', ?_⟩
        have := HGD.out.rise (i - 1) (by omega)
        simp only [show i - 1 + 1 = i by omega] at this
        exact this
      have hterm := HGD.out.term _ (List.getElem_mem hil)
      have hterms := HGD.out.terms _ (List.getElem_mem hil)
      have HX := Lib.hid (And.intro hri (And.intro hterm hterms))
      have HB := Lib.hid (And.intro hbel hS)
      have HPV := Lib.hid hprev
      have hrl := hri.2.1
      clear hlW hri hterm hterms hbel hS hprev
      generalize l[i] = x at *
      clear hil
      obtain ⟨xs, xp, xt⟩ := x
      simp only at c0 c1 c2 x0 x1 x2 x3 HX HPV hrl
      obtain ⟨s, rfl⟩ : ∃ s : Nat, xs = s := ⟨xs.toNat, by omega⟩
      obtain ⟨p, rfl⟩ : ∃ p : Nat, xp = p := ⟨xp.toNat, by omega⟩
      generalize hSZ : wr.heap.size = sz at *
      go_upto_region 5 with fail
      refine wp_at (F := fun W => W.heap[sz]? = some (.cells #[.int .i64 (s : Int), .int .i64 (p : Int), .slice ra xt.length rc] 123 (0, 0)) ∧ Fr nothing wr W) ⟨?_, ?_⟩ ?_
      · rw [← hSZ]
        exact alloc_obj _ _
      · exact Fr.alloc _ _
      rintro wB ⟨hob, hkB⟩
      have a0 := obj_cell hob 0 (v := .int .i64 (s : Int)) rfl
      have a1 := obj_cell hob 1 (v := .int .i64 (p : Int)) rfl
      have a2 := obj_cell hob 2 (v := .slice ra xt.length rc) rfl
      have hSB := HB.out.2.keep hkB.below_new
      have d0 := hSB.d0
      have d2 := hSB.d2
      rw [HTN.out] at d0
      have HBB := Lib.hid (HB.out.1.trans (hkB.below HB.out.1.size fun _ e => e.elim))
      have HRI := Lib.hid (HX.out.1.fr hkB)
      have q1 : ¬ (s : Int) < 0 := by omega
      have q2 : ¬ n ≤ s := by omega
      have q3 : ¬ (p : Int) < 1 := by omega
      have q4 : ¬ G.prods.length ≤ p := by omega
      have q1' : decide ((s : Int) < 0) = false := decide_eq_false q1
      have q2' : decide (n ≤ s) = false := decide_eq_false q2
      have q3' : decide ((p : Int) < 1) = false := decide_eq_false q3
      have q4' : decide (G.prods.length ≤ p) = false := decide_eq_false q4
      have hpv : 0 < i → ∃ ps pp : Int, wB.cell? ⟨lb, lo + (i - 1) * 3, none⟩ = some (.int .i64 ps) ∧ wB.cell? ⟨lb, lo + (i - 1) * 3 + 1, none⟩ = some (.int .i64 pp) ∧ (ps < (s : Int) ∨ ps = (s : Int) ∧ pp < (p : Int)) := fun h0 => by
        obtain ⟨ps, pp, e1, e2, e3⟩ := HPV.out h0
        exact ⟨ps, pp, hkB.cell e1 id, hkB.cell e2 id, e3⟩
      have HPV2 := Lib.hid hpv
      clear hob hkB hSB hpv HPV HB c0 c1 c2
      go_upto_region 7 with fail
      -- the way behind the test
      have hways : (i = 0) ∨ (0 < i ∧ ∃ ps pp : Int, wB.cell? ⟨lb, lo + (i - 1) * 3, none⟩ = some (.int .i64 ps) ∧ wB.cell? ⟨lb, lo + (i - 1) * 3 + 1, none⟩ = some (.int .i64 pp) ∧ (ps < (s : Int) ∨ ps = (s : Int) ∧ pp < (p : Int))) := by
        rcases Nat.eq_zero_or_pos i with h | h
        · exact .inl h
        · exact .inr ⟨h, HPV2.out h⟩
      rcases hways with h0 | ⟨h0, ps, pp, c0, c1, hlt2 | ⟨rfl, hlt2⟩⟩
      · subst h0
        go_quiet (fail)
        have hk5 : Fr nothing wB (wB.drewN nq) := Fr.drewN _ _
        have a2 := hk5.cell a2 id
        have d0 := hk5.cell d0 id
        have HR5 := Lib.hid (HRI.out.fr hk5)
        have HB5 := Lib.hid (HBB.out.trans (hk5.below HBB.out.size fun _ e => e.elim))
        generalize wB.drewN nq = w5 at *
        clear hk5
        go_wp2
        go_loopw [9] (fun kv wr => ∃ k : Nat, k ≤ xt.length ∧ kv = .int .i64 (k : Int) ∧ ∃ q, wr = w5.drewN q) (fun kv _ => xt.length - (intOf kv).toNat)
        case atStart => exact ⟨0, Nat.zero_le _, rfl, 0, rfl⟩
        case round =>
          obtain ⟨k, hk, rfl, q, hq⟩ := hrel
          have hfr : Fr nothing w5 wr := by rw [hq]; exact Fr.drewN _ _
          have HQ := Lib.hid (And.intro hq hfr)
          have a2 := hfr.cell a2 id
          have d0 := hfr.cell d0 id
          clear hq
          by_cases hltk : k < xt.length
          · obtain ⟨tb, tq, rfl, -, -, r0, -⟩ := intsAt (HR5.out.fr hfr) hltk
            obtain ⟨t0, t1⟩ := HX.out.2.1 _ (List.getElem_mem hltk)
            rcases Nat.eq_zero_or_pos k with h0 | h0
            · subst h0
              rw [Nat.add_zero] at r0
              clear hfr
              generalize xt[0] = tv at *
              obtain ⟨t, rfl⟩ : ∃ t : Nat, tv = t := ⟨tv.toNat, by omega⟩
              have q5 : ¬ (t : Int) < 0 := by omega
              have q6 : ¬ tn ≤ t := by omega
              have q5' : decide ((t : Int) < 0) = false := decide_eq_false q5
              have q6' : decide (tn ≤ t) = false := decide_eq_false q6
              go_upto_region 12 with fail
              go_quiet (fail)
              go_wp2
              go_roundw
              case rel => exact ⟨0 + 1, by omega, by simp, _, by rw [HQ.out.1, World.drewN_drewN]⟩
              case measure => simp [intOf]; omega
            · have hk1 : k - 1 < xt.length := by omega
              obtain ⟨tb', tq', e, -, -, r1, -⟩ := intsAt (HR5.out.fr hfr) hk1
              simp only [Option.some.injEq, Addr.mk.injEq, and_true] at e
              obtain ⟨rfl, rfl⟩ := e
              have hris := HX.out.2.2 (k - 1) (by omega)
              simp only [show k - 1 + 1 = k by omega] at hris
              clear hfr
              generalize xt[k] = tv at *
              generalize xt[k - 1] = tu at *
              obtain ⟨t, rfl⟩ : ∃ t : Nat, tv = t := ⟨tv.toNat, by omega⟩
              have q5 : ¬ (t : Int) < 0 := by omega
              have q6 : ¬ tn ≤ t := by omega
              have q5' : decide ((t : Int) < 0) = false := decide_eq_false q5
              have q6' : decide (tn ≤ t) = false := decide_eq_false q6
              have q7 : ¬ (t : Int) ≤ tu := by omega
              have q7' : decide ((t : Int) ≤ tu) = false := decide_eq_false q7
              have hsub : IntKind.i64.wrap ((k : Int) - 1) = ((k - 1 : Nat) : Int) := by rw [IntWalk.i64_in _ (by omega)]; omega
              go_upto_region 12 with fail
              go_quiet (fail)
              go_wp2
              go_roundw
              case rel => exact ⟨k + 1, by omega, by simp, _, by rw [HQ.out.1, World.drewN_drewN]⟩
              case measure => simp [intOf]; omega
          · have HE := Lib.hid (HB5.out.trans (hfr.below HB5.out.size fun _ e => e.elim))
            clear hfr
            go_wp2
            go_roundw
            case rel => exact ⟨0 + 1, by omega, by simp, HE.out⟩
            case measure => simp [intOf]; omega
      · have hsub : IntKind.i64.wrap ((i : Int) - 1) = ((i - 1 : Nat) : Int) := by rw [IntWalk.i64_in _ (by omega)]; omega
        have q5 : ¬ (s : Int) < ps := by omega
        have q6 : ¬ ps = (s : Int) := by omega
        have q5' : decide ((s : Int) < ps) = false := decide_eq_false q5
        have q6' : (ps == (s : Int)) = false := beq_eq_false_iff_ne.2 q6
        go_quiet (fail)
        have hk5 : Fr nothing wB (wB.drewN nq) := Fr.drewN _ _
        have a2 := hk5.cell a2 id
        have d0 := hk5.cell d0 id
        have HR5 := Lib.hid (HRI.out.fr hk5)
        have HB5 := Lib.hid (HBB.out.trans (hk5.below HBB.out.size fun _ e => e.elim))
        generalize wB.drewN nq = w5 at *
        clear hk5
        go_wp2
        go_loopw [9] (fun kv wr => ∃ k : Nat, k ≤ xt.length ∧ kv = .int .i64 (k : Int) ∧ ∃ q, wr = w5.drewN q) (fun kv _ => xt.length - (intOf kv).toNat)
        case atStart => exact ⟨0, Nat.zero_le _, rfl, 0, rfl⟩
        case round =>
          obtain ⟨k, hk, rfl, q, hq⟩ := hrel
          have hfr : Fr nothing w5 wr := by rw [hq]; exact Fr.drewN _ _
          have HQ := Lib.hid (And.intro hq hfr)
          have a2 := hfr.cell a2 id
          have d0 := hfr.cell d0 id
          clear hq
          by_cases hltk : k < xt.length
          · obtain ⟨tb, tq, rfl, -, -, r0, -⟩ := intsAt (HR5.out.fr hfr) hltk
            obtain ⟨t0, t1⟩ := HX.out.2.1 _ (List.getElem_mem hltk)
            rcases Nat.eq_zero_or_pos k with h0 | h0
            · subst h0
              rw [Nat.add_zero] at r0
              clear hfr
              generalize xt[0] = tv at *
              obtain ⟨t, rfl⟩ : ∃ t : Nat, tv = t := ⟨tv.toNat, by omega⟩
              have q5 : ¬ (t : Int) < 0 := by omega
              have q6 : ¬ tn ≤ t := by omega
              have q5' : decide ((t : Int) < 0) = false := decide_eq_false q5
              have q6' : decide (tn ≤ t) = false := decide_eq_false q6
              go_upto_region 12 with fail
              go_quiet (fail)
              go_wp2
              go_roundw
              case rel => exact ⟨0 + 1, by omega, by simp, _, by rw [HQ.out.1, World.drewN_drewN]⟩
              case measure => simp [intOf]; omega
            · have hk1 : k - 1 < xt.length := by omega
              obtain ⟨tb', tq', e, -, -, r1, -⟩ := intsAt (HR5.out.fr hfr) hk1
              simp only [Option.some.injEq, Addr.mk.injEq, and_true] at e
              obtain ⟨rfl, rfl⟩ := e
              have hris := HX.out.2.2 (k - 1) (by omega)
              simp only [show k - 1 + 1 = k by omega] at hris
              clear hfr
              generalize xt[k] = tv at *
              generalize xt[k - 1] = tu at *
              obtain ⟨t, rfl⟩ : ∃ t : Nat, tv = t := ⟨tv.toNat, by omega⟩
              have q5 : ¬ (t : Int) < 0 := by omega
              have q6 : ¬ tn ≤ t := by omega
              have q5' : decide ((t : Int) < 0) = false := decide_eq_false q5
              have q6' : decide (tn ≤ t) = false := decide_eq_false q6
              have q7 : ¬ (t : Int) ≤ tu := by omega
              have q7' : decide ((t : Int) ≤ tu) = false := decide_eq_false q7
              have hsub : IntKind.i64.wrap ((k : Int) - 1) = ((k - 1 : Nat) : Int) := by rw [IntWalk.i64_in _ (by omega)]; omega
              go_upto_region 12 with fail
              go_quiet (fail)
              go_wp2
              go_roundw
              case rel => exact ⟨k + 1, by omega, by simp, _, by rw [HQ.out.1, World.drewN_drewN]⟩
              case measure => simp [intOf]; omega
          · have HE := Lib.hid (HB5.out.trans (hfr.below HB5.out.size fun _ e => e.elim))
            clear hfr
            go_wp2
            go_roundw
            case rel => exact ⟨i + 1, by omega, by simp, HE.out⟩
            case measure => simp [intOf]; omega
      · have hsub : IntKind.i64.wrap ((i : Int) - 1) = ((i - 1 : Nat) : Int) := by rw [IntWalk.i64_in _ (by omega)]; omega
        have q7 : ¬ (p : Int) ≤ pp := by omega
        have q7' : decide ((p : Int) ≤ pp) = false := decide_eq_false q7
        go_quiet (fail)
        have hk5 : Fr nothing wB (wB.drewN nq) := Fr.drewN _ _
        have a2 := hk5.cell a2 id
        have d0 := hk5.cell d0 id
        have HR5 := Lib.hid (HRI.out.fr hk5)
        have HB5 := Lib.hid (HBB.out.trans (hk5.below HBB.out.size fun _ e => e.elim))
        generalize wB.drewN nq = w5 at *
        clear hk5
        go_wp2
        go_loopw [9] (fun kv wr => ∃ k : Nat, k ≤ xt.length ∧ kv = .int .i64 (k : Int) ∧ ∃ q, wr = w5.drewN q) (fun kv _ => xt.length - (intOf kv).toNat)
        case atStart => exact ⟨0, Nat.zero_le _, rfl, 0, rfl⟩
        case round =>
          obtain ⟨k, hk, rfl, q, hq⟩ := hrel
          have hfr : Fr nothing w5 wr := by rw [hq]; exact Fr.drewN _ _
          have HQ := Lib.hid (And.intro hq hfr)
          have a2 := hfr.cell a2 id
          have d0 := hfr.cell d0 id
          clear hq
          by_cases hltk : k < xt.length
          · obtain ⟨tb, tq, rfl, -, -, r0, -⟩ := intsAt (HR5.out.fr hfr) hltk
            obtain ⟨t0, t1⟩ := HX.out.2.1 _ (List.getElem_mem hltk)
            rcases Nat.eq_zero_or_pos k with h0 | h0
            · subst h0
              rw [Nat.add_zero] at r0
              clear hfr
              generalize xt[0] = tv at *
              obtain ⟨t, rfl⟩ : ∃ t : Nat, tv = t := ⟨tv.toNat, by omega⟩
              have q5 : ¬ (t : Int) < 0 := by omega
              have q6 : ¬ tn ≤ t := by omega
              have q5' : decide ((t : Int) < 0) = false := decide_eq_false q5
              have q6' : decide (tn ≤ t) = false := decide_eq_false q6
              go_upto_region 12 with fail
              go_quiet (fail)
              go_wp2
              go_roundw
              case rel => exact ⟨0 + 1, by omega, by simp, _, by rw [HQ.out.1, World.drewN_drewN]⟩
              case measure => simp [intOf]; omega
            · have hk1 : k - 1 < xt.length := by omega
              obtain ⟨tb', tq', e, -, -, r1, -⟩ := intsAt (HR5.out.fr hfr) hk1
              simp only [Option.some.injEq, Addr.mk.injEq, and_true] at e
              obtain ⟨rfl, rfl⟩ := e
              have hris := HX.out.2.2 (k - 1) (by omega)
              simp only [show k - 1 + 1 = k by omega] at hris
              clear hfr
              generalize xt[k] = tv at *
              generalize xt[k - 1] = tu at *
              obtain ⟨t, rfl⟩ : ∃ t : Nat, tv = t := ⟨tv.toNat, by omega⟩
              have q5 : ¬ (t : Int) < 0 := by omega
              have q6 : ¬ tn ≤ t := by omega
              have q5' : decide ((t : Int) < 0) = false := decide_eq_false q5
              have q6' : decide (tn ≤ t) = false := decide_eq_false q6
              have q7 : ¬ (t : Int) ≤ tu := by omega
              have q7' : decide ((t : Int) ≤ tu) = false := decide_eq_false q7
              have hsub : IntKind.i64.wrap ((k : Int) - 1) = ((k - 1 : Nat) : Int) := by rw [IntWalk.i64_in _ (by omega)]; omega
              go_upto_region 12 with fail
              go_quiet (fail)
              go_wp2
              go_roundw
              case rel => exact ⟨k + 1, by omega, by simp, _, by rw [HQ.out.1, World.drewN_drewN]⟩
              case measure => simp [intOf]; omega
          · have HE := Lib.hid (HB5.out.trans (hfr.below HB5.out.size fun _ e => e.elim))
            clear hfr
            go_wp2
            go_roundw
            case rel => exact ⟨i + 1, by omega, by simp, HE.out⟩
            case measure => simp [intOf]; omega
    · have HE := Lib.hid hS.below
      clear hbel hS
      go_wp2
      go_ret
      exact ⟨rfl, HE.out⟩
end Go.Proofs.Ytpnihegmhalcfaa
