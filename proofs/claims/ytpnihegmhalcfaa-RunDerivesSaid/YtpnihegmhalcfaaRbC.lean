/-
  gristmilllaw25: yields, of a tree that derives; count.
-/
import Derived.Test.YtpnihegmhalcfaaRbB
import Derived.Test.YtpnihegmhalcfaaRunG36
namespace Go.Proofs.Ytpnihegmhalcfaa
open Go.RowKit
set_option maxHeartbeats 400000

theorem derF_at {G : Gram} {terms : List Int} : ∀ {f : Fo} {rs : List Int} {p q : Nat}, DerF G terms f rs p q → f.len = rs.length ∧ ∃ m : Nat → Nat, m 0 = p ∧ m f.len = q ∧ ∀ i, i < f.len → DerT G terms (f.get i) (rs.getD i 0) (m i) (m (i + 1))
  | .nil, rs, p, q, h => by
    obtain ⟨rfl, rfl⟩ := h
    exact ⟨rfl, fun _ => p, rfl, rfl, fun i hi => by simp [Fo.len] at hi⟩
  | .cons pr a k r, rs, p, q, h => by
    obtain ⟨s, rs', m1, rfl, h1, h2⟩ := derF_cons.1 h
    obtain ⟨hl, m, e0, e1, h3⟩ := derF_at h2
    refine ⟨by simp [Fo.len, hl], fun i => match i with | 0 => p | i + 1 => m i, rfl, e1, fun i hi => ?_⟩
    cases i with
    | zero =>
      have : DerT G terms ⟨pr, a, k⟩ s p (m 0) := by rw [e0]; exact h1
      exact this
    | succ i => exact h3 i (by simpa [Fo.len] using hi)
theorem derT_le {G : Gram} {terms : List Int} : ∀ {t : Tr} {s : Int} {p q : Nat}, DerT G terms t s p q → p ≤ q ∧ (p ≤ terms.length → q ≤ terms.length) := by
  have key : ∀ f : Fo, ∀ {rs : List Int} {p q : Nat}, DerF G terms f rs p q → p ≤ q ∧ (p ≤ terms.length → q ≤ terms.length) := by
    intro f
    induction f with
    | nil => intro rs p q ⟨_, h⟩; subst h; exact ⟨Nat.le_refl _, id⟩
    | cons pr a k r ihk ihr =>
      intro rs p q h
      obtain ⟨s, rs', m, -, h1, h2⟩ := derF_cons.1 h
      have h3 := ihr h2
      rcases h1 with ⟨-, -, -, e, hlt, -⟩ | ⟨-, -, -, -, h4⟩
      · exact ⟨by omega, fun _ => h3.2 (by omega)⟩
      · have h4 := ihk h4
        exact ⟨by omega, fun h => h3.2 (h4.2 h)⟩
  intro t s p q h
  rcases h with ⟨-, -, -, e, hlt, -⟩ | ⟨-, -, -, -, h4⟩
  · exact ⟨by omega, fun _ => by omega⟩
  · exact key _ h4

/-- yields tells where a tree that derives ends. -/
def YieldsT (G : Gram) (terms : List Int) (t : Tr) : Prop := ∀ (w : World) (gv xv nv : Value) (s : Int) (p q : Nat), IsGram w gv G → IsTree w xv t → Ints w nv terms → DerT G terms t s p q → p ≤ terms.length →
  Calls Try.prog 14 #[gv, xv, .int .i64 s, nv, .int .i64 (p : Int)] w fun e w' => e = .returned (.int .i64 (q : Int)) ∧ Below w.heap.size w w'

set_option maxRecDepth 100000 in
set_option maxHeartbeats 4000000 in
theorem yields_of {G : Gram} {terms : List Int} (hr : rightG G = true) (hl : terms.length ≤ 100000) (t : Tr) (hk : ∀ i, i < t.kids.len → YieldsT G terms (t.kids.get i)) : YieldsT G terms t := by
  intro w gv xv nv s p q hg hx hn hd hp
  obtain ⟨_, vs, vp, rfl, hs, hpv⟩ := id hg
  obtain ⟨-, sa, sc, rfl, -, -, -⟩ := id hs
  obtain ⟨-, pa, pc, rfl, -, -, -⟩ := id hpv
  obtain ⟨-, -, na, nc, rfl, -, -, -⟩ := id hn
  obtain ⟨kv, rfl, hkv⟩ := hx
  obtain ⟨ka, kc, hkve, hkc, hkm, hkx⟩ := id hkv
  have hxx := two_boxes w (grO G sa pa sc pc) (.cells #[.int .i64 t.p, .int .i64 t.a, kv] 40 (0, 0))
  unfold grO at hxx
  have HX := Lib.hid hxx
  have HG := Lib.hid (And.intro hg hn)
  have HK := Lib.hid hk
  have HKV := Lib.hid hkx
  clear hg hs hpv hn hk hxx hkx hkv
  subst hkve
  rcases hd with ⟨d1, d2, d3, d4, d5, d6⟩ | ⟨d1, d2, d3, d4, d5⟩
  · obtain ⟨tp, ta, tk⟩ := t
    simp only at d1 d2 d3
    subst d1 d2 d3 d4
    have hat := (HG.out.2.fr (Fr.new HX.out.2.2)).at d5
    obtain ⟨nb, no, rfl, -, hnc, x0, -⟩ := hat
    have hv : terms[p] = s := by rw [← d6, List.getD_eq_getElem?_getD, List.getElem?_eq_getElem d5]; rfl
    rw [hv] at x0
    clear d6 hv HK HKV HG
    have hn2 := hl
    generalize terms.length = n at *
    have b1 : decide ((n : Int) ≤ (p : Int)) = false := decide_eq_false (by omega)
    have b2 : (s != s) = false := by simp
    have b3 : ((p : Int) != (p : Int)) = false := by simp
    have e1 : IntKind.i64.wrap ((p : Int) + 1) = (p : Int) + 1 := IntWalk.i64_in _ (by omega)
    simp only [Fo.len] at HX hkc x0 ⊢
    go_enter Try.func14, Try.ntmps14
    go_upto_region 1 with fail
    generalize (w.alloc (Obj.cells #[.int .i64 G.terms, .slice sa G.syms.length sc, .slice pa G.prods.length pc] 25 (0, 0))).alloc (Obj.cells #[.int .i64 (-1), .int .i64 (p : Int), .slice ka 0 kc] 40 (0, 0)) = W1 at *
    have t0 := obj_cell HX.out.2.1 0 (v := .int .i64 (-1)) rfl
    have t1 := obj_cell HX.out.2.1 1 (v := .int .i64 (p : Int)) rfl
    have t2 := obj_cell HX.out.2.1 2 (v := .slice ka 0 kc) rfl
    have b4 : decide (n ≤ p) = false := decide_eq_false (by omega)
    go_wp2
    go_ret
    exact ⟨by simp, HX.out.2.2⟩
  · obtain ⟨k, hk0⟩ : ∃ k : Nat, t.p = (k : Int) := ⟨t.p.toNat, by omega⟩
    have hkl : k < G.prods.length := by omega
    have hpk : prdAt G t.p = G.prods[k] := by
      unfold prdAt
      rw [hk0, Int.toNat_natCast, List.getD_eq_getElem?_getD, List.getElem?_eq_getElem hkl]
      rfl
    rw [hpk] at d4 d5
    obtain ⟨hlen, m, em0, em1, hm⟩ := derF_at d5
    have hrl := (right_side hr k hkl).1
    have hHR := (right_side hr k hkl).2
    obtain ⟨tp, ta, tk⟩ := t
    simp only at d1 d2 d3 hk0 hlen em1 hm HX HK HKV hkc hkm ⊢
    subst d3 hk0
    have hcell : ∀ W, Below W.heap.size W W → True := fun _ _ => trivial
    clear hcell d5 hpk
    have HM := Lib.hid (And.intro hm (And.intro em0 em1))
    have HR := Lib.hid hHR
    obtain ⟨n, hnl⟩ : ∃ n, tk.len = n := ⟨_, rfl⟩
    rw [hnl] at hlen hkc HX em1 ⊢
    have HN := Lib.hid hnl
    clear hm em0 em1 hnl hHR
    obtain ⟨qb, qo, ra, rc, rfl, hri, -, hcx⟩ := IsGram.prd (HG.out.1.fr (Fr.new HX.out.2.2)) k hkl
    have y0 := hcx 0 (by simp [prdCells])
    have y1 := hcx 1 (by simp [prdCells])
    simp only [prdCells, List.getElem_cons_zero, List.getElem_cons_succ, Nat.add_zero] at y0 y1
    rw [d4] at y0
    rw [← hlen] at y1 hri
    have HRI := Lib.hid hri
    clear hcx hri
    generalize G.prods[k].right = rs at *
    have HLEN := Lib.hid hlen
    have hnk := hkl
    have hn10 : n ≤ 10 := by rw [hlen]; exact hrl
    clear hlen
    obtain ⟨pn, hpn2⟩ : ∃ pn, G.prods.length = pn := ⟨_, rfl⟩
    rw [hpn2] at HX d2 HG y0 y1 HRI ⊢
    have hkl2 : k < pn := by rw [← hpn2]; exact hnk
    have b0 : ((k : Int) == -1) = false := beq_eq_false_iff_ne.2 (by omega)
    have b1 : decide ((k : Int) < 1) = false := decide_eq_false (by omega)
    have b2 : decide ((pn : Int) ≤ (k : Int)) = false := decide_eq_false (by omega)
    have b2' : decide (pn ≤ k) = false := decide_eq_false (by omega)
    have b3 : (s != s) = false := by simp
    have b4 : ((n : Int) != (n : Int)) = false := by simp
    go_enter Try.func14, Try.ntmps14
    go_upto_region 1 with fail
    generalize (w.alloc (Obj.cells #[.int .i64 G.terms, .slice sa G.syms.length sc, .slice (some ⟨qb, qo, none⟩) pn pc] 25 (0, 0))).alloc (Obj.cells #[.int .i64 (k : Int), .int .i64 0, .slice ka n kc] 40 (0, 0)) = W1 at *
    have g0 := obj_cell HX.out.1 0 (v := .int .i64 G.terms) rfl
    have g1 := obj_cell HX.out.1 1 (v := .slice sa G.syms.length sc) rfl
    have g2 := obj_cell HX.out.1 2 (v := .slice (some ⟨qb, qo, none⟩) pn pc) rfl
    have t0 := obj_cell HX.out.2.1 0 (v := .int .i64 (k : Int)) rfl
    have t1 := obj_cell HX.out.2.1 1 (v := .int .i64 0) rfl
    have t2 := obj_cell HX.out.2.1 2 (v := .slice ka n kc) rfl
    have HMI := Lib.hid (show ∀ i, i ≤ n → m i ≤ terms.length from fun i => by
      induction i with
      | zero => intro _; rw [HM.out.2.1]; exact hp
      | succ i ih => intro hi; exact (derT_le (HM.out.1 i (by rw [HN.out]; omega))).2 (ih (by omega)))
    have HHN := Lib.hid hp
    clear hp
    go_upto_region 5 with fail
    go_quiet (fail)
    go_upto_region 7 with fail
    have kd := Fr.drewN (ch := nothing) W1 nq
    refine wp_atW (F := fun W => Fr nothing W1 W ∧ Below W1.heap.size W1 W) ⟨Fr.new (below_drewN (Below.refl _ _) nq), below_drewN (Below.refl _ _) nq⟩ ?_
    rintro W2 ⟨k2, hb2⟩
    go_upto_region 8 with fail
    go_loopw [4, 11] (fun av iv wr => ∃ i : Nat, i ≤ n ∧ av = .int .i64 (m i : Int) ∧ iv = .int .i64 (i : Int) ∧ Below W1.heap.size W1 wr) (fun _ iv _ => n - (intOf iv).toNat)
    case atStart => exact ⟨0, Nat.zero_le _, by rw [HM.out.2.1], rfl, hb2⟩
    case round =>
      obtain ⟨i, hi, rfl, rfl, hb⟩ := hrel
      have kw := Fr.new hb
      have g2 := kw.cell g2 id
      have t0 := kw.cell t0 id
      have t2 := kw.cell t2 id
      have y1 := kw.cell y1 id
      by_cases hlt : i < n
      · have hif : i < tk.len := by rw [HN.out]; exact hlt
        have hne : tk ≠ .nil := fun e => by rw [e] at hif; simp [Fo.len] at hif
        obtain ⟨kb, ko, rfl, tr⟩ : ∃ kb ko, ka = some ⟨kb, ko, none⟩ ∧ TrAt wr (fun _ => True) kb (ko + i * 3) (tk.get i) := by
          rcases HKV.out with h | ⟨g, o, e, -, h⟩
          · exact absurd h hne
          · exact ⟨g, o, e, (h.fr ((Fr.new HX.out.2.2).trans kw) (fun _ _ _ => id) (fun _ _ _ => trivial) id).at hif⟩
        obtain ⟨rb, ro, rfl, -, hrc, z0, hz⟩ := (HRI.out.fr kw).at (by rw [← HLEN.out]; exact hlt)
        have hgr := (HG.out.1.fr (Fr.new HX.out.2.2)).fr kw
        have hns := (HG.out.2.fr (Fr.new HX.out.2.2)).fr kw
        have hgd : rs.getD i 0 = rs[i]'(by rw [← HLEN.out]; exact hlt) := by rw [List.getD_eq_getElem?_getD, List.getElem?_eq_getElem (by rw [← HLEN.out]; exact hlt)]; rfl
        have hdi := HM.out.1 i hif
        rw [hgd] at hdi
        generalize rs[i]'(by rw [← HLEN.out]; exact hlt) = x at *
        have hQ := HK.out i hif
        have hpi := HMI.out i hi
        generalize tk.get i = t at *
        obtain ⟨p0, p1, kv2, p2, hk2'⟩ := tr
        have HC := Lib.hid fun q : After wr => after_call q (hQ q.w _ (.agg #[.int .i64 t.p, .int .i64 t.a, kv2]) _ x (m i) (m (i + 1)) (hgr.fr (Fr.new q.ok)) (IsTree.fr ⟨_, rfl, hk2'⟩ (Fr.new q.ok)) (hns.fr (Fr.new q.ok)) hdi hpi)
        obtain ⟨ka2, kc2, rfl, -, -, -⟩ := hk2'
        have HB := Lib.hid hb
        have g0 := kw.cell g0 id
        have g1 := kw.cell g1 id
        have dz : decide ((m (i + 1) : Int) < 0) = false := decide_eq_false (by omega)
        clear hQ kw hb hgr hns hdi hpi hgd hz
        generalize t.kids.len = kn at *
        generalize t.p = tp at *
        generalize t.a = ta at *
        have hne := after_ne wr
        have g0 := after_cell g0
        have g1 := after_cell g1
        have g2 := after_cell g2
        have t0 := after_cell t0
        have t2 := after_cell t2
        have y1 := after_cell y1
        have z0 := after_cell z0
        have p0 := after_cell p0
        have p1 := after_cell p1
        have p2 := after_cell p2
        have t2r := t2 ⟨wr, Below.refl _ _⟩
        go_upto_region 10 with fail
        refine wp_region_after wr (by kernel_rfl) (by kernel_rfl) (Below.refl _ _) ?_
        repeat (go_big_quiet_step (exact HC.out _))
        refine wpQuiet_nil ?_
        intro _ hw'
        obtain ⟨pw, hw''⟩ := hw'
        subst hw''
        go_wp2
        go_roundw
        case rel => exact ⟨i + 1, by omega, rfl, by simp, HB.out.trans (pw.ok.mono HB.out.size)⟩
        case measure => simp [intOf]; omega
      · obtain rfl : i = n := by omega
        go_wp2
        go_ret
        exact ⟨by have h := HM.out.2.2; rw [HN.out] at h; rw [h]; rfl, HX.out.2.2.trans (hb.mono HX.out.2.2.size)⟩
end Go.Proofs.Ytpnihegmhalcfaa
