/-
  Trees in memory; gristmillkit: SameTree, SameTrees of what is one.
  gristmillref23: entry, Right.
  Package run: an automaton in memory; fail, top, next, accept, refuse.
-/
import Derived.Test.YtpnihegmhalcfaaRunG28
import Derived.Test.YtpnihegmhalcfaaRunG03
namespace Go.Proofs.Ytpnihegmhalcfaa
open Go.RowKit
set_option maxHeartbeats 400000

/-- Trees at a place on; P: where the lists of their parts may lie. -/
def IsFo (w : World) (P : Nat → Prop) : Fo → Nat → Nat → Prop
  | .nil, _, _ => True
  | .cons p a k r, g, o => (w.cell? ⟨g, o, none⟩ = some (.int .i64 p) ∧ w.cell? ⟨g, o + 1, none⟩ = some (.int .i64 a) ∧
      ∃ ka kc, w.cell? ⟨g, o + 2, none⟩ = some (.slice ka k.len kc) ∧ k.len ≤ kc ∧ kc ≤ maxLen ∧ (k = .nil ∨ ∃ g' o', ka = some ⟨g', o', none⟩ ∧ P g' ∧ IsFo w P k g' o')) ∧ IsFo w P r g (o + 3)
/-- A list of a tree's parts. -/
def KidsV (w : World) (P : Nat → Prop) (k : Fo) (v : Value) : Prop :=
  ∃ ka kc, v = .slice ka k.len kc ∧ k.len ≤ kc ∧ kc ≤ maxLen ∧ (k = .nil ∨ ∃ g o, ka = some ⟨g, o, none⟩ ∧ P g ∧ IsFo w P k g o)
def TrAt (w : World) (P : Nat → Prop) (g o : Nat) (t : Tr) : Prop := w.cell? ⟨g, o, none⟩ = some (.int .i64 t.p) ∧ w.cell? ⟨g, o + 1, none⟩ = some (.int .i64 t.a) ∧ ∃ v, w.cell? ⟨g, o + 2, none⟩ = some v ∧ KidsV w P t.kids v
theorem isFo_cons {w : World} {P : Nat → Prop} {p a : Int} {k r : Fo} {g o : Nat} : IsFo w P (.cons p a k r) g o ↔ TrAt w P g o ⟨p, a, k⟩ ∧ IsFo w P r g (o + 3) := by
  constructor
  · rintro ⟨⟨h1, h2, ka, kc, h3, h4⟩, h5⟩
    exact ⟨⟨h1, h2, _, h3, ka, kc, rfl, h4⟩, h5⟩
  · rintro ⟨⟨h1, h2, v, h3, ka, kc, rfl, h4⟩, h5⟩
    exact ⟨⟨h1, h2, ka, kc, h3, h4⟩, h5⟩
theorem cell_lt {w : World} {g o : Nat} {v : Value} (h : w.cell? ⟨g, o, none⟩ = some v) : g < w.heap.size := by
  refine Classical.byContradiction fun hn => ?_
  have : w.heap[g]? = none := Array.getElem?_eq_none (by omega)
  simp [World.cell?, this] at h
theorem IsFo.fr {ch P Q : Nat → Prop} {w w' : World} (k : Fr ch w w') (hP : ∀ b, b < w.heap.size → P b → ¬ ch b) (hQ : ∀ b, b < w.heap.size → P b → Q b) : ∀ {f : Fo} {g o : Nat}, ¬ ch g → IsFo w P f g o → IsFo w' Q f g o
  | .nil, _, _, _, _ => trivial
  | .cons p a kk r, g, o, hg, h => by
    obtain ⟨⟨h1, h2, ka, kc, h3, h4, h5, h6⟩, h7⟩ := h
    refine ⟨⟨k.cell h1 hg, k.cell h2 hg, ka, kc, k.cell h3 hg, h4, h5, ?_⟩, IsFo.fr k hP hQ hg h7⟩
    rcases h6 with h6 | ⟨g', o', e, hp, h6⟩
    · exact .inl h6
    · cases kk with
      | nil => exact .inl rfl
      | cons p' a' k' r' =>
        have hl := cell_lt h6.1.1
        exact .inr ⟨g', o', e, hQ g' hl hp, IsFo.fr k hP hQ (hP g' hl hp) h6⟩
theorem KidsV.fr {ch P Q : Nat → Prop} {w w' : World} {f : Fo} {v : Value} (h : KidsV w P f v) (k : Fr ch w w') (hP : ∀ b, b < w.heap.size → P b → ¬ ch b) (hQ : ∀ b, b < w.heap.size → P b → Q b) : KidsV w' Q f v := by
  obtain ⟨ka, kc, hv, h4, h5, h6⟩ := h
  refine ⟨ka, kc, hv, h4, h5, ?_⟩
  rcases h6 with h6 | ⟨g', o', e, hp, h6⟩
  · exact .inl h6
  · cases f with
    | nil => exact .inl rfl
    | cons p' a' k' r' =>
      have hl := cell_lt h6.1.1
      exact .inr ⟨g', o', e, hQ g' hl hp, IsFo.fr k hP hQ (hP g' hl hp) h6⟩
theorem KidsV.nil {w : World} {P : Nat → Prop} {a : Option Addr} {c : Nat} (hc : c ≤ maxLen) : KidsV w P .nil (.slice a 0 c) := ⟨a, c, rfl, Nat.zero_le _, hc, .inl rfl⟩
def Fo.get : Fo → Nat → Tr
  | .nil, _ => noTr
  | .cons p a k _, 0 => ⟨p, a, k⟩
  | .cons _ _ _ r, i + 1 => r.get i
theorem IsFo.at {w : World} {P : Nat → Prop} : ∀ {f : Fo} {g o i : Nat}, IsFo w P f g o → i < f.len → TrAt w P g (o + i * 3) (f.get i)
  | .nil, _, _, _, _, h => by simp [Fo.len] at h
  | .cons p a k r, g, o, 0, h, _ => by
    have := (isFo_cons.1 h).1
    simpa [Fo.get] using this
  | .cons p a k r, g, o, i + 1, h, hi => by
    have := IsFo.at (i := i) (isFo_cons.1 h).2 (by simpa [Fo.len] using hi)
    rw [show o + (i + 1) * 3 = o + 3 + i * 3 by omega]
    exact this
theorem isFo_of {w : World} {P : Nat → Prop} {g : Nat} : ∀ {l : List Tr} {o : Nat}, (∀ i (hi : i < l.length), TrAt w P g (o + i * 3) l[i]) → IsFo w P (foOf l) g o
  | [], _, _ => trivial
  | t :: r, o, h => by
    refine isFo_cons.2 ⟨by have h0 := h 0 (by simp); simp only [Nat.zero_mul, Nat.add_zero, List.getElem_cons_zero] at h0; exact h0, isFo_of fun i hi => ?_⟩
    have := h (i + 1) (by simpa using hi)
    rw [show o + (i + 1) * 3 = o + 3 + i * 3 by omega] at this
    simpa using this
/-- Over all trees, if it holds wherever it holds of all parts. -/
theorem Fo.all {Q : Fo → Prop} (H : ∀ f : Fo, (∀ i, i < f.len → Q (f.get i).kids) → Q f) (f : Fo) : Q f := by
  have key : ∀ f : Fo, Q f ∧ ∀ i, i < f.len → Q (f.get i).kids := by
    intro f
    induction f with
    | nil => exact ⟨H .nil fun i hi => by simp [Fo.len] at hi, fun i hi => by simp [Fo.len] at hi⟩
    | cons p a k r ihk ihr =>
      have h : ∀ i, i < (Fo.cons p a k r).len → Q ((Fo.cons p a k r).get i).kids := fun i hi => by
        cases i with
        | zero => exact ihk.1
        | succ i => exact ihr.2 i (by simpa [Fo.len] using hi)
      exact ⟨H _ h, h⟩
  exact (key f).1
/-- A tree as a value. -/
def IsTree (w : World) (v : Value) (t : Tr) : Prop := ∃ kv, v = .agg #[.int .i64 t.p, .int .i64 t.a, kv] ∧ KidsV w (fun _ => True) t.kids kv
theorem IsTree.fr {w w' : World} {v : Value} {t : Tr} (h : IsTree w v t) (k : Fr nothing w w') : IsTree w' v t := by
  obtain ⟨kv, hv, h⟩ := h
  exact ⟨kv, hv, h.fr k (fun _ _ _ => id) fun _ _ _ => trivial⟩
theorem KidsV.any {w : World} {P : Nat → Prop} {f : Fo} {v : Value} (h : KidsV w P f v) : KidsV w (fun _ => True) f v := h.fr (Fr.refl (ch := nothing) w) (fun _ _ _ => id) fun _ _ _ => trivial

def TreesSame (f : Fo) : Prop := ∀ (w : World) (v1 v2 : Value), KidsV w (fun _ => True) f v1 → KidsV w (fun _ => True) f v2 →
  Calls Try.prog 42 #[v1, v2] w fun e w' => e = .returned (.bool true) ∧ Below w.heap.size w w'

set_option maxRecDepth 100000 in
set_option maxHeartbeats 4000000 in
theorem sameTree_of (t : Tr) (w : World) (v1 v2 : Value) (h1 : IsTree w v1 t) (h2 : IsTree w v2 t) (hk : TreesSame t.kids) :
    Calls Try.prog 23 #[v1, v2] w fun e w' => e = .returned (.bool true) ∧ Below w.heap.size w w' := by
  obtain ⟨k1, rfl, h1⟩ := h1
  obtain ⟨k2, rfl, h2⟩ := h2
  obtain ⟨p, a, k⟩ := t
  simp only at h1 h2 hk ⊢
  obtain ⟨k1a, k1c, hk1, -, -, -⟩ := id h1
  obtain ⟨k2a, k2c, hk2, -, -, -⟩ := id h2
  have hx := two_boxes w (.cells #[.int .i64 p, .int .i64 a, k1] 40 (0, 0)) (.cells #[.int .i64 p, .int .i64 a, k2] 40 (0, 0))
  obtain ⟨w1, hw1⟩ : ∃ w1, w1 = (w.alloc (.cells #[.int .i64 p, .int .i64 a, k1] 40 (0, 0))).alloc (.cells #[.int .i64 p, .int .i64 a, k2] 40 (0, 0)) := ⟨_, rfl⟩
  rw [← hw1] at hx
  have x0 : w1.cell? ⟨w.heap.size, 0, none⟩ = some (.int .i64 p) := obj_cell hx.1 0 rfl
  have x1 : w1.cell? ⟨w.heap.size, 1, none⟩ = some (.int .i64 a) := obj_cell hx.1 1 rfl
  have x2 : w1.cell? ⟨w.heap.size, 2, none⟩ = some k1 := obj_cell hx.1 2 rfl
  have y0 : w1.cell? ⟨w.heap.size + 1, 0, none⟩ = some (.int .i64 p) := obj_cell hx.2.1 0 rfl
  have y1 : w1.cell? ⟨w.heap.size + 1, 1, none⟩ = some (.int .i64 a) := obj_cell hx.2.1 1 rfl
  have y2 : w1.cell? ⟨w.heap.size + 1, 2, none⟩ = some k2 := obj_cell hx.2.1 2 rfl
  have kk := Fr.new hx.2.2
  have HC := Lib.hid (hk w1 k1 k2 (h1.fr kk (fun _ _ _ => id) fun _ _ _ => trivial) (h2.fr kk (fun _ _ _ => id) fun _ _ _ => trivial))
  have HB := Lib.hid hx.2.2
  subst hk1
  subst hk2
  have HW := Lib.hid hw1
  clear hx hw1 h1 h2 hk kk
  generalize k.len = kn at *
  go_enter Try.func23, Try.ntmps23
  go_upto_region 1 with fail
  rw [← HW.out]
  go_wp2_with (go_at_call 42; refine HC.out.mono ?_; rintro e w2 ⟨rfl, hb2⟩)
  go_ret
  exact ⟨rfl, HB.out.trans (hb2.mono HB.out.size)⟩

set_option maxRecDepth 100000 in
set_option maxHeartbeats 4000000 in
theorem sameTrees_any (f : Fo) : TreesSame f := by
  refine Fo.all (fun f ih => ?_) f
  intro w v1 v2 h1 h2
  obtain ⟨k1, c1, rfl, hl1, hc1, hx1⟩ := h1
  obtain ⟨k2, c2, rfl, -, hc2, hx2⟩ := h2
  have HI := Lib.hid ih
  have HX := Lib.hid (And.intro hx1 hx2)
  clear ih hx1 hx2
  obtain ⟨n, hn⟩ : ∃ n, f.len = n := ⟨_, rfl⟩
  rw [hn] at hl1 ⊢
  have hnb : n ≤ 9223372036854775807 := by unfold maxLen at hc1; omega
  have HN := Lib.hid hn
  clear hn hl1 hc1 hc2
  go_enter Try.func42, Try.ntmps42
  go_wp2
  go_loopw [5] (fun iv wr => ∃ i : Nat, i ≤ n ∧ iv = .int .i64 (i : Int) ∧ Below w.heap.size w wr) (fun iv _ => n - (intOf iv).toNat)
  case atStart => exact ⟨0, Nat.zero_le _, rfl, Below.refl _ _⟩
  case round =>
    obtain ⟨i, hi, rfl, hb⟩ := hrel
    by_cases hlt : i < n
    · have hif : i < f.len := by rw [HN.out]; exact hlt
      have hne : f ≠ .nil := fun e => by rw [e] at hif; simp [Fo.len] at hif
      have kw := Fr.new hb
      obtain ⟨g1, o1, rfl, t1⟩ : ∃ g o, k1 = some ⟨g, o, none⟩ ∧ TrAt wr (fun _ => True) g (o + i * 3) (f.get i) := by
        rcases HX.out.1 with h | ⟨g, o, e, -, h⟩
        · exact absurd h hne
        · exact ⟨g, o, e, (h.fr kw (fun _ _ _ => id) (fun _ _ _ => trivial) id).at hif⟩
      obtain ⟨g2, o2, rfl, t2⟩ : ∃ g o, k2 = some ⟨g, o, none⟩ ∧ TrAt wr (fun _ => True) g (o + i * 3) (f.get i) := by
        rcases HX.out.2 with h | ⟨g, o, e, -, h⟩
        · exact absurd h hne
        · exact ⟨g, o, e, (h.fr kw (fun _ _ _ => id) (fun _ _ _ => trivial) id).at hif⟩
      have hQ := HI.out i hif
      generalize f.get i = t at *
      obtain ⟨p0, p1, kv1, p2, hk1⟩ := t1
      obtain ⟨q0, q1, kv2, q2, hk2⟩ := t2
      have HC := Lib.hid fun p : After wr => after_call p (sameTree_of t p.w (.agg #[.int .i64 t.p, .int .i64 t.a, kv1]) (.agg #[.int .i64 t.p, .int .i64 t.a, kv2]) (IsTree.fr ⟨_, rfl, hk1⟩ (Fr.new p.ok)) (IsTree.fr ⟨_, rfl, hk2⟩ (Fr.new p.ok)) hQ)
      obtain ⟨ka1, kc1, rfl, -, -, -⟩ := hk1
      obtain ⟨ka2, kc2, rfl, -, -, -⟩ := hk2
      have HB := Lib.hid hb
      clear hQ kw hb
      generalize t.kids.len = kn at *
      generalize t.p = tp at *
      generalize t.a = ta at *
      have hne := after_ne wr
      have p0 := after_cell p0
      have p1 := after_cell p1
      have p2 := after_cell p2
      have q0 := after_cell q0
      have q1 := after_cell q1
      have q2 := after_cell q2
      go_upto_region 6 with fail
      refine wp_region_after wr (by kernel_rfl) (by kernel_rfl) (Below.refl _ _) ?_
      repeat (go_big_quiet_step (exact HC.out _))
      refine wpQuiet_nil ?_
      intro _ hw'
      obtain ⟨pw, hw''⟩ := hw'
      subst hw''
      go_wp2
      go_roundw
      case rel => exact ⟨i + 1, by omega, by simp, HB.out.trans (pw.ok.mono HB.out.size)⟩
      case measure => simp [intOf]; omega
    · obtain rfl : i = n := by omega
      go_wp2
      go_ret
      exact ⟨rfl, hb⟩
theorem sameTree_any (t : Tr) (w : World) (v1 v2 : Value) (h1 : IsTree w v1 t) (h2 : IsTree w v2 t) :
    Calls Try.prog 23 #[v1, v2] w fun e w' => e = .returned (.bool true) ∧ Below w.heap.size w w' := sameTree_of t w v1 v2 h1 h2 (sameTrees_any t.kids)
end Go.Proofs.Ytpnihegmhalcfaa
namespace Go.Proofs.Ytpnihegmhalcfaa
open Go.RowKit
set_option maxHeartbeats 400000

set_option maxRecDepth 100000 in
set_option maxHeartbeats 4000000 in
theorem entry23_any (G : Gram) (v : Value) (n : Nat) (t : Int) (x : Ac) (w : World) (h : IsGram w v G) :
    Calls Try.prog 78 #[v, .int .i64 (n : Int), .int .i64 t, .agg #[.int .u8 x.kind, .int .i64 x.dst]] w fun e w' => e = .returned (.bool (entryB G n t x)) ∧ Below w.heap.size w w' := by
  obtain ⟨kind, dst⟩ := x
  obtain ⟨_, vs, vp, rfl, hs, hp⟩ := id h
  obtain ⟨-, sa, sc, rfl, -, -, -⟩ := id hs
  obtain ⟨-, pa, pc, rfl, -, -, -⟩ := id hp
  have hx := two_boxes w (grO G sa pa sc pc) (.cells #[.int .u8 kind, .int .i64 dst] 81 (0, 0))
  unfold grO at hx
  obtain ⟨w1, hw1⟩ : ∃ w1, w1 = (w.alloc (.cells #[.int .i64 G.terms, .slice sa G.syms.length sc, .slice pa G.prods.length pc] 25 (0, 0))).alloc (.cells #[.int .u8 kind, .int .i64 dst] 81 (0, 0)) := ⟨_, rfl⟩
  rw [← hw1] at hx
  have x2 : w1.cell? ⟨w.heap.size, 2, none⟩ = some (.slice pa G.prods.length pc) := obj_cell hx.1 2 rfl
  have y0 : w1.cell? ⟨w.heap.size + 1, 0, none⟩ = some (.int .u8 kind) := obj_cell hx.2.1 0 rfl
  have y1 : w1.cell? ⟨w.heap.size + 1, 1, none⟩ = some (.int .i64 dst) := obj_cell hx.2.1 1 rfl
  have HB := Lib.hid hx.2.2
  have HW := Lib.hid hw1
  clear hx hw1 h hs hp
  unfold entryB
  generalize G.prods.length = np at *
  generalize G.syms.length = ns at *
  simp only
  by_cases k0 : kind = 0
  · subst k0
    rw [if_pos rfl]
    go_enter Try.func78, Try.ntmps78
    go_upto_region 1 with fail
    rw [← HW.out]
    go_wp2
    go_ret
    exact ⟨rfl, HB.out⟩
  have b0 : (kind == 0) = false := beq_eq_false_iff_ne.2 k0
  rw [if_neg k0]
  by_cases k3 : kind = 3
  · subst k3
    rw [if_pos rfl]
    clear k0
    go_enter Try.func78, Try.ntmps78
    go_upto_region 1 with fail
    rw [← HW.out]
    go_wp2
    go_ret
    exact ⟨rfl, HB.out⟩
  have b3 : (kind == 3) = false := beq_eq_false_iff_ne.2 k3
  rw [if_neg k3]
  by_cases k1 : kind = 1
  · subst k1
    rw [if_pos rfl]
    clear k0 k3
    by_cases h1 : 0 < t
    · have d1 : decide (0 < t) = true := decide_eq_true h1
      by_cases h2 : 0 ≤ dst
      · have d2 : decide (0 ≤ dst) = true := decide_eq_true h2
        rw [d1, d2, Bool.true_and, Bool.true_and]
        clear h1 h2
        go_enter Try.func78, Try.ntmps78
        go_upto_region 1 with fail
        rw [← HW.out]
        go_wp2
        go_ret
        exact ⟨rfl, HB.out⟩
      · have d2 : decide (0 ≤ dst) = false := decide_eq_false h2
        rw [d1, d2, Bool.true_and, Bool.false_and]
        clear h1 h2
        go_enter Try.func78, Try.ntmps78
        go_upto_region 1 with fail
        rw [← HW.out]
        go_wp2
        go_ret
        exact ⟨rfl, HB.out⟩
    · have d1 : decide (0 < t) = false := decide_eq_false h1
      rw [d1, Bool.false_and]
      clear h1
      go_enter Try.func78, Try.ntmps78
      go_upto_region 1 with fail
      rw [← HW.out]
      go_wp2
      go_ret
      exact ⟨rfl, HB.out⟩
  have b1 : (kind == 1) = false := beq_eq_false_iff_ne.2 k1
  rw [if_neg k1]
  by_cases k2 : kind = 2
  · subst k2
    rw [if_pos rfl]
    clear k0 k3 k1
    by_cases h2 : 1 ≤ dst
    · have d2 : decide (1 ≤ dst) = true := decide_eq_true h2
      rw [d2, Bool.true_and]
      clear h2
      go_enter Try.func78, Try.ntmps78
      go_upto_region 1 with fail
      rw [← HW.out]
      go_wp2
      go_ret
      exact ⟨rfl, HB.out⟩
    · have d2 : decide (1 ≤ dst) = false := decide_eq_false h2
      rw [d2, Bool.false_and]
      clear h2
      go_enter Try.func78, Try.ntmps78
      go_upto_region 1 with fail
      rw [← HW.out]
      go_wp2
      go_ret
      exact ⟨rfl, HB.out⟩
  have b2 : (kind == 2) = false := beq_eq_false_iff_ne.2 k2
  rw [if_neg k2]
  clear k0 k1 k2 k3
  go_enter Try.func78, Try.ntmps78
  go_upto_region 1 with fail
  rw [← HW.out]
  go_wp2
  go_ret
  exact ⟨rfl, HB.out⟩

theorem rightT_eq {G : Gram} {T : Tbl} (hr : rightG G = true) (h1 : 1 ≤ T.acts.length) (h2 : T.acts.length ≤ 256) (h3 : T.gotos.length = T.acts.length) : rightT G T = rowsB G T.acts.length T.acts T.gotos := by
  unfold rightT
  rw [hr, decide_eq_true h1, decide_eq_true h2, decide_eq_true h3]
  rfl
theorem rowB_len {G : Gram} {n : Nat} {a : List Ac} {g : List Int} (h : (a.length : Int) ≠ G.terms ∨ (g.length : Int) ≠ (G.syms.length : Int) - G.terms) : rowB G n a g = false := by
  unfold rowB
  rcases h with h | h
  · rw [decide_eq_false h]; rfl
  · rw [decide_eq_false h]; simp
theorem rowB_ent {G : Gram} {n j : Nat} {a : List Ac} {g : List Int} (hj : j < a.length) (h : entryB G n (j : Int) a[j] = false) : rowB G n a g = false := by
  unfold rowB
  rw [entsB_off a 0 j hj (by simpa using h), Bool.and_false]
theorem rowB_goto {G : Gram} {n j : Nat} {a : List Ac} {g : List Int} (hj : j < g.length) (h : g[j] < -1 ∨ (n : Int) ≤ g[j]) : rowB G n a g = false := by
  have : gotosB n g = false := by
    unfold gotosB
    rw [List.all_eq_false]
    refine ⟨g[j], List.getElem_mem hj, ?_⟩
    rcases h with h | h
    · simp [h]
    · simp [h]
  unfold rowB
  rw [this, Bool.and_false, Bool.false_and]
theorem rowB_all {G : Gram} {n : Nat} {a : List Ac} {g : List Int} (h1 : (a.length : Int) = G.terms) (h2 : (g.length : Int) = (G.syms.length : Int) - G.terms) (h3 : ∀ j (hj : j < a.length), entryB G n (j : Int) a[j] = true) (h4 : ∀ j (hj : j < g.length), ¬ (g[j] < -1) ∧ ¬ ((n : Int) ≤ g[j])) : rowB G n a g = true := by
  have hg : gotosB n g = true := by
    unfold gotosB
    rw [List.all_eq_true]
    intro x hx
    obtain ⟨j, hj, rfl⟩ := List.getElem_of_mem hx
    obtain ⟨h5, h6⟩ := h4 j hj
    simp only [decide_eq_false h5, decide_eq_false h6]
    rfl
  unfold rowB
  rw [decide_eq_true h1, decide_eq_true h2, hg, entsB_all a 0 fun k hk => by simpa using h3 k hk]
  rfl
theorem actRows_fr {w w' : World} {v : Value} {l : List (List Ac)} (h : Rows' v 1 (ActRow w) l) (k : Fr nothing w w') : Rows' v 1 (ActRow w') l := Rows'.mono h fun _ _ _ ⟨r, h3, h4⟩ => ⟨r, k.cell h3 id, h4.fr k⟩
theorem numRows_fr {w w' : World} {v : Value} {l : List (List Int)} (h : Rows' v 1 (NumRow w) l) (k : Fr nothing w w') : Rows' v 1 (NumRow w') l := Rows'.mono h fun _ _ _ ⟨r, h3, h4⟩ => ⟨r, k.cell h3 id, h4.fr k⟩
end Go.Proofs.Ytpnihegmhalcfaa
namespace Go.Proofs.Ytpnihegmhalcfaa
open Go.RowKit Go.MapKept Go.ChangeMaps
set_option maxHeartbeats 400000

def errV (e : Int) : Value := .iface 41 (.int .i64 e)
theorem fail_no (e : Int) (w : World) : Calls Try.prog 67 #[.bool false, .int .i64 e] w fun x w' => x = .returned (.tuple #[]) ∧ w = w' := by
  go_enter Try.func67, Try.ntmps67
  go_wp2
  go_end0
  exact ⟨rfl, rfl⟩
theorem fail_yes (e : Int) (w : World) : Calls Try.prog 67 #[.bool true, .int .i64 e] w fun x w' => x = .panicked [{ v := errV e, recovered := false }] ∧ w = w' := by
  go_enter Try.func67, Try.ntmps67
  go_wp2
  exact ⟨rfl, rfl, rfl⟩

/-! The automaton's block. -/
structure AuA where
  sa : Option Addr
  pa : Option Addr
  aa : Option Addr
  ga : Option Addr
  ta : Option Addr
  sc : Nat
  pc : Nat
  ac : Nat
  gc : Nat
  tc : Nat
def stC (x : (Int × Tr) × Value) : List Value := [.int .i64 x.1.1, .int .i64 x.1.2.p, .int .i64 x.1.2.a, x.2]
def isTr (B : Nat) (w : World) (b : Nat) : Prop := B ≤ b ∧ ∃ cs f, w.heap[b]? = some (.cells cs 40 f)
structure AuM (w : World) (B ab : Nat) (A : AuA) (G : Gram) (T : Tbl) (terms : List Int) (sv pv : Value) (L : List ((Int × Tr) × Value)) (st : Au) : Prop where
  obj : w.heap[ab]? = some (.cells #[.int .i64 G.terms, .slice A.sa G.syms.length A.sc, .slice A.pa G.prods.length A.pc, .slice A.aa T.acts.length A.ac, .slice A.ga T.gotos.length A.gc, .slice A.ta terms.length A.tc, sv, .int .i64 (st.pos : Int), .int .i64 (st.since : Int), pv] 88 (0, 0))
  own : w.ownsRow B 90 4 sv L.length (L.flatMap stC)
  row : L.map Prod.fst = st.stack
  kids : ∀ x ∈ L, KidsV w (isTr B w) x.1.2.kids x.2
  prods : w.ownsRow B 3 1 pv st.prods.length (st.prods.map (Value.int .i64))
theorem AuM.len {w : World} {B ab : Nat} {A : AuA} {G : Gram} {T : Tbl} {terms : List Int} {sv pv : Value} {L : List ((Int × Tr) × Value)} {st : Au} (h : AuM w B ab A G T terms sv pv L st) : L.length = st.stack.length := by
  rw [← h.row, List.length_map]
theorem isTr_fr {ch : Nat → Prop} {w w' : World} (k : Fr ch w w') {Bt b : Nat} (h : isTr Bt w b) (hc : ¬ ch b) : isTr Bt w' b := by
  obtain ⟨hB, cs, f, h⟩ := h
  exact ⟨hB, cs, f, k.obj h hc⟩
theorem kids_fr {ch : Nat → Prop} {w w' : World} {Bt : Nat} {f : Fo} {v : Value} (h : KidsV w (isTr Bt w) f v) (k : Fr ch w w') (hc : ∀ b, b < w.heap.size → isTr Bt w b → ¬ ch b) : KidsV w' (isTr Bt w') f v :=
  h.fr k hc fun b hb hp => isTr_fr k hp (hc b hb hp)
theorem AuM.fr {ch : Nat → Prop} {w w' : World} {B ab : Nat} {A : AuA} {G : Gram} {T : Tbl} {terms : List Int} {sv pv : Value} {L : List ((Int × Tr) × Value)} {st : Au} (h : AuM w B ab A G T terms sv pv L st) (k : Fr ch w w') (hc : ∀ b, b < w.heap.size → ¬ ch b) : AuM w' B ab A G T terms sv pv L st :=
  ⟨k.obj h.obj (hc _ (Array.getElem?_eq_some_iff.1 h.obj).1), own_fr h.own k fun g hg => hc g (by obtain ⟨_, cs, hcs⟩ := ownObj h.own g hg; exact (Array.getElem?_eq_some_iff.1 hcs).1), h.row,
    fun x hx => kids_fr (h.kids x hx) k fun b hb _ => hc b hb, own_fr h.prods k fun g hg => hc g (by obtain ⟨_, cs, hcs⟩ := ownObj h.prods g hg; exact (Array.getElem?_eq_some_iff.1 hcs).1)⟩
theorem AuM.keep {w w' : World} {B ab : Nat} {A : AuA} {G : Gram} {T : Tbl} {terms : List Int} {sv pv : Value} {L : List ((Int × Tr) × Value)} {st : Au} (h : AuM w B ab A G T terms sv pv L st) (k : Fr nothing w w') : AuM w' B ab A G T terms sv pv L st := h.fr k fun _ _ => id
theorem stC_len (L : List ((Int × Tr) × Value)) : (L.flatMap stC).length = L.length * 4 := by
  induction L with
  | nil => rfl
  | cons x L ih => rw [List.flatMap_cons, List.length_append, ih, List.length_cons]; simp [stC]; omega
/-- The row of states, at one of them. -/
theorem st_cell {w : World} {B : Nat} {sv : Value} {L : List ((Int × Tr) × Value)} (h : w.ownsRow B 90 4 sv L.length (L.flatMap stC)) (i : Nat) (hi : i < L.length) :
    ∃ g c, sv = .slice (some ⟨g, 0, none⟩) L.length c ∧ B ≤ g ∧ L.length ≤ c ∧ c ≤ maxLen ∧ w.cell? ⟨g, i * 4, none⟩ = some (.int .i64 L[i].1.1) ∧ w.cell? ⟨g, i * 4 + 1, none⟩ = some (.int .i64 L[i].1.2.p) ∧ w.cell? ⟨g, i * 4 + 2, none⟩ = some (.int .i64 L[i].1.2.a) ∧ w.cell? ⟨g, i * 4 + 3, none⟩ = some L[i].2 := by
  obtain ⟨h1, h2 | ⟨g, c, cur, rfl, hb, hg, r1, r2, r3, r4⟩⟩ := h
  · omega
  · have key : ∀ j, j < 4 → w.cell? ⟨g, i * 4 + j, none⟩ = (stC L[i])[j]? := fun j hj => by
      have h3 := flat_get stC 4 (fun _ => rfl) L i j hi hj
      have h4 := World.ownsRow.cellAt (w := w) (base := B) ⟨h1, .inr ⟨g, c, cur, rfl, hb, hg, r1, r2, r3, r4⟩⟩ (i * 4 + j) (by omega)
      rw [h4, h3]
    exact ⟨g, c, rfl, hb, r1, r2, key 0 (by omega), key 1 (by omega), key 2 (by omega), key 3 (by omega)⟩
theorem own_take {w : World} {B e size g n c m : Nat} {xs : List Value} (h : w.ownsRow B e size (.slice (some ⟨g, 0, none⟩) n c) n xs) (hm : m ≤ n) : w.ownsRow B e size (.slice (some ⟨g, 0, none⟩) m c) m (xs.take (m * size)) := by
  obtain ⟨h1, h2 | ⟨g', c', cur, e', hb, hg, r1, r2, r3, r4⟩⟩ := h
  · simp at h2
  · simp only [Value.slice.injEq, Option.some.injEq, Addr.mk.injEq, and_true, true_and] at e'
    obtain ⟨rfl, rfl⟩ := e'
    have hms : m * size ≤ n * size := Nat.mul_le_mul_right _ hm
    refine ⟨by rw [List.length_take]; omega, .inr ⟨g, c, cur, rfl, hb, hg, by omega, r2, r3, ?_⟩⟩
    rw [← r4, List.take_take, Nat.min_eq_left hms]

set_option maxRecDepth 100000 in
set_option maxHeartbeats 4000000 in
theorem top_any {w : World} {B ab : Nat} {A : AuA} {G : Gram} {T : Tbl} {terms : List Int} {sv pv : Value} {L : List ((Int × Tr) × Value)} {st : Au} (h : AuM w B ab A G T terms sv pv L st) (hn : 1 ≤ st.stack.length) (hl : st.stack.length ≤ 1000000000) :
    Calls Try.prog 72 #[.pointer (some ⟨ab, 0, none⟩)] w fun e w' => e = .returned (.int .i64 (lastN st.stack)) ∧ ∃ n, w' = w.drewN n := by
  have hL := h.len
  obtain ⟨m, hm⟩ : ∃ m, L.length = m + 1 := ⟨L.length - 1, by omega⟩
  obtain ⟨g, c, rfl, -, -, -, c0, -, -, -⟩ := st_cell h.own m (by omega)
  have c6 := obj_cell h.obj 6 (v := .slice (some ⟨g, 0, none⟩) L.length c) rfl
  have hlast : L[m].1.1 = lastN st.stack := by
    unfold lastN
    have hml : L.length - 1 = m := by omega
    rw [← h.row, List.length_map, hml, List.getD_eq_getElem?_getD, List.getElem?_map, List.getElem?_eq_getElem (by omega)]
    rfl
  rw [hlast] at c0
  rw [hm] at c6
  clear h hn hlast
  generalize lastN st.stack = z at *
  have e1 : IntKind.i64.wrap ((m : Int) + 1 - 1) = (m : Int) := by rw [IntWalk.i64_in _ (by omega)]; omega
  go_enter Try.func72, Try.ntmps72
  go_upto_region 1 with fail
  go_quiet (fail)
  go_wp2
  go_ret
  exact ⟨rfl, _, rfl⟩

set_option maxRecDepth 100000 in
set_option maxHeartbeats 4000000 in
theorem next_end {w : World} {B ab : Nat} {A : AuA} {G : Gram} {T : Tbl} {terms : List Int} {sv pv : Value} {L : List ((Int × Tr) × Value)} {st : Au} (h : AuM w B ab A G T terms sv pv L st) (hp : st.pos = terms.length) :
    Calls Try.prog 73 #[.pointer (some ⟨ab, 0, none⟩)] w fun e w' => e = .returned (.int .i64 0) ∧ ∃ n, w' = w.drewN n := by
  have c5 := obj_cell h.obj 5 (v := .slice A.ta terms.length A.tc) rfl
  have c7 := obj_cell h.obj 7 (v := .int .i64 (st.pos : Int)) rfl
  rw [hp] at c7
  clear h hp
  generalize terms.length = n at *
  go_enter Try.func73, Try.ntmps73
  go_upto_region 1 with fail
  go_quiet (fail)
  go_wp2
  go_ret
  exact ⟨rfl, _, rfl⟩

set_option maxRecDepth 100000 in
set_option maxHeartbeats 4000000 in
theorem next_in {w : World} {B ab : Nat} {A : AuA} {G : Gram} {T : Tbl} {terms : List Int} {sv pv : Value} {L : List ((Int × Tr) × Value)} {st : Au} (h : AuM w B ab A G T terms sv pv L st) (ht : Ints w (.slice A.ta terms.length A.tc) terms) (hp : st.pos < terms.length) :
    (1 ≤ terms[st.pos] ∧ terms[st.pos] < G.terms → Calls Try.prog 73 #[.pointer (some ⟨ab, 0, none⟩)] w fun e w' => e = .returned (.int .i64 terms[st.pos]) ∧ ∃ n, w' = w.drewN n) ∧
    (¬ (1 ≤ terms[st.pos] ∧ terms[st.pos] < G.terms) → Calls Try.prog 73 #[.pointer (some ⟨ab, 0, none⟩)] w fun e w' => e = .panicked [{ v := errV 309, recovered := false }] ∧ ∃ n, w' = w.drewN n) := by
  have c0 := obj_cell h.obj 0 (v := .int .i64 G.terms) rfl
  have c5 := obj_cell h.obj 5 (v := .slice A.ta terms.length A.tc) rfl
  have c7 := obj_cell h.obj 7 (v := .int .i64 (st.pos : Int)) rfl
  obtain ⟨b, o, hta, -, htc, x0, -⟩ := ht.at hp
  have hl := ht.2.1
  have e1 : ((st.pos : Int) == (terms.length : Int)) = false := beq_eq_false_iff_ne.2 (by omega)
  rw [hta] at c5
  clear h ht hta
  generalize terms[st.pos] = x at *
  generalize terms.length = n at *
  generalize st.pos = p at *
  have HF := Lib.hid fun (V : World) => fail_no 309 V
  have HY := Lib.hid fun (V : World) => fail_yes 309 V
  refine ⟨fun hx => ?_, fun hx => ?_⟩
  · have d1 : decide (x < 1) = false := decide_eq_false (by omega)
    have d2 : decide (G.terms ≤ x) = false := decide_eq_false (by omega)
    clear hx HY
    go_enter Try.func73, Try.ntmps73
    go_upto_region 1 with fail
    go_quiet (fail)
    go_upto_region 3 with fail
    go_quiet (fail)
    go_wp2_with (go_at_call 67; refine (HF.out _).mono ?_; rintro e w' ⟨rfl, rfl⟩)
    go_ret
    exact ⟨rfl, _, rfl⟩
  · by_cases h1 : x < 1
    · have d1 : decide (x < 1) = true := decide_eq_true h1
      clear hx h1 HF
      go_enter Try.func73, Try.ntmps73
      go_upto_region 1 with fail
      go_quiet (fail)
      go_upto_region 3 with fail
      go_quiet (fail)
      go_wp2_with (go_at_call 67; refine (HY.out _).mono ?_; rintro e w' ⟨rfl, rfl⟩)
      exact ⟨rfl, rfl, _, rfl⟩
    · have d1 : decide (x < 1) = false := decide_eq_false h1
      have d2 : decide (G.terms ≤ x) = true := decide_eq_true (by omega)
      clear hx h1 HF
      go_enter Try.func73, Try.ntmps73
      go_upto_region 1 with fail
      go_quiet (fail)
      go_upto_region 3 with fail
      go_quiet (fail)
      go_wp2_with (go_at_call 67; refine (HY.out _).mono ?_; rintro e w' ⟨rfl, rfl⟩)
      exact ⟨rfl, rfl, _, rfl⟩

theorem refuse_any (ab : Nat) (k : Int) (w : World) : Calls Try.prog 71 #[.pointer (some ⟨ab, 0, none⟩), .int .i64 k] w fun x w' => x = .panicked [{ v := errV 308, recovered := false }] ∧ w = w' := by
  go_enter Try.func71, Try.ntmps71
  go_wp2
  exact ⟨rfl, rfl, rfl⟩
theorem accept_any {w : World} {B ab : Nat} {A : AuA} {G : Gram} {T : Tbl} {terms : List Int} {sv pv : Value} {L : List ((Int × Tr) × Value)} {st : Au} (h : AuM w B ab A G T terms sv pv L st) (hn : 1 ≤ st.stack.length) (hl : st.stack.length ≤ 1000000000) (k : Int) :
    Calls Try.prog 70 #[.pointer (some ⟨ab, 0, none⟩), .int .i64 k] w fun x w' => x = .panicked [{ v := errV (if st.stack.length = 1 then 4 else 0), recovered := false }] ∧ ∃ n, w' = w.drewN n := by
  have hL := h.len
  obtain ⟨g, c, rfl, -, -, -, -, -, -, -⟩ := st_cell h.own 0 (by omega)
  have c6 := obj_cell h.obj 6 (v := .slice (some ⟨g, 0, none⟩) L.length c) rfl
  rw [hL] at c6
  clear h
  generalize st.stack.length = n at *
  by_cases h1 : n = 1
  · subst h1
    rw [if_pos rfl]
    go_enter Try.func70, Try.ntmps70
    go_wp2_with (go_at_call 67; refine (fail_yes 4 _).mono ?_; rintro e w' ⟨rfl, rfl⟩)
    exact ⟨rfl, rfl, 0, rfl⟩
  · rw [if_neg h1]
    have e1 : ((n : Int) == 1) = false := beq_eq_false_iff_ne.2 (by omega)
    go_enter Try.func70, Try.ntmps70
    go_wp2_with (go_at_call 67; refine (fail_no 4 _).mono ?_; rintro e w' ⟨rfl, rfl⟩)
    exact ⟨rfl, rfl, 0, rfl⟩
end Go.Proofs.Ytpnihegmhalcfaa
