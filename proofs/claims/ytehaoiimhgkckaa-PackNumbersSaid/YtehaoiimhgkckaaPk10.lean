/-
  The statements' own helpers on packed rows: LentPacked, SamePacked, KeptPacked.
-/
import Derived.Test.YtehaoiimhgkckaaPk8
import Derived.Test.YtehaoiimhgkckaaGramK
namespace Go.Proofs.Ytehaoiimhgkckaa
open Go.RowKit
set_option maxHeartbeats 400000

theorem LentAc.wide {ch : Nat → Prop} {w w' : World} {B : Nat} {v : Value} {l : List Ac} (h : LentAc w B v l) (k : Fr ch w w') (hc : ∀ g, B ≤ g → ¬ ch g) : LentAc w' B v l := by
  obtain ⟨g, cap, h1, h2, h3, h4, h5, h6, h7⟩ := h
  exact ⟨g, cap, h1, h2, h3, h4, h5.fr k (hc g h2), h6, h7⟩
theorem LentAc.mono {w : World} {B B' : Nat} {v : Value} {l : List Ac} (h : LentAc w B v l) (hb : B' ≤ B) : LentAc w B' v l := by
  obtain ⟨g, cap, h1, h2, h3⟩ := h
  exact ⟨g, cap, h1, Nat.le_trans hb h2, h3⟩
theorem PkV.fr {w w' : World} {dv bv cv nv gb gc gn : Value} {P : Pk} (h : PkV w dv bv cv nv gb gc gn P) (k : Fr nothing w w') : PkV w' dv bv cv nv gb gc gn P :=
  ⟨h.dflt.fr k, h.base.fr k, h.check.fr k, h.next.fr k, h.gobase.fr k, h.gocheck.fr k, h.gonext.fr k⟩
/-- What LentPacked answers. -/
structure LentPk (w : World) (B : Nat) (dv bv cv nv gb gc gn : Value) (P : Pk) : Prop where
  dflt : Lent w B dv P.dflt
  base : Lent w B bv P.base
  check : Lent w B cv P.check
  next : LentAc w B nv P.next
  gobase : Lent w B gb P.gobase
  gocheck : Lent w B gc P.gocheck
  gonext : Lent w B gn P.gonext
theorem LentPk.wide {ch : Nat → Prop} {w w' : World} {B : Nat} {dv bv cv nv gb gc gn : Value} {P : Pk} (h : LentPk w B dv bv cv nv gb gc gn P) (k : Fr ch w w') (hc : ∀ g, B ≤ g → ¬ ch g) : LentPk w' B dv bv cv nv gb gc gn P :=
  ⟨h.dflt.fr k hc, h.base.fr k hc, h.check.fr k hc, h.next.wide k hc, h.gobase.fr k hc, h.gocheck.fr k hc, h.gonext.fr k hc⟩
theorem LentPk.pkv {w w0 : World} {B : Nat} {dv bv cv nv gb gc gn u0 u1 u2 u3 u4 u5 u6 : Value} {P : Pk} (h : LentPk w B dv bv cv nv gb gc gn P) (h' : PkV w0 u0 u1 u2 u3 u4 u5 u6 P) : PkV w dv bv cv nv gb gc gn P :=
  ⟨h.dflt.ints h'.dflt.1 h'.dflt.2.1, h.base.ints h'.base.1 h'.base.2.1, h.check.ints h'.check.1 h'.check.2.1, h.next.acts, h.gobase.ints h'.gobase.1 h'.gobase.2.1, h.gocheck.ints h'.gocheck.1 h'.gocheck.2.1, h.gonext.ints h'.gonext.1 h'.gonext.2.1⟩
/-- Blocks n, n + 1: the parameter's, with these values, and the result's, as it was made; what stood below n stands. -/
structure LP (w : World) (n : Nat) (vs : Array Value) (W : World) : Prop where
  own : W.heap[n]? = some (.cells vs 25 (0, 0))
  res : W.heap[n + 1]? = some (.cells #[.slice none 0 0, .slice none 0 0, .slice none 0 0, .slice none 0 0, .slice none 0 0, .slice none 0 0, .slice none 0 0] 25 (0, 0))
  below : Below n w W
theorem LP.size {w W : World} {n : Nat} {vs : Array Value} (h : LP w n vs W) : n + 2 ≤ W.heap.size := (Array.getElem?_eq_some_iff.1 h.res).1
theorem LP.after {w W W' : World} {n : Nat} {vs : Array Value} (h : LP w n vs W) (hb : Below W.heap.size W W') : LP w n vs W' :=
  ⟨(Fr.new hb).obj h.own fun e => e, (Fr.new hb).obj h.res fun e => e, h.below.trans (hb.mono (by have := h.size; omega))⟩
theorem LP.set {w W : World} {n : Nat} {vs : Array Value} (h : LP w n vs W) (i : Nat) (v : Value) : LP w n (vs.setIfInBounds i v) (W.setCell ⟨n, i, none⟩ v) :=
  ⟨setCell_obj h.own v, (Fr.setCell W ⟨n, i, none⟩ v).obj h.res (fun e => by unfold only at e; simp at e), h.below.trans ((Fr.setCell' (ch := only n) (w := W) ⟨n, i, none⟩ v rfl).below (by have := h.size; omega) fun k e => by unfold only at e; omega)⟩

theorem lentActsS (u : Value) (l : List Ac) (w : World) (h : IsActs w u l) (hlen : l.length ≤ 1000000000000) :
    Calls Try.prog 27 #[u] w fun e w' => ∃ a cap, e = .returned (.slice a l.length cap) ∧ LentAc w' w.heap.size (.slice a l.length cap) l ∧ Below w.heap.size w w' :=
  (lentActs_any u l w h hlen).mono fun e w' ⟨v, he, hl, hb⟩ => by
    obtain ⟨g, cap, rfl, h1⟩ := hl
    exact ⟨_, _, he, ⟨g, cap, rfl, h1⟩, hb⟩
set_option maxRecDepth 100000 in
set_option maxHeartbeats 4000000 in
theorem lentPacked_any (u0 u1 u2 u3 u4 u5 u6 : Value) (P : Pk) (w : World) (h : PkV w u0 u1 u2 u3 u4 u5 u6 P) (hlen : P.next.length ≤ 1000000000000) :
    Calls Try.prog 9 #[.agg #[u0, u1, u2, u3, u4, u5, u6]] w fun e w' => ∃ dv bv cv nv gb gc gn, e = .returned (.agg #[dv, bv, cv, nv, gb, gc, gn]) ∧ LentPk w' w.heap.size dv bv cv nv gb gc gn P ∧ Below w.heap.size w w' := by
  obtain ⟨_, _, a0, c0, rfl, _⟩ := id h.dflt
  obtain ⟨_, _, a1, c1, rfl, _⟩ := id h.base
  obtain ⟨_, _, a2, c2, rfl, _⟩ := id h.check
  obtain ⟨a3, c3, rfl, _⟩ := Rows'.parts h.next
  obtain ⟨_, _, a4, c4, rfl, _⟩ := id h.gobase
  obtain ⟨_, _, a5, c5, rfl, _⟩ := id h.gocheck
  obtain ⟨_, _, a6, c6, rfl, _⟩ := id h.gonext
  have HL0 := Lib.hid fun (x : World) (hx : Fr nothing w x) => lentInts_any _ P.dflt x (h.dflt.fr hx)
  have HL1 := Lib.hid fun (x : World) (hx : Fr nothing w x) => lentInts_any _ P.base x (h.base.fr hx)
  have HL2 := Lib.hid fun (x : World) (hx : Fr nothing w x) => lentInts_any _ P.check x (h.check.fr hx)
  have HL3 := Lib.hid fun (x : World) (hx : Fr nothing w x) => lentActsS _ P.next x (h.next.fr hx) hlen
  have HL4 := Lib.hid fun (x : World) (hx : Fr nothing w x) => lentInts_any _ P.gobase x (h.gobase.fr hx)
  have HL5 := Lib.hid fun (x : World) (hx : Fr nothing w x) => lentInts_any _ P.gocheck x (h.gocheck.fr hx)
  have HL6 := Lib.hid fun (x : World) (hx : Fr nothing w x) => lentInts_any _ P.gonext x (h.gonext.fr hx)
  clear h hlen
  generalize P.dflt.length = n0 at *
  generalize P.base.length = n1 at *
  generalize P.check.length = n2 at *
  generalize P.next.length = n3 at *
  generalize P.gobase.length = n4 at *
  generalize P.gocheck.length = n5 at *
  generalize P.gonext.length = n6 at *
  have hx := two_boxes w (.cells #[.slice a0 n0 c0, .slice a1 n1 c1, .slice a2 n2 c2, .slice a3 n3 c3, .slice a4 n4 c4, .slice a5 n5 c5, .slice a6 n6 c6] 25 (0, 0)) (.cells #[.slice none 0 0, .slice none 0 0, .slice none 0 0, .slice none 0 0, .slice none 0 0, .slice none 0 0, .slice none 0 0] 25 (0, 0))
  obtain ⟨w0, hw0⟩ : ∃ w0, w0 = (w.alloc (.cells #[.slice a0 n0 c0, .slice a1 n1 c1, .slice a2 n2 c2, .slice a3 n3 c3, .slice a4 n4 c4, .slice a5 n5 c5, .slice a6 n6 c6] 25 (0, 0))).alloc (.cells #[.slice none 0 0, .slice none 0 0, .slice none 0 0, .slice none 0 0, .slice none 0 0, .slice none 0 0, .slice none 0 0] 25 (0, 0)) := ⟨_, rfl⟩
  rw [← hw0] at hx
  have H0 : LP w w.heap.size #[.slice a0 n0 c0, .slice a1 n1 c1, .slice a2 n2 c2, .slice a3 n3 c3, .slice a4 n4 c4, .slice a5 n5 c5, .slice a6 n6 c6] w0 := ⟨hx.1, hx.2.1, hx.2.2⟩
  have HW := Lib.hid hw0
  clear hw0 hx
  go_enter Try.func9, Try.ntmps9
  go_upto_region 1 with fail
  rw [← HW.out]
  clear HW
  have s0 : w0.cell? ⟨w.heap.size, 0, none⟩ = some (.slice a0 n0 c0) := obj_cell H0.own 0 rfl
  have HC0 := Lib.hid (HL0.out w0 (Fr.new H0.below))
  have HH0 := Lib.hid H0
  clear HL0 H0
  go_upto_region 2 with (go_at_call 26; refine HC0.out.mono ?_; rintro e x0 ⟨g0, d0, rfl, hl0, hb0⟩; have p0 := HH0.out.after hb0; have t0 := obj_cell p0.own 0 rfl; have f0 := obj_frozen p0.own 0)
  refine wp_atW (F := fun W => LP w w.heap.size #[.slice g0 n0 d0, .slice a1 n1 c1, .slice a2 n2 c2, .slice a3 n3 c3, .slice a4 n4 c4, .slice a5 n5 c5, .slice a6 n6 c6] W ∧ Lent W (w.heap.size + 2) (.slice g0 n0 d0) P.dflt) ?_ ?_
  · exact ⟨p0.set 0 _, (hl0.mono HH0.out.size).fr (Fr.setCell' (ch := only w.heap.size) (w := x0) _ _ rfl) fun g hg e => by unfold only at e; omega⟩
  rintro w1 ⟨H1, l0⟩
  have L0 := Lib.hid l0
  clear l0 hl0 hb0 p0 t0 f0 s0 HC0 HH0
  have s1 : w1.cell? ⟨w.heap.size, 1, none⟩ = some (.slice a1 n1 c1) := obj_cell H1.own 1 rfl
  have HC1 := Lib.hid (HL1.out w1 (Fr.new H1.below))
  have HH1 := Lib.hid H1
  clear HL1 H1
  go_upto_region 3 with (go_at_call 26; refine HC1.out.mono ?_; rintro e x1 ⟨g1, d1, rfl, hl1, hb1⟩; have p1 := HH1.out.after hb1; have t1 := obj_cell p1.own 1 rfl; have f1 := obj_frozen p1.own 1)
  refine wp_atW (F := fun W => LP w w.heap.size #[.slice g0 n0 d0, .slice g1 n1 d1, .slice a2 n2 c2, .slice a3 n3 c3, .slice a4 n4 c4, .slice a5 n5 c5, .slice a6 n6 c6] W ∧ Lent W (w.heap.size + 2) (.slice g0 n0 d0) P.dflt ∧ Lent W (w.heap.size + 2) (.slice g1 n1 d1) P.base) ?_ ?_
  · have fr := fun v : Value => (Fr.new hb1).wide.trans (Fr.setCell' (ch := only w.heap.size) (w := x1) ⟨w.heap.size, 1, none⟩ v rfl)
    exact ⟨p1.set 1 _, L0.out.fr (fr _) fun g hg e => by unfold only at e; omega, (hl1.mono HH1.out.size).fr (Fr.setCell' (ch := only w.heap.size) (w := x1) _ _ rfl) fun g hg e => by unfold only at e; omega⟩
  clear L0
  rintro w2 ⟨H2, l0, l1⟩
  have L0 := Lib.hid l0
  have L1 := Lib.hid l1
  clear l0 l1 hl1 hb1 p1 t1 f1 s1 HC1 HH1
  have s2 : w2.cell? ⟨w.heap.size, 2, none⟩ = some (.slice a2 n2 c2) := obj_cell H2.own 2 rfl
  have HC2 := Lib.hid (HL2.out w2 (Fr.new H2.below))
  have HH2 := Lib.hid H2
  clear HL2 H2
  go_upto_region 4 with (go_at_call 26; refine HC2.out.mono ?_; rintro e x2 ⟨g2, d2, rfl, hl2, hb2⟩; have p2 := HH2.out.after hb2; have t2 := obj_cell p2.own 2 rfl; have f2 := obj_frozen p2.own 2)
  refine wp_atW (F := fun W => LP w w.heap.size #[.slice g0 n0 d0, .slice g1 n1 d1, .slice g2 n2 d2, .slice a3 n3 c3, .slice a4 n4 c4, .slice a5 n5 c5, .slice a6 n6 c6] W ∧ Lent W (w.heap.size + 2) (.slice g0 n0 d0) P.dflt ∧ Lent W (w.heap.size + 2) (.slice g1 n1 d1) P.base ∧ Lent W (w.heap.size + 2) (.slice g2 n2 d2) P.check) ?_ ?_
  · have fr := fun v : Value => (Fr.new hb2).wide.trans (Fr.setCell' (ch := only w.heap.size) (w := x2) ⟨w.heap.size, 2, none⟩ v rfl)
    exact ⟨p2.set 2 _, L0.out.fr (fr _) fun g hg e => by unfold only at e; omega, L1.out.fr (fr _) fun g hg e => by unfold only at e; omega, (hl2.mono HH2.out.size).fr (Fr.setCell' (ch := only w.heap.size) (w := x2) _ _ rfl) fun g hg e => by unfold only at e; omega⟩
  clear L0 L1
  rintro w3 ⟨H3, l0, l1, l2⟩
  have L0 := Lib.hid l0
  have L1 := Lib.hid l1
  have L2 := Lib.hid l2
  clear l0 l1 l2 hl2 hb2 p2 t2 f2 s2 HC2 HH2
  have s3 : w3.cell? ⟨w.heap.size, 3, none⟩ = some (.slice a3 n3 c3) := obj_cell H3.own 3 rfl
  have HC3 := Lib.hid (HL3.out w3 (Fr.new H3.below))
  have HH3 := Lib.hid H3
  clear HL3 H3
  go_upto_region 5 with (go_at_call 27; refine HC3.out.mono ?_; rintro e x3 ⟨g3, d3, rfl, hl3, hb3⟩; have p3 := HH3.out.after hb3; have t3 := obj_cell p3.own 3 rfl; have f3 := obj_frozen p3.own 3)
  refine wp_atW (F := fun W => LP w w.heap.size #[.slice g0 n0 d0, .slice g1 n1 d1, .slice g2 n2 d2, .slice g3 n3 d3, .slice a4 n4 c4, .slice a5 n5 c5, .slice a6 n6 c6] W ∧ Lent W (w.heap.size + 2) (.slice g0 n0 d0) P.dflt ∧ Lent W (w.heap.size + 2) (.slice g1 n1 d1) P.base ∧ Lent W (w.heap.size + 2) (.slice g2 n2 d2) P.check ∧ LentAc W (w.heap.size + 2) (.slice g3 n3 d3) P.next) ?_ ?_
  · have fr := fun v : Value => (Fr.new hb3).wide.trans (Fr.setCell' (ch := only w.heap.size) (w := x3) ⟨w.heap.size, 3, none⟩ v rfl)
    exact ⟨p3.set 3 _, L0.out.fr (fr _) fun g hg e => by unfold only at e; omega, L1.out.fr (fr _) fun g hg e => by unfold only at e; omega, L2.out.fr (fr _) fun g hg e => by unfold only at e; omega, (hl3.mono HH3.out.size).wide (Fr.setCell' (ch := only w.heap.size) (w := x3) _ _ rfl) fun g hg e => by unfold only at e; omega⟩
  clear L0 L1 L2
  rintro w4 ⟨H4, l0, l1, l2, l3⟩
  have L0 := Lib.hid l0
  have L1 := Lib.hid l1
  have L2 := Lib.hid l2
  have L3 := Lib.hid l3
  clear l0 l1 l2 l3 hl3 hb3 p3 t3 f3 s3 HC3 HH3
  have s4 : w4.cell? ⟨w.heap.size, 4, none⟩ = some (.slice a4 n4 c4) := obj_cell H4.own 4 rfl
  have HC4 := Lib.hid (HL4.out w4 (Fr.new H4.below))
  have HH4 := Lib.hid H4
  clear HL4 H4
  go_upto_region 6 with (go_at_call 26; refine HC4.out.mono ?_; rintro e x4 ⟨g4, d4, rfl, hl4, hb4⟩; have p4 := HH4.out.after hb4; have t4 := obj_cell p4.own 4 rfl; have f4 := obj_frozen p4.own 4)
  refine wp_atW (F := fun W => LP w w.heap.size #[.slice g0 n0 d0, .slice g1 n1 d1, .slice g2 n2 d2, .slice g3 n3 d3, .slice g4 n4 d4, .slice a5 n5 c5, .slice a6 n6 c6] W ∧ Lent W (w.heap.size + 2) (.slice g0 n0 d0) P.dflt ∧ Lent W (w.heap.size + 2) (.slice g1 n1 d1) P.base ∧ Lent W (w.heap.size + 2) (.slice g2 n2 d2) P.check ∧ LentAc W (w.heap.size + 2) (.slice g3 n3 d3) P.next ∧ Lent W (w.heap.size + 2) (.slice g4 n4 d4) P.gobase) ?_ ?_
  · have fr := fun v : Value => (Fr.new hb4).wide.trans (Fr.setCell' (ch := only w.heap.size) (w := x4) ⟨w.heap.size, 4, none⟩ v rfl)
    exact ⟨p4.set 4 _, L0.out.fr (fr _) fun g hg e => by unfold only at e; omega, L1.out.fr (fr _) fun g hg e => by unfold only at e; omega, L2.out.fr (fr _) fun g hg e => by unfold only at e; omega, L3.out.wide (fr _) fun g hg e => by unfold only at e; omega, (hl4.mono HH4.out.size).fr (Fr.setCell' (ch := only w.heap.size) (w := x4) _ _ rfl) fun g hg e => by unfold only at e; omega⟩
  clear L0 L1 L2 L3
  rintro w5 ⟨H5, l0, l1, l2, l3, l4⟩
  have L0 := Lib.hid l0
  have L1 := Lib.hid l1
  have L2 := Lib.hid l2
  have L3 := Lib.hid l3
  have L4 := Lib.hid l4
  clear l0 l1 l2 l3 l4 hl4 hb4 p4 t4 f4 s4 HC4 HH4
  have s5 : w5.cell? ⟨w.heap.size, 5, none⟩ = some (.slice a5 n5 c5) := obj_cell H5.own 5 rfl
  have HC5 := Lib.hid (HL5.out w5 (Fr.new H5.below))
  have HH5 := Lib.hid H5
  clear HL5 H5
  go_upto_region 7 with (go_at_call 26; refine HC5.out.mono ?_; rintro e x5 ⟨g5, d5, rfl, hl5, hb5⟩; have p5 := HH5.out.after hb5; have t5 := obj_cell p5.own 5 rfl; have f5 := obj_frozen p5.own 5)
  refine wp_atW (F := fun W => LP w w.heap.size #[.slice g0 n0 d0, .slice g1 n1 d1, .slice g2 n2 d2, .slice g3 n3 d3, .slice g4 n4 d4, .slice g5 n5 d5, .slice a6 n6 c6] W ∧ Lent W (w.heap.size + 2) (.slice g0 n0 d0) P.dflt ∧ Lent W (w.heap.size + 2) (.slice g1 n1 d1) P.base ∧ Lent W (w.heap.size + 2) (.slice g2 n2 d2) P.check ∧ LentAc W (w.heap.size + 2) (.slice g3 n3 d3) P.next ∧ Lent W (w.heap.size + 2) (.slice g4 n4 d4) P.gobase ∧ Lent W (w.heap.size + 2) (.slice g5 n5 d5) P.gocheck) ?_ ?_
  · have fr := fun v : Value => (Fr.new hb5).wide.trans (Fr.setCell' (ch := only w.heap.size) (w := x5) ⟨w.heap.size, 5, none⟩ v rfl)
    exact ⟨p5.set 5 _, L0.out.fr (fr _) fun g hg e => by unfold only at e; omega, L1.out.fr (fr _) fun g hg e => by unfold only at e; omega, L2.out.fr (fr _) fun g hg e => by unfold only at e; omega, L3.out.wide (fr _) fun g hg e => by unfold only at e; omega, L4.out.fr (fr _) fun g hg e => by unfold only at e; omega, (hl5.mono HH5.out.size).fr (Fr.setCell' (ch := only w.heap.size) (w := x5) _ _ rfl) fun g hg e => by unfold only at e; omega⟩
  clear L0 L1 L2 L3 L4
  rintro w6 ⟨H6, l0, l1, l2, l3, l4, l5⟩
  have L0 := Lib.hid l0
  have L1 := Lib.hid l1
  have L2 := Lib.hid l2
  have L3 := Lib.hid l3
  have L4 := Lib.hid l4
  have L5 := Lib.hid l5
  clear l0 l1 l2 l3 l4 l5 hl5 hb5 p5 t5 f5 s5 HC5 HH5
  have s6 : w6.cell? ⟨w.heap.size, 6, none⟩ = some (.slice a6 n6 c6) := obj_cell H6.own 6 rfl
  have HC6 := Lib.hid (HL6.out w6 (Fr.new H6.below))
  have HH6 := Lib.hid H6
  clear HL6 H6
  go_upto_region 8 with (go_at_call 26; refine HC6.out.mono ?_; rintro e x6 ⟨g6, d6, rfl, hl6, hb6⟩; have p6 := HH6.out.after hb6; have t6 := obj_cell p6.own 6 rfl; have f6 := obj_frozen p6.own 6)
  refine wp_atW (F := fun W => LP w w.heap.size #[.slice g0 n0 d0, .slice g1 n1 d1, .slice g2 n2 d2, .slice g3 n3 d3, .slice g4 n4 d4, .slice g5 n5 d5, .slice g6 n6 d6] W ∧ Lent W (w.heap.size + 2) (.slice g0 n0 d0) P.dflt ∧ Lent W (w.heap.size + 2) (.slice g1 n1 d1) P.base ∧ Lent W (w.heap.size + 2) (.slice g2 n2 d2) P.check ∧ LentAc W (w.heap.size + 2) (.slice g3 n3 d3) P.next ∧ Lent W (w.heap.size + 2) (.slice g4 n4 d4) P.gobase ∧ Lent W (w.heap.size + 2) (.slice g5 n5 d5) P.gocheck ∧ Lent W (w.heap.size + 2) (.slice g6 n6 d6) P.gonext) ?_ ?_
  · have fr := fun v : Value => (Fr.new hb6).wide.trans (Fr.setCell' (ch := only w.heap.size) (w := x6) ⟨w.heap.size, 6, none⟩ v rfl)
    exact ⟨p6.set 6 _, L0.out.fr (fr _) fun g hg e => by unfold only at e; omega, L1.out.fr (fr _) fun g hg e => by unfold only at e; omega, L2.out.fr (fr _) fun g hg e => by unfold only at e; omega, L3.out.wide (fr _) fun g hg e => by unfold only at e; omega, L4.out.fr (fr _) fun g hg e => by unfold only at e; omega, L5.out.fr (fr _) fun g hg e => by unfold only at e; omega, (hl6.mono HH6.out.size).fr (Fr.setCell' (ch := only w.heap.size) (w := x6) _ _ rfl) fun g hg e => by unfold only at e; omega⟩
  clear L0 L1 L2 L3 L4 L5
  rintro w7 ⟨H7, l0, l1, l2, l3, l4, l5, l6⟩
  have L0 := Lib.hid l0
  have L1 := Lib.hid l1
  have L2 := Lib.hid l2
  have L3 := Lib.hid l3
  have L4 := Lib.hid l4
  have L5 := Lib.hid l5
  have L6 := Lib.hid l6
  clear l0 l1 l2 l3 l4 l5 l6 hl6 hb6 p6 t6 f6 s6 HC6 HH6
  have x0 : w7.cell? ⟨w.heap.size, 0, none⟩ = some (.slice g0 n0 d0) := obj_cell H7.own 0 rfl
  have y0 : w7.cell? ⟨w.heap.size + 1, 0, none⟩ = some (.slice none 0 0) := obj_cell H7.res 0 rfl
  have f0 := obj_frozen H7.res 0
  have x1 : w7.cell? ⟨w.heap.size, 1, none⟩ = some (.slice g1 n1 d1) := obj_cell H7.own 1 rfl
  have y1 : w7.cell? ⟨w.heap.size + 1, 1, none⟩ = some (.slice none 0 0) := obj_cell H7.res 1 rfl
  have f1 := obj_frozen H7.res 1
  have x2 : w7.cell? ⟨w.heap.size, 2, none⟩ = some (.slice g2 n2 d2) := obj_cell H7.own 2 rfl
  have y2 : w7.cell? ⟨w.heap.size + 1, 2, none⟩ = some (.slice none 0 0) := obj_cell H7.res 2 rfl
  have f2 := obj_frozen H7.res 2
  have x3 : w7.cell? ⟨w.heap.size, 3, none⟩ = some (.slice g3 n3 d3) := obj_cell H7.own 3 rfl
  have y3 : w7.cell? ⟨w.heap.size + 1, 3, none⟩ = some (.slice none 0 0) := obj_cell H7.res 3 rfl
  have f3 := obj_frozen H7.res 3
  have x4 : w7.cell? ⟨w.heap.size, 4, none⟩ = some (.slice g4 n4 d4) := obj_cell H7.own 4 rfl
  have y4 : w7.cell? ⟨w.heap.size + 1, 4, none⟩ = some (.slice none 0 0) := obj_cell H7.res 4 rfl
  have f4 := obj_frozen H7.res 4
  have x5 : w7.cell? ⟨w.heap.size, 5, none⟩ = some (.slice g5 n5 d5) := obj_cell H7.own 5 rfl
  have y5 : w7.cell? ⟨w.heap.size + 1, 5, none⟩ = some (.slice none 0 0) := obj_cell H7.res 5 rfl
  have f5 := obj_frozen H7.res 5
  have x6 : w7.cell? ⟨w.heap.size, 6, none⟩ = some (.slice g6 n6 d6) := obj_cell H7.own 6 rfl
  have y6 : w7.cell? ⟨w.heap.size + 1, 6, none⟩ = some (.slice none 0 0) := obj_cell H7.res 6 rfl
  have f6 := obj_frozen H7.res 6
  have HX := Lib.hid H7
  clear H7
  go_wp2
  refine at_world (Q := bodyPost _ _ _ _ _) (F := fun Y => (Y.cell? ⟨w.heap.size + 1, 0, none⟩ = some (.slice g0 n0 d0) ∧ Y.cell? ⟨w.heap.size + 1, 1, none⟩ = some (.slice g1 n1 d1) ∧ Y.cell? ⟨w.heap.size + 1, 2, none⟩ = some (.slice g2 n2 d2) ∧ Y.cell? ⟨w.heap.size + 1, 3, none⟩ = some (.slice g3 n3 d3) ∧ Y.cell? ⟨w.heap.size + 1, 4, none⟩ = some (.slice g4 n4 d4) ∧ Y.cell? ⟨w.heap.size + 1, 5, none⟩ = some (.slice g5 n5 d5) ∧ Y.cell? ⟨w.heap.size + 1, 6, none⟩ = some (.slice g6 n6 d6)) ∧ Fr (only (w.heap.size + 1)) w7 Y) ?_ ?_
  · refine ⟨⟨?_, ?_, ?_, ?_, ?_, ?_, ?_⟩, ?_⟩
    · simp [go_sem, y0]
    · simp [go_sem, y1]
    · simp [go_sem, y2]
    · simp [go_sem, y3]
    · simp [go_sem, y4]
    · simp [go_sem, y5]
    · simp [go_sem, y6]
    · repeat (first | with_reducible exact Fr.refl _ _ | refine Fr.trans ?_ (Fr.setCell' _ _ rfl))
  · rintro Y ⟨⟨r0, r1, r2, r3, r4, r5, r6⟩, hY⟩
    refine bodyPost_ret (by simp [results, Try.results9, go_sem, r0, r1, r2, r3, r4, r5, r6]; try rfl) rfl ?_
    have hno : ∀ g, w.heap.size + 2 ≤ g → ¬ only (w.heap.size + 1) g := fun g hg e => by unfold only at e; omega
    exact ⟨_, _, _, _, _, _, _, rfl, ⟨(L0.out.fr hY hno).mono (by omega), (L1.out.fr hY hno).mono (by omega), (L2.out.fr hY hno).mono (by omega), (L3.out.wide hY hno).mono (by omega), (L4.out.fr hY hno).mono (by omega), (L5.out.fr hY hno).mono (by omega), (L6.out.fr hY hno).mono (by omega)⟩, HX.out.below.trans (hY.below (by have := HX.out.size; omega) fun k e => by unfold only at e; omega)⟩

set_option maxRecDepth 100000 in
set_option maxHeartbeats 4000000 in
theorem samePacked_any (u0 u1 u2 u3 u4 u5 u6 v0 v1 v2 v3 v4 v5 v6 : Value) (P : Pk) (w : World) (hu : PkV w u0 u1 u2 u3 u4 u5 u6 P) (hv : PkV w v0 v1 v2 v3 v4 v5 v6 P) :
    Calls Try.prog 32 #[.agg #[u0, u1, u2, u3, u4, u5, u6], .agg #[v0, v1, v2, v3, v4, v5, v6]] w fun e w' => e = .returned (.bool true) ∧ Below w.heap.size w w' := by
  obtain ⟨_, _, a0, c0, rfl, _⟩ := id hu.dflt
  obtain ⟨_, _, b0, d0, rfl, _⟩ := id hv.dflt
  obtain ⟨_, _, a1, c1, rfl, _⟩ := id hu.base
  obtain ⟨_, _, b1, d1, rfl, _⟩ := id hv.base
  obtain ⟨_, _, a2, c2, rfl, _⟩ := id hu.check
  obtain ⟨_, _, b2, d2, rfl, _⟩ := id hv.check
  obtain ⟨a3, c3, rfl, _⟩ := Rows'.parts hu.next
  obtain ⟨b3, d3, rfl, _⟩ := Rows'.parts hv.next
  obtain ⟨_, _, a4, c4, rfl, _⟩ := id hu.gobase
  obtain ⟨_, _, b4, d4, rfl, _⟩ := id hv.gobase
  obtain ⟨_, _, a5, c5, rfl, _⟩ := id hu.gocheck
  obtain ⟨_, _, b5, d5, rfl, _⟩ := id hv.gocheck
  obtain ⟨_, _, a6, c6, rfl, _⟩ := id hu.gonext
  obtain ⟨_, _, b6, d6, rfl, _⟩ := id hv.gonext
  have hx := two_boxes w (.cells #[.slice a0 P.dflt.length c0, .slice a1 P.base.length c1, .slice a2 P.check.length c2, .slice a3 P.next.length c3, .slice a4 P.gobase.length c4, .slice a5 P.gocheck.length c5, .slice a6 P.gonext.length c6] 25 (0, 0)) (.cells #[.slice b0 P.dflt.length d0, .slice b1 P.base.length d1, .slice b2 P.check.length d2, .slice b3 P.next.length d3, .slice b4 P.gobase.length d4, .slice b5 P.gocheck.length d5, .slice b6 P.gonext.length d6] 25 (0, 0))
  obtain ⟨w1, hw1⟩ : ∃ w1, w1 = (w.alloc (.cells #[.slice a0 P.dflt.length c0, .slice a1 P.base.length c1, .slice a2 P.check.length c2, .slice a3 P.next.length c3, .slice a4 P.gobase.length c4, .slice a5 P.gocheck.length c5, .slice a6 P.gonext.length c6] 25 (0, 0))).alloc (.cells #[.slice b0 P.dflt.length d0, .slice b1 P.base.length d1, .slice b2 P.check.length d2, .slice b3 P.next.length d3, .slice b4 P.gobase.length d4, .slice b5 P.gocheck.length d5, .slice b6 P.gonext.length d6] 25 (0, 0)) := ⟨_, rfl⟩
  rw [← hw1] at hx
  obtain ⟨o0, o1, hB1⟩ := hx
  have g0 : ∀ q : After w1, q.w.cell? ⟨w.heap.size, 0, none⟩ = some (.slice a0 P.dflt.length c0) := after_obj o0 0 rfl
  have k0 : ∀ q : After w1, q.w.cell? ⟨w.heap.size + 1, 0, none⟩ = some (.slice b0 P.dflt.length d0) := after_obj o1 0 rfl
  have g1 : ∀ q : After w1, q.w.cell? ⟨w.heap.size, 1, none⟩ = some (.slice a1 P.base.length c1) := after_obj o0 1 rfl
  have k1 : ∀ q : After w1, q.w.cell? ⟨w.heap.size + 1, 1, none⟩ = some (.slice b1 P.base.length d1) := after_obj o1 1 rfl
  have g2 : ∀ q : After w1, q.w.cell? ⟨w.heap.size, 2, none⟩ = some (.slice a2 P.check.length c2) := after_obj o0 2 rfl
  have k2 : ∀ q : After w1, q.w.cell? ⟨w.heap.size + 1, 2, none⟩ = some (.slice b2 P.check.length d2) := after_obj o1 2 rfl
  have g3 : ∀ q : After w1, q.w.cell? ⟨w.heap.size, 3, none⟩ = some (.slice a3 P.next.length c3) := after_obj o0 3 rfl
  have k3 : ∀ q : After w1, q.w.cell? ⟨w.heap.size + 1, 3, none⟩ = some (.slice b3 P.next.length d3) := after_obj o1 3 rfl
  have g4 : ∀ q : After w1, q.w.cell? ⟨w.heap.size, 4, none⟩ = some (.slice a4 P.gobase.length c4) := after_obj o0 4 rfl
  have k4 : ∀ q : After w1, q.w.cell? ⟨w.heap.size + 1, 4, none⟩ = some (.slice b4 P.gobase.length d4) := after_obj o1 4 rfl
  have g5 : ∀ q : After w1, q.w.cell? ⟨w.heap.size, 5, none⟩ = some (.slice a5 P.gocheck.length c5) := after_obj o0 5 rfl
  have k5 : ∀ q : After w1, q.w.cell? ⟨w.heap.size + 1, 5, none⟩ = some (.slice b5 P.gocheck.length d5) := after_obj o1 5 rfl
  have g6 : ∀ q : After w1, q.w.cell? ⟨w.heap.size, 6, none⟩ = some (.slice a6 P.gonext.length c6) := after_obj o0 6 rfl
  have k6 : ∀ q : After w1, q.w.cell? ⟨w.heap.size + 1, 6, none⟩ = some (.slice b6 P.gonext.length d6) := after_obj o1 6 rfl
  have hU := fun q : After w1 => (hu.fr (Fr.new hB1)).fr (Fr.new q.ok)
  have hV := fun q : After w1 => (hv.fr (Fr.new hB1)).fr (Fr.new q.ok)
  have H0 := Lib.hid fun q : After w1 => after_call_drew q ((same_any _ _ P.dflt P.dflt q.w (hU q).dflt (hV q).dflt).mono fun e w' hh => (⟨by rw [hh.1]; simp [sameI], hh.2⟩ : e = .returned (.bool true) ∧ ∃ n, w' = q.w.drewN n))
  have H1 := Lib.hid fun q : After w1 => after_call_drew q ((same_any _ _ P.base P.base q.w (hU q).base (hV q).base).mono fun e w' hh => (⟨by rw [hh.1]; simp [sameI], hh.2⟩ : e = .returned (.bool true) ∧ ∃ n, w' = q.w.drewN n))
  have H2 := Lib.hid fun q : After w1 => after_call_drew q ((same_any _ _ P.check P.check q.w (hU q).check (hV q).check).mono fun e w' hh => (⟨by rw [hh.1]; simp [sameI], hh.2⟩ : e = .returned (.bool true) ∧ ∃ n, w' = q.w.drewN n))
  have H3 := Lib.hid fun q : After w1 => after_call q (sameActs_any _ _ P.next q.w (hU q).next (hV q).next)
  have H4 := Lib.hid fun q : After w1 => after_call_drew q ((same_any _ _ P.gobase P.gobase q.w (hU q).gobase (hV q).gobase).mono fun e w' hh => (⟨by rw [hh.1]; simp [sameI], hh.2⟩ : e = .returned (.bool true) ∧ ∃ n, w' = q.w.drewN n))
  have H5 := Lib.hid fun q : After w1 => after_call_drew q ((same_any _ _ P.gocheck P.gocheck q.w (hU q).gocheck (hV q).gocheck).mono fun e w' hh => (⟨by rw [hh.1]; simp [sameI], hh.2⟩ : e = .returned (.bool true) ∧ ∃ n, w' = q.w.drewN n))
  have H6 := Lib.hid fun q : After w1 => after_call_drew q ((same_any _ _ P.gonext P.gonext q.w (hU q).gonext (hV q).gonext).mono fun e w' hh => (⟨by rw [hh.1]; simp [sameI], hh.2⟩ : e = .returned (.bool true) ∧ ∃ n, w' = q.w.drewN n))
  have HW := Lib.hid hw1
  have HB := Lib.hid hB1
  clear hw1 hB1 o0 o1 hu hv hU hV
  generalize P.dflt.length = n0 at *
  generalize P.base.length = n1 at *
  generalize P.check.length = n2 at *
  generalize P.next.length = n3 at *
  generalize P.gobase.length = n4 at *
  generalize P.gocheck.length = n5 at *
  generalize P.gonext.length = n6 at *
  go_enter Try.func32, Try.ntmps32
  go_upto_region 1 with fail
  rw [← HW.out]
  refine wp_atW (F := fun W => ∃ q : After w1, W = q.w) ⟨⟨w1, Below.refl _ _⟩, rfl⟩ ?_
  rintro _ ⟨q, rfl⟩
  go_wp2_with (first | (go_at_call 59; (with_reducible refine (H0.out _).mono ?_); clear H0; rintro e w' ⟨rfl, q0, rfl⟩) | (go_at_call 59; (with_reducible refine (H1.out _).mono ?_); clear H1; rintro e w' ⟨rfl, q1, rfl⟩) | (go_at_call 59; (with_reducible refine (H2.out _).mono ?_); clear H2; rintro e w' ⟨rfl, q2, rfl⟩) | (go_at_call 60; (with_reducible refine (H3.out _).mono ?_); clear H3; rintro e w' ⟨rfl, q3, rfl⟩) | (go_at_call 59; (with_reducible refine (H4.out _).mono ?_); clear H4; rintro e w' ⟨rfl, q4, rfl⟩) | (go_at_call 59; (with_reducible refine (H5.out _).mono ?_); clear H5; rintro e w' ⟨rfl, q5, rfl⟩) | (go_at_call 59; (with_reducible refine (H6.out _).mono ?_); clear H6; rintro e w' ⟨rfl, q6, rfl⟩))
  go_ret
  exact ⟨rfl, HB.out.trans (q6.ok.mono HB.out.size)⟩

set_option maxRecDepth 100000 in
set_option maxHeartbeats 4000000 in
theorem keptPacked_any (B : Nat) (u0 u1 u2 u3 u4 u5 u6 v0 v1 v2 v3 v4 v5 v6 : Value) (P : Pk) (w : World) (hl : LentPk w B u0 u1 u2 u3 u4 u5 u6 P) (hv : PkV w v0 v1 v2 v3 v4 v5 v6 P) :
    Calls Try.prog 14 #[.agg #[u0, u1, u2, u3, u4, u5, u6], .agg #[v0, v1, v2, v3, v4, v5, v6]] w fun e w' => e = .returned (.bool true) ∧ Below w.heap.size w w' := by
  have hu : PkV w u0 u1 u2 u3 u4 u5 u6 P := hl.pkv hv
  obtain ⟨_, _, a0, c0, rfl, _⟩ := id hu.dflt
  obtain ⟨_, _, b0, d0, rfl, _⟩ := id hv.dflt
  obtain ⟨_, _, a1, c1, rfl, _⟩ := id hu.base
  obtain ⟨_, _, b1, d1, rfl, _⟩ := id hv.base
  obtain ⟨_, _, a2, c2, rfl, _⟩ := id hu.check
  obtain ⟨_, _, b2, d2, rfl, _⟩ := id hv.check
  obtain ⟨a3, c3, rfl, _⟩ := Rows'.parts hu.next
  obtain ⟨b3, d3, rfl, _⟩ := Rows'.parts hv.next
  obtain ⟨_, _, a4, c4, rfl, _⟩ := id hu.gobase
  obtain ⟨_, _, b4, d4, rfl, _⟩ := id hv.gobase
  obtain ⟨_, _, a5, c5, rfl, _⟩ := id hu.gocheck
  obtain ⟨_, _, b5, d5, rfl, _⟩ := id hv.gocheck
  obtain ⟨_, _, a6, c6, rfl, _⟩ := id hu.gonext
  obtain ⟨_, _, b6, d6, rfl, _⟩ := id hv.gonext
  have hx := two_boxes w (.cells #[.slice a0 P.dflt.length c0, .slice a1 P.base.length c1, .slice a2 P.check.length c2, .slice a3 P.next.length c3, .slice a4 P.gobase.length c4, .slice a5 P.gocheck.length c5, .slice a6 P.gonext.length c6] 25 (0, 0)) (.cells #[.slice b0 P.dflt.length d0, .slice b1 P.base.length d1, .slice b2 P.check.length d2, .slice b3 P.next.length d3, .slice b4 P.gobase.length d4, .slice b5 P.gocheck.length d5, .slice b6 P.gonext.length d6] 25 (0, 0))
  obtain ⟨w1, hw1⟩ : ∃ w1, w1 = (w.alloc (.cells #[.slice a0 P.dflt.length c0, .slice a1 P.base.length c1, .slice a2 P.check.length c2, .slice a3 P.next.length c3, .slice a4 P.gobase.length c4, .slice a5 P.gocheck.length c5, .slice a6 P.gonext.length c6] 25 (0, 0))).alloc (.cells #[.slice b0 P.dflt.length d0, .slice b1 P.base.length d1, .slice b2 P.check.length d2, .slice b3 P.next.length d3, .slice b4 P.gobase.length d4, .slice b5 P.gocheck.length d5, .slice b6 P.gonext.length d6] 25 (0, 0)) := ⟨_, rfl⟩
  rw [← hw1] at hx
  obtain ⟨o0, o1, hB1⟩ := hx
  have g0 : ∀ q : After w1, q.w.cell? ⟨w.heap.size, 0, none⟩ = some (.slice a0 P.dflt.length c0) := after_obj o0 0 rfl
  have k0 : ∀ q : After w1, q.w.cell? ⟨w.heap.size + 1, 0, none⟩ = some (.slice b0 P.dflt.length d0) := after_obj o1 0 rfl
  have g1 : ∀ q : After w1, q.w.cell? ⟨w.heap.size, 1, none⟩ = some (.slice a1 P.base.length c1) := after_obj o0 1 rfl
  have k1 : ∀ q : After w1, q.w.cell? ⟨w.heap.size + 1, 1, none⟩ = some (.slice b1 P.base.length d1) := after_obj o1 1 rfl
  have g2 : ∀ q : After w1, q.w.cell? ⟨w.heap.size, 2, none⟩ = some (.slice a2 P.check.length c2) := after_obj o0 2 rfl
  have k2 : ∀ q : After w1, q.w.cell? ⟨w.heap.size + 1, 2, none⟩ = some (.slice b2 P.check.length d2) := after_obj o1 2 rfl
  have g3 : ∀ q : After w1, q.w.cell? ⟨w.heap.size, 3, none⟩ = some (.slice a3 P.next.length c3) := after_obj o0 3 rfl
  have k3 : ∀ q : After w1, q.w.cell? ⟨w.heap.size + 1, 3, none⟩ = some (.slice b3 P.next.length d3) := after_obj o1 3 rfl
  have g4 : ∀ q : After w1, q.w.cell? ⟨w.heap.size, 4, none⟩ = some (.slice a4 P.gobase.length c4) := after_obj o0 4 rfl
  have k4 : ∀ q : After w1, q.w.cell? ⟨w.heap.size + 1, 4, none⟩ = some (.slice b4 P.gobase.length d4) := after_obj o1 4 rfl
  have g5 : ∀ q : After w1, q.w.cell? ⟨w.heap.size, 5, none⟩ = some (.slice a5 P.gocheck.length c5) := after_obj o0 5 rfl
  have k5 : ∀ q : After w1, q.w.cell? ⟨w.heap.size + 1, 5, none⟩ = some (.slice b5 P.gocheck.length d5) := after_obj o1 5 rfl
  have g6 : ∀ q : After w1, q.w.cell? ⟨w.heap.size, 6, none⟩ = some (.slice a6 P.gonext.length c6) := after_obj o0 6 rfl
  have k6 : ∀ q : After w1, q.w.cell? ⟨w.heap.size + 1, 6, none⟩ = some (.slice b6 P.gonext.length d6) := after_obj o1 6 rfl
  have hU := fun q : After w1 => (hu.fr (Fr.new hB1)).fr (Fr.new q.ok)
  have hV := fun q : After w1 => (hv.fr (Fr.new hB1)).fr (Fr.new q.ok)
  have hL := fun q : After w1 => (hl.wide (ch := nothing) (Fr.new hB1) fun _ _ e => e).wide (ch := nothing) (Fr.new q.ok) fun _ _ e => e
  have HS := Lib.hid fun q : After w1 => after_call q (samePacked_any _ _ _ _ _ _ _ _ _ _ _ _ _ _ P q.w (hU q) (hV q))
  have H0 := Lib.hid fun q : After w1 => after_call q (kept_below B _ _ P.dflt q.w (hL q).dflt (hV q).dflt)
  have H1 := Lib.hid fun q : After w1 => after_call q (kept_below B _ _ P.base q.w (hL q).base (hV q).base)
  have H2 := Lib.hid fun q : After w1 => after_call q (kept_below B _ _ P.check q.w (hL q).check (hV q).check)
  have H3 := Lib.hid fun q : After w1 => after_call q (keptActs_any B _ _ P.next q.w (hL q).next (hV q).next)
  have H4 := Lib.hid fun q : After w1 => after_call q (kept_below B _ _ P.gobase q.w (hL q).gobase (hV q).gobase)
  have H5 := Lib.hid fun q : After w1 => after_call q (kept_below B _ _ P.gocheck q.w (hL q).gocheck (hV q).gocheck)
  have H6 := Lib.hid fun q : After w1 => after_call q (kept_below B _ _ P.gonext q.w (hL q).gonext (hV q).gonext)
  have HW := Lib.hid hw1
  have HB := Lib.hid hB1
  clear hw1 hB1 o0 o1 hu hv hU hV hl hL
  generalize P.dflt.length = n0 at *
  generalize P.base.length = n1 at *
  generalize P.check.length = n2 at *
  generalize P.next.length = n3 at *
  generalize P.gobase.length = n4 at *
  generalize P.gocheck.length = n5 at *
  generalize P.gonext.length = n6 at *
  go_enter Try.func14, Try.ntmps14
  go_upto_region 1 with fail
  rw [← HW.out]
  refine wp_atW (F := fun W => ∃ q : After w1, W = q.w) ⟨⟨w1, Below.refl _ _⟩, rfl⟩ ?_
  rintro _ ⟨q, rfl⟩
  go_wp2_with (first | (go_at_call 32; refine (HS.out _).mono ?_; clear HS; rintro e w' ⟨rfl, qs, rfl⟩) | (go_at_call 33; (with_reducible refine (H0.out _).mono ?_); clear H0; rintro e w' ⟨rfl, q0, rfl⟩) | (go_at_call 33; (with_reducible refine (H1.out _).mono ?_); clear H1; rintro e w' ⟨rfl, q1, rfl⟩) | (go_at_call 33; (with_reducible refine (H2.out _).mono ?_); clear H2; rintro e w' ⟨rfl, q2, rfl⟩) | (go_at_call 34; (with_reducible refine (H3.out _).mono ?_); clear H3; rintro e w' ⟨rfl, q3, rfl⟩) | (go_at_call 33; (with_reducible refine (H4.out _).mono ?_); clear H4; rintro e w' ⟨rfl, q4, rfl⟩) | (go_at_call 33; (with_reducible refine (H5.out _).mono ?_); clear H5; rintro e w' ⟨rfl, q5, rfl⟩) | (go_at_call 33; (with_reducible refine (H6.out _).mono ?_); clear H6; rintro e w' ⟨rfl, q6, rfl⟩))
  go_ret
  exact ⟨rfl, HB.out.trans (q6.ok.mono HB.out.size)⟩
end Go.Proofs.Ytehaoiimhgkckaa
