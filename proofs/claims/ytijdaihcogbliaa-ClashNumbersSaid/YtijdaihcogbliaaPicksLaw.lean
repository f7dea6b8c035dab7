/-
  Of any two entries it is told who wins as the document says: the law's walk.
-/
import Derived.Test.YtijdaihcogbliaaRef22c
import Derived.Test.YtijdaihcogbliaaGramK
import Derived.Test.YtijdaihcogbliaaParts
import Derived.Test.YtijdaihcogbliaaClash7
namespace Go.Proofs.Ytijdaihcogbliaa
open Go.RowKit
set_option maxHeartbeats 400000

set_option maxRecDepth 100000 in
set_option maxHeartbeats 4000000 in
theorem picksLaw_any (G : Gram) (term : Int) (a b : Ent) (v : Value) (w : World) (h : IsGram w v G) (hf : Fits G) (ha : EntOk a) (hb : EntOk b) :
    Calls Try.prog 3 #[v, .int .i64 term, entVal a, entVal b] w fun e w' => e = .returned (.bool true) ∧ Below w.heap.size w w' := by
  have hG := h
  obtain ⟨hterms, vs, vp, rfl, hs, hp⟩ := h
  obtain ⟨_, sa, sc, rfl, hz1⟩ := id hs
  obtain ⟨_, pa, pc, rfl, hz2⟩ := id hp
  clear hz1 hz2
  have hx := two_boxes w (.cells #[.int .i64 G.terms, .slice sa G.syms.length sc, .slice pa G.prods.length pc] 25 (0, 0)) (.cells #[.int .u8 a.kind, .int .i64 a.to] 28 (0, 0))
  have hs2 : ((w.alloc (.cells #[.int .i64 G.terms, .slice sa G.syms.length sc, .slice pa G.prods.length pc] 25 (0, 0))).alloc (.cells #[.int .u8 a.kind, .int .i64 a.to] 28 (0, 0))).heap.size = w.heap.size + 1 + 1 := by simp
  obtain ⟨w1, hw1⟩ : ∃ w1, w1 = ((w.alloc (.cells #[.int .i64 G.terms, .slice sa G.syms.length sc, .slice pa G.prods.length pc] 25 (0, 0))).alloc (.cells #[.int .u8 a.kind, .int .i64 a.to] 28 (0, 0))).alloc (.cells #[.int .u8 b.kind, .int .i64 b.to] 28 (0, 0)) := ⟨_, rfl⟩
  have hB1 : Below w.heap.size w w1 := by rw [hw1]; exact below_alloc hx.2.2
  have o0 := alloc_older (o := .cells #[.int .u8 b.kind, .int .i64 b.to] 28 (0, 0)) hx.1
  have o1 := alloc_older (o := .cells #[.int .u8 b.kind, .int .i64 b.to] 28 (0, 0)) hx.2.1
  have o2 := alloc_at (o := .cells #[.int .u8 b.kind, .int .i64 b.to] 28 (0, 0)) hs2
  rw [← hw1] at o0 o1 o2
  have g0 : ∀ p : After w1, p.w.cell? ⟨w.heap.size, 0, none⟩ = some (.int .i64 G.terms) := after_obj o0 0 rfl
  have g1 : ∀ p : After w1, p.w.cell? ⟨w.heap.size, 1, none⟩ = some (.slice sa G.syms.length sc) := after_obj o0 1 rfl
  have g2 : ∀ p : After w1, p.w.cell? ⟨w.heap.size, 2, none⟩ = some (.slice pa G.prods.length pc) := after_obj o0 2 rfl
  have k0 : ∀ p : After w1, p.w.cell? ⟨w.heap.size + 1, 0, none⟩ = some (.int .u8 a.kind) := after_obj o1 0 rfl
  have k1 : ∀ p : After w1, p.w.cell? ⟨w.heap.size + 1, 1, none⟩ = some (.int .i64 a.to) := after_obj o1 1 rfl
  have l0 : ∀ p : After w1, p.w.cell? ⟨w.heap.size + 1 + 1, 0, none⟩ = some (.int .u8 b.kind) := after_obj o2 0 rfl
  have l1 : ∀ p : After w1, p.w.cell? ⟨w.heap.size + 1 + 1, 1, none⟩ = some (.int .i64 b.to) := after_obj o2 1 rfl
  have z0 : w1.cell? ⟨w.heap.size, 0, none⟩ = some (.int .i64 G.terms) := obj_cell o0 0 rfl
  have z1 : w1.cell? ⟨w.heap.size, 1, none⟩ = some (.slice sa G.syms.length sc) := obj_cell o0 1 rfl
  have z2 : w1.cell? ⟨w.heap.size, 2, none⟩ = some (.slice pa G.prods.length pc) := obj_cell o0 2 rfl
  have HA := Lib.hid fun (x : World) => awake_any x
  have HN := Lib.hid ((grammarOf_any G 2000 _ w1 (hG.fr (Fr.new hB1)) hf (by decide)).mono fun e w' hh => (show e = .returned (.int .i64 (partsG G 2000)) ∧ ∃ p : After w1, w' = p.w from ⟨hh.1, ⟨w', hh.2⟩, rfl⟩))
  have HG := Lib.hid (hG.fr (Fr.new hB1))
  have HW := Lib.hid hw1
  have HB := Lib.hid hB1
  unfold entVal
  clear hw1 hx hs2 o0 o1 o2 hB1 hG hs hp
  by_cases hmost : partsG G 2000 ≤ 2000
  · have hm1 : decide (2000 < partsG G 2000) = false := decide_eq_false (by omega)
    have hlen := (partsG_len hmost).1
    generalize partsG G 2000 = n at *
    have HL := Lib.hid fun p : After w1 => lentGrammar_any _ G p.w (HG.out.fr (Fr.new p.ok)) (by omega) (by omega)
    go_enter Try.func3, Try.ntmps3
    go_upto_region 1 with fail
    rw [← HW.out]
    go_upto_region 4 with (first | (go_at_call 9; refine HN.out.mono ?_; rintro e w' ⟨rfl, p1, rfl⟩) | (go_at_call 11; refine (HL.out _).mono ?_; rintro e w3 ⟨d1, c1, d2, c2, rfl, hl, hb3⟩))
    refine wp_atW (F := fun W => W.heap[w3.heap.size]? = some (.cells #[.int .i64 G.terms, .slice (some ⟨d1, 0, none⟩) G.syms.length c1, .slice (some ⟨d2, 0, none⟩) G.prods.length c2] 25 (0, 0)) ∧ LentG W p1.w.heap.size (.agg #[.int .i64 G.terms, .slice (some ⟨d1, 0, none⟩) G.syms.length c1, .slice (some ⟨d2, 0, none⟩) G.prods.length c2]) G ∧ Below w1.heap.size w1 W) ?_ ?_
    · exact ⟨alloc_obj _ _, hl.fr (Fr.alloc _ _), below_alloc (p1.ok.trans (hb3.mono p1.ok.size))⟩
    rintro W ⟨q0, hlW, hBW⟩
    have G0 := fun q : After W => g0 (q.down hBW)
    have G1 := fun q : After W => g1 (q.down hBW)
    have G2 := fun q : After W => g2 (q.down hBW)
    have K0 := fun q : After W => k0 (q.down hBW)
    have K1 := fun q : After W => k1 (q.down hBW)
    have L0 := fun q : After W => l0 (q.down hBW)
    have L1 := fun q : After W => l1 (q.down hBW)
    have I0 : ∀ q : After W, q.w.cell? ⟨w3.heap.size, 0, none⟩ = some (.int .i64 G.terms) := after_obj q0 0 rfl
    have I1 : ∀ q : After W, q.w.cell? ⟨w3.heap.size, 1, none⟩ = some (.slice (some ⟨d1, 0, none⟩) G.syms.length c1) := after_obj q0 1 rfl
    have I2 : ∀ q : After W, q.w.cell? ⟨w3.heap.size, 2, none⟩ = some (.slice (some ⟨d2, 0, none⟩) G.prods.length c2) := after_obj q0 2 rfl
    have i0 := I0 ⟨W, Below.refl _ _⟩
    have i1 := I1 ⟨W, Below.refl _ _⟩
    have i2 := I2 ⟨W, Below.refl _ _⟩
    have a0 := K0 ⟨W, Below.refl _ _⟩
    have a1 := K1 ⟨W, Below.refl _ _⟩
    have b0 := L0 ⟨W, Below.refl _ _⟩
    have b1 := L1 ⟨W, Below.refl _ _⟩
    simp only [After.down] at G0 G1 G2 K0 K1 L0 L1 i0 i1 i2 a0 a1 b0 b1
    have hp1 := pick_any G term a b _ W hlW.gram ha hb
    have hp2 := fun q : After W => after_call q (pick22_any G term a b _ q.w ((HG.out.fr (Fr.new hBW)).fr (Fr.new q.ok)))
    have hk := fun q : After W => after_call q (keptGrammar_any p1.w.heap.size _ _ G q.w (hlW.fr (Fr.new q.ok)) ((HG.out.fr (Fr.new hBW)).fr (Fr.new q.ok)))
    unfold entVal at hp1 hp2
    generalize pickE G term a b = x at *
    obtain ⟨x1, x2⟩ := x
    have HP1 := Lib.hid (hp1.mono fun e w' hh => (show _ ∧ ∃ q : After W, w' = q.w from ⟨hh.1, ⟨w', hh.2⟩, rfl⟩))
    have HP2 := Lib.hid hp2
    have HK := Lib.hid hk
    have HAW := Lib.hid fun q : After W => after_call q (HA.out q.w)
    have HBB := Lib.hid (HB.out.trans (hBW.mono HB.out.size))
    clear hp1 hp2 hk hl hb3 q0 hlW hBW g0 g1 g2 k0 k1 l0 l1 z0 z1 z2 HL HN HA HG HB HW hm1 hmost
    go_wp2_with (first | (go_at_call 12; refine HP1.out.mono ?_; rintro e w' ⟨rfl, q1, rfl⟩) | (go_at_call 13; refine (HP2.out _).mono ?_; rintro e w' ⟨rfl, q2, rfl⟩) | (go_at_call 14; refine (HK.out _).mono ?_; rintro e w' ⟨rfl, q3, rfl⟩) | (go_at_call 10; refine (HAW.out _).mono ?_; rintro e w' ⟨rfl, q4, rfl⟩))
    go_ret
    exact ⟨rfl, HBB.out.trans (q4.ok.mono HBB.out.size)⟩
  · have hm1 : decide (2000 < partsG G 2000) = true := decide_eq_true (by omega)
    generalize partsG G 2000 = n at *
    go_enter Try.func3, Try.ntmps3
    go_upto_region 1 with fail
    rw [← HW.out]
    go_wp2_with (first | (go_at_call 9; refine HN.out.mono ?_; rintro e w' ⟨rfl, p1, rfl⟩) | (go_at_call 10; refine (HA.out _).mono ?_; rintro e w' ⟨rfl, hb4⟩))
    go_ret
    exact ⟨rfl, HB.out.trans ((p1.ok.trans (hb4.mono p1.ok.size)).mono HB.out.size)⟩
end Go.Proofs.Ytijdaihcogbliaa
