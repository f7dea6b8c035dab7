/-
  Chapter 24's statements: the chapter's examples hold.
-/
import Derived.Test.YtehaoiimhgkckaaPb5
import Derived.Test.YtehaoiimhgkckaaPk4
namespace Go.Proofs.Ytehaoiimhgkckaa
open Go.RowKit
set_option maxHeartbeats 400000

theorem fr_newer {w1 W W' : World} {b : Nat} (h : Fr nothing w1 W) (k : Fr (only b) W W') (hb : w1.heap.size ≤ b) : Fr nothing w1 W' :=
  ⟨k.os.trans h.os, k.tape.trans h.tape, k.output.trans h.output, Nat.le_trans h.size k.size, fun i hi hn => (k.block i (Nat.lt_of_lt_of_le hi h.size) (fun e => by have e' : i = b := e; omega)).trans (h.block i hi hn)⟩
set_option maxRecDepth 100000 in
set_option maxHeartbeats 8000000 in
theorem awake24_any (w : World) : Calls Try.prog 8 #[] w fun e w' => e = .returned (.bool true) ∧ Below w.heap.size w w' := by
  have hbx := alloc_obj w (.cells #[.int .u8 2, .int .i64 1] 31 (0, 0))
  obtain ⟨w1, hw1⟩ : ∃ w1, w1 = w.alloc (.cells #[.int .u8 2, .int .i64 1] 31 (0, 0)) := ⟨_, rfl⟩
  have hf1 : Fr nothing w w1 := by rw [hw1]; exact Fr.alloc _ _
  rw [← hw1] at hbx
  have HB1 := Lib.hid hbx
  have HF1 := Lib.hid hf1
  have HW := Lib.hid hw1
  clear hbx hf1 hw1
  go_enter Try.func8, Try.ntmps8
  go_upto_region 2 with fail
  rw [← HW.out]
  refine wp_region_any (by kernel_rfl) (region_inv (InvA w1) (by kernel_rfl) (by kernel_rfl) ⟨.inl rfl, (fun _ _ _ h => by cases h), (fun _ h => by cases h), (fun _ h => by cases h), (fun _ h => by cases h), (fun _ h => by cases h), (fun _ h => by cases h), Fr.drew _⟩ ?_ ?_)
  · intro j o hj σ W A hI hn hdep hA1 hA2
    have c0 : W.cell? ⟨w.heap.size, 0, none⟩ = some (.int .u8 2) := obj_cell (hI.old.obj HB1.out fun e => e) 0 rfl
    have c1 : W.cell? ⟨w.heap.size, 1, none⟩ = some (.int .i64 1) := obj_cell (hI.old.obj HB1.out fun e => e) 1 rfl
    have a1 := hA1 1 (by kernel_rfl)
    have hlate : (j < 12 ∨ j = 13) → σ 14 = none := fun h => hI.late.resolve_right fun hk => hk j h hn
    simp only [List.getElem?_toArray, List.getElem?_cons_succ, List.getElem?_cons_zero, Option.getD_some] at a1
    match j with
    | 0 =>
      obtain rfl := Option.some.inj hj
      go_simp
      refine (one_any W).mono ?_
      rintro e W2 ⟨v, rfl, hg, hb⟩
      dsimp only
      obtain ⟨_, vs, vp, rfl, hs, hp⟩ := id hg
      obtain ⟨sa, sc, rfl, _⟩ := Rows'.parts hs
      obtain ⟨qa, qc, rfl, _⟩ := Rows'.parts hp
      exact ⟨_, rfl, hI.step (Fr.new hb) 0 _ hn (by decide) (by decide) (fun _ => ⟨sa, sc, qa, qc, rfl, hg⟩) (fun e => absurd e (by decide)) (fun e => absurd e (by decide)) (fun e => absurd e (by decide))⟩
    | 1 =>
      obtain rfl := Option.some.inj hj
      go_simp
      exact ⟨_, rfl, hI.step (Fr.refl _ _) 1 _ hn (by decide) (by decide) (fun _ => rfl) (fun e => absurd e (by decide)) (fun e => absurd e (by decide)) (fun e => absurd e (by decide))⟩
    | 2 =>
      obtain rfl := Option.some.inj hj
      go_simp
      exact ⟨_, rfl, hI.step (Fr.refl _ _) 2 _ hn (by decide) (by decide) (fun _ => rfl) (fun e => absurd e (by decide)) (fun e => absurd e (by decide)) (fun e => absurd e (by decide))⟩
    | 3 =>
      obtain rfl := Option.some.inj hj
      go_simp
      exact ⟨_, rfl, hI.step (Fr.refl _ _) 3 _ hn (by decide) (by decide) (fun _ => rfl) (fun e => absurd e (by decide)) (fun e => absurd e (by decide)) (fun e => absurd e (by decide))⟩
    | 4 =>
      obtain rfl := Option.some.inj hj
      obtain ⟨v1, e1⟩ := hdep 1 (by kernel_rfl)
      have a9 := hA2 1 9 v1 (by kernel_rfl) (Nat.le_of_ble_eq_true (by kernel_rfl)) e1
      obtain ⟨v2, e2⟩ := hdep 2 (by kernel_rfl)
      have a10 := hA2 2 10 v2 (by kernel_rfl) (Nat.le_of_ble_eq_true (by kernel_rfl)) e2
      obtain ⟨v3, e3⟩ := hdep 3 (by kernel_rfl)
      have a11 := hA2 3 11 v3 (by kernel_rfl) (Nat.le_of_ble_eq_true (by kernel_rfl)) e3
      obtain rfl : v1 = vR := hI.all (hlate (by decide)) 1 v1 e1
      obtain rfl : v2 = vR := hI.all (hlate (by decide)) 2 v2 e2
      obtain rfl : v3 = vZ := hI.all (hlate (by decide)) 3 v3 e3
      go_simp
      exact ⟨_, rfl, hI.step (Fr.alloc _ _) 4 _ hn (by decide) (by decide) (fun _ => ⟨_, rfl, cells_new _ _ _ rfl _ _⟩) (fun e => absurd e (by decide)) (fun e => absurd e (by decide)) (fun e => absurd e (by decide))⟩
    | 5 =>
      obtain rfl := Option.some.inj hj
      obtain ⟨v4, e4⟩ := hdep 4 (by kernel_rfl)
      have a12 := hA2 4 12 v4 (by kernel_rfl) (Nat.le_of_ble_eq_true (by kernel_rfl)) e4
      obtain ⟨b4, rfl, h4⟩ := hI.all (hlate (by decide)) 4 v4 e4
      go_simp
      exact ⟨_, rfl, hI.step (Fr.alloc _ _) 5 _ hn (by decide) (by decide) (fun _ => ⟨_, b4, rfl, obj_cell (alloc_obj W _) 0 rfl, h4.fr (Fr.alloc (ch := nothing) _ _) fun e => e⟩) (fun e => absurd e (by decide)) (fun e => absurd e (by decide)) (fun e => absurd e (by decide))⟩
    | 6 =>
      obtain rfl := Option.some.inj hj
      go_simp
      exact ⟨_, rfl, hI.step (Fr.alloc _ _) 6 _ hn (by decide) (by decide) (fun _ => ⟨_, rfl, cells_new _ _ _ rfl _ _⟩) (fun e => absurd e (by decide)) (fun e => absurd e (by decide)) (fun e => absurd e (by decide))⟩
    | 7 =>
      obtain rfl := Option.some.inj hj
      obtain ⟨v6, e6⟩ := hdep 6 (by kernel_rfl)
      have a14 := hA2 6 14 v6 (by kernel_rfl) (Nat.le_of_ble_eq_true (by kernel_rfl)) e6
      obtain ⟨b6, rfl, h6⟩ := hI.all (hlate (by decide)) 6 v6 e6
      go_simp
      exact ⟨_, rfl, hI.step (Fr.alloc _ _) 7 _ hn (by decide) (by decide) (fun _ => ⟨_, b6, rfl, obj_cell (alloc_obj W _) 0 rfl, h6.fr (Fr.alloc (ch := nothing) _ _) fun e => e⟩) (fun e => absurd e (by decide)) (fun e => absurd e (by decide)) (fun e => absurd e (by decide))⟩
    | 8 =>
      obtain rfl := Option.some.inj hj
      obtain ⟨v5, e5⟩ := hdep 5 (by kernel_rfl)
      have a13 := hA2 5 13 v5 (by kernel_rfl) (Nat.le_of_ble_eq_true (by kernel_rfl)) e5
      obtain ⟨v7, e7⟩ := hdep 7 (by kernel_rfl)
      have a15 := hA2 7 15 v7 (by kernel_rfl) (Nat.le_of_ble_eq_true (by kernel_rfl)) e7
      obtain ⟨g5, b5, rfl, h5, k5⟩ := hI.all (hlate (by decide)) 5 v5 e5
      obtain ⟨g7, b7, rfl, h7, k7⟩ := hI.all (hlate (by decide)) 7 v7 e7
      go_simp
      exact ⟨_, rfl, hI.step (Fr.refl _ _) 8 _ hn (by decide) (by decide) (fun _ => ⟨g5, g7, b5, b7, rfl, ⟨h5, h7, k5, k7, ⟨by decide, by unfold maxLen; decide⟩, ⟨by decide, by unfold maxLen; decide⟩⟩⟩) (fun e => absurd e (by decide)) (fun e => absurd e (by decide)) (fun e => absurd e (by decide))⟩
    | 9 =>
      obtain rfl := Option.some.inj hj
      obtain ⟨v0, e0⟩ := hdep 0 (by kernel_rfl)
      have a8 := hA2 0 8 v0 (by kernel_rfl) (Nat.le_of_ble_eq_true (by kernel_rfl)) e0
      obtain ⟨v8, e8⟩ := hdep 8 (by kernel_rfl)
      have a16 := hA2 8 16 v8 (by kernel_rfl) (Nat.le_of_ble_eq_true (by kernel_rfl)) e8
      obtain ⟨sa, sc, qa, qc, rfl, hg⟩ := hI.all (hlate (by decide)) 0 v0 e0
      obtain ⟨ga, gg, rb, ib, rfl, ht⟩ := hI.all (hlate (by decide)) 8 v8 e8
      go_simp
      refine (pack_one _ ga 1 gg 1 rb 3 ib 2 W hg ht).mono ?_
      rintro e W2 ⟨dv, bv, cv, nv, gb, gc, gn, rfl, hp, hb⟩
      dsimp only
      exact ⟨_, rfl, hI.step (Fr.new hb) 9 _ hn (by decide) (by decide) (fun _ => ⟨dv, bv, cv, nv, gb, gc, gn, rfl, hp⟩) (fun e => absurd e (by decide)) (fun e => absurd e (by decide)) (fun e => absurd e (by decide))⟩
    | 10 =>
      obtain rfl := Option.some.inj hj
      obtain ⟨v9, e9⟩ := hdep 9 (by kernel_rfl)
      have a17 := hA2 9 17 v9 (by kernel_rfl) (Nat.le_of_ble_eq_true (by kernel_rfl)) e9
      obtain ⟨dv, bv, cv, nv, gb, gc, gn, rfl, hp⟩ := hI.all (hlate (by decide)) 9 v9 e9
      go_simp
      exact ⟨_, rfl, hI.step (Fr.refl _ _) 10 _ hn (by decide) (by decide) (fun _ => ⟨dv, bv, cv, nv, gb, gc, gn, rfl, hp⟩) (fun _ => ⟨_, rfl⟩) (fun e => absurd e (by decide)) (fun e => absurd e (by decide))⟩
    | 11 =>
      obtain rfl := Option.some.inj hj
      obtain ⟨v10, e10⟩ := hdep 10 (by kernel_rfl)
      have a7 := hA2 10 7 v10 (by kernel_rfl) (Nat.le_of_ble_eq_true (by kernel_rfl)) e10
      obtain ⟨dv, bv, cv, nv, gb, gc, gn, rfl, hp⟩ := hI.all (hlate (by decide)) 10 v10 e10
      go_simp
      exact ⟨_, rfl, hI.step (Fr.refl _ _) 11 _ hn (by decide) (by decide) (fun _ => trivial) (fun e => absurd e (by decide)) (fun _ => ⟨dv, bv, cv, nv, gb, gc, gn, rfl, hp⟩) (fun e => absurd e (by decide))⟩
    | 12 =>
      obtain rfl := Option.some.inj hj
      obtain ⟨v10, e10⟩ := hdep 10 (by kernel_rfl)
      have a7 := hA2 10 7 v10 (by kernel_rfl) (Nat.le_of_ble_eq_true (by kernel_rfl)) e10
      obtain ⟨x, rfl⟩ := hI.p10 v10 e10
      go_simp
      exact ⟨_, rfl, hI.step (Fr.refl _ _) 12 _ hn (by decide) (by decide) (fun _ => trivial) (fun e => absurd e (by decide)) (fun e => absurd e (by decide)) (fun _ => rfl)⟩
    | 13 =>
      obtain rfl := Option.some.inj hj
      go_simp
      have h14 := hlate (by decide)
      refine ⟨_, rfl, ⟨.inl ((updS_other (by decide)).trans h14), fun _ k u hk => ?_, fun u hu => hI.p10 u ((updS_other (by decide)).symm.trans hu), fun u hu => ?_, fun u hu => hI.p12 u ((updS_other (by decide)).symm.trans hu), fun u hu => hI.p15 u ((updS_other (by decide)).symm.trans hu), fun u hu => ?_, hI.old.trans (Fr.alloc _ _)⟩⟩
      · by_cases e : k = 13
        · subst e
          trivial
        · rw [updS_other e] at hk
          exact (hI.all h14 k u hk).fr (Fr.alloc _ _)
      · obtain ⟨dv, bv, cv, nv, gb, gc, gn, h1, h2⟩ := hI.p11 u ((updS_other (by decide)).symm.trans hu)
        exact ⟨dv, bv, cv, nv, gb, gc, gn, h1, h2.fr (ch := nothing) (Fr.alloc _ _) fun _ e => e.elim⟩
      · rw [updS_same] at hu
        obtain rfl := Option.some.inj hu
        exact ⟨_, rfl, hI.old.size, .inl ⟨(updS_other (by decide)).trans h14, alloc_obj W _⟩⟩
    | 14 =>
      obtain rfl := Option.some.inj hj
      obtain ⟨v11, e11⟩ := hdep 11 (by kernel_rfl)
      have a18 := hA2 11 18 v11 (by kernel_rfl) (Nat.le_of_ble_eq_true (by kernel_rfl)) e11
      obtain ⟨v13, e13⟩ := hdep 13 (by kernel_rfl)
      have a2 := hA2 13 2 v13 (by kernel_rfl) (Nat.le_of_ble_eq_true (by kernel_rfl)) e13
      obtain ⟨dv, bv, cv, nv, gb, gc, gn, rfl, hp⟩ := hI.p11 v11 e11
      obtain ⟨b, rfl, hb1, hG⟩ := hI.p13 v13 e13
      have hob : W.heap[b]? = some (outO nilS nilS nilS nilS nilS nilS nilS) := by
        rcases hG with ⟨_, h⟩ | ⟨h, _⟩
        · exact h
        · exact absurd hn h
      have hdp : ∀ k, (k < 12 ∨ k = 13) → ∃ v, σ k = some v := fun k hk => hdep k (by rcases (by omega : k = 0 ∨ k = 1 ∨ k = 2 ∨ k = 3 ∨ k = 4 ∨ k = 5 ∨ k = 6 ∨ k = 7 ∨ k = 8 ∨ k = 9 ∨ k = 10 ∨ k = 11 ∨ k = 13) with rfl | rfl | rfl | rfl | rfl | rfl | rfl | rfl | rfl | rfl | rfl | rfl | rfl <;> kernel_rfl)
      have hp' := hp
      obtain ⟨s0, t0, rfl, _⟩ := own_cells hp.dv
      obtain ⟨s1, t1, rfl, _⟩ := own_cells hp.bv
      obtain ⟨s2, t2, rfl, _⟩ := own_cells hp.cv
      obtain ⟨s3, t3, rfl, _⟩ := own_cells hp.nv
      obtain ⟨s4, t4, rfl, _⟩ := own_cells hp.gb
      obtain ⟨s5, t5, rfl, _⟩ := own_cells hp.gc
      obtain ⟨s6, t6, rfl, _⟩ := own_cells hp.gn
      simp only [List.length_cons, List.length_nil, Nat.zero_add, Nat.reduceAdd] at hp hp' a18 e11
      have x0 : W.cell? ⟨b, 0, none⟩ = some nilS := obj_cell hob 0 rfl
      have f0 := obj_frozen hob 0
      have x1 : W.cell? ⟨b, 1, none⟩ = some nilS := obj_cell hob 1 rfl
      have f1 := obj_frozen hob 1
      have x2 : W.cell? ⟨b, 2, none⟩ = some nilS := obj_cell hob 2 rfl
      have f2 := obj_frozen hob 2
      have x3 : W.cell? ⟨b, 3, none⟩ = some nilS := obj_cell hob 3 rfl
      have f3 := obj_frozen hob 3
      have x4 : W.cell? ⟨b, 4, none⟩ = some nilS := obj_cell hob 4 rfl
      have f4 := obj_frozen hob 4
      have x5 : W.cell? ⟨b, 5, none⟩ = some nilS := obj_cell hob 5 rfl
      have f5 := obj_frozen hob 5
      have x6 : W.cell? ⟨b, 6, none⟩ = some nilS := obj_cell hob 6 rfl
      have f6 := obj_frozen hob 6
      go_simp
      have o0 := setCell_obj hob (i := 0) (.slice s0 1 t0)
      have o1 := setCell_obj o0 (i := 1) (.slice s1 1 t1)
      have o2 := setCell_obj o1 (i := 2) (.slice s2 3 t2)
      have o3 := setCell_obj o2 (i := 3) (.slice s3 3 t3)
      have o4 := setCell_obj o3 (i := 4) (.slice s4 1 t4)
      have o5 := setCell_obj o4 (i := 5) (.slice s5 2 t5)
      have o6 := setCell_obj o5 (i := 6) (.slice s6 2 t6)
      have kk : Fr (only b) W ((((((((W).setCell ⟨b, 0, none⟩ (.slice s0 1 t0)).setCell ⟨b, 1, none⟩ (.slice s1 1 t1)).setCell ⟨b, 2, none⟩ (.slice s2 3 t2)).setCell ⟨b, 3, none⟩ (.slice s3 3 t3)).setCell ⟨b, 4, none⟩ (.slice s4 1 t4)).setCell ⟨b, 5, none⟩ (.slice s5 2 t5)).setCell ⟨b, 6, none⟩ (.slice s6 2 t6)) := ((((((Fr.setCell (W) ⟨b, 0, none⟩ (.slice s0 1 t0)).trans (Fr.setCell ((W).setCell ⟨b, 0, none⟩ (.slice s0 1 t0)) ⟨b, 1, none⟩ (.slice s1 1 t1))).trans (Fr.setCell (((W).setCell ⟨b, 0, none⟩ (.slice s0 1 t0)).setCell ⟨b, 1, none⟩ (.slice s1 1 t1)) ⟨b, 2, none⟩ (.slice s2 3 t2))).trans (Fr.setCell ((((W).setCell ⟨b, 0, none⟩ (.slice s0 1 t0)).setCell ⟨b, 1, none⟩ (.slice s1 1 t1)).setCell ⟨b, 2, none⟩ (.slice s2 3 t2)) ⟨b, 3, none⟩ (.slice s3 3 t3))).trans (Fr.setCell (((((W).setCell ⟨b, 0, none⟩ (.slice s0 1 t0)).setCell ⟨b, 1, none⟩ (.slice s1 1 t1)).setCell ⟨b, 2, none⟩ (.slice s2 3 t2)).setCell ⟨b, 3, none⟩ (.slice s3 3 t3)) ⟨b, 4, none⟩ (.slice s4 1 t4))).trans (Fr.setCell ((((((W).setCell ⟨b, 0, none⟩ (.slice s0 1 t0)).setCell ⟨b, 1, none⟩ (.slice s1 1 t1)).setCell ⟨b, 2, none⟩ (.slice s2 3 t2)).setCell ⟨b, 3, none⟩ (.slice s3 3 t3)).setCell ⟨b, 4, none⟩ (.slice s4 1 t4)) ⟨b, 5, none⟩ (.slice s5 2 t5))).trans (Fr.setCell (((((((W).setCell ⟨b, 0, none⟩ (.slice s0 1 t0)).setCell ⟨b, 1, none⟩ (.slice s1 1 t1)).setCell ⟨b, 2, none⟩ (.slice s2 3 t2)).setCell ⟨b, 3, none⟩ (.slice s3 3 t3)).setCell ⟨b, 4, none⟩ (.slice s4 1 t4)).setCell ⟨b, 5, none⟩ (.slice s5 2 t5)) ⟨b, 6, none⟩ (.slice s6 2 t6))
      clear x0 f0 x1 f1 x2 f2 x3 f3 x4 f4 x5 f5 x6 f6
      generalize (((((((W).setCell ⟨b, 0, none⟩ (.slice s0 1 t0)).setCell ⟨b, 1, none⟩ (.slice s1 1 t1)).setCell ⟨b, 2, none⟩ (.slice s2 3 t2)).setCell ⟨b, 3, none⟩ (.slice s3 3 t3)).setCell ⟨b, 4, none⟩ (.slice s4 1 t4)).setCell ⟨b, 5, none⟩ (.slice s5 2 t5)).setCell ⟨b, 6, none⟩ (.slice s6 2 t6) = W2 at *
      refine ⟨undef, ⟨.inr fun k hk => ?_, fun h => ?_, fun u hu => hI.p10 u ((updS_other (by decide)).symm.trans hu), fun u hu => ?_, fun u hu => hI.p12 u ((updS_other (by decide)).symm.trans hu), fun u hu => hI.p15 u ((updS_other (by decide)).symm.trans hu), fun u hu => ?_, ?_⟩⟩
      · have hne : k ≠ 14 := by omega
        rw [updS_other hne]
        obtain ⟨v, hv⟩ := hdp k hk
        rw [hv]
        exact fun h => by cases h
      · rw [updS_same] at h
        cases h
      · have hu' := (updS_other (σ := σ) (by decide)).symm.trans hu
        rw [e11] at hu'
        obtain rfl := Option.some.inj hu'
        exact ⟨_, _, _, _, _, _, _, rfl, hp.fr kk fun g e => by
          have e' : g = b := e
          subst e'
          exact ⟨_, _, hob⟩⟩
      · have hu' := (updS_other (σ := σ) (by decide)).symm.trans hu
        rw [e13] at hu'
        obtain rfl := Option.some.inj hu'
        exact ⟨b, rfl, hb1, .inr ⟨by rw [updS_same]; exact (fun h => by cases h), _, _, _, _, _, _, _, (updS_other (by decide)).trans e11, o6⟩⟩
      · exact fr_newer hI.old kk hb1
    | 15 =>
      obtain rfl := Option.some.inj hj
      obtain ⟨v12, e12⟩ := hdep 12 (by kernel_rfl)
      have a19 := hA2 12 19 v12 (by kernel_rfl) (Nat.le_of_ble_eq_true (by kernel_rfl)) e12
      obtain rfl := hI.p12 v12 e12
      go_simp
      exact ⟨_, rfl, hI.step (Fr.refl _ _) 15 _ hn (by decide) (by decide) (fun _ => trivial) (fun e => absurd e (by decide)) (fun e => absurd e (by decide)) (fun _ => rfl)⟩
    | n + 16 => exact absurd hj (by simp)
  · intro σ W hI hall
    obtain ⟨u0, h0⟩ := hall 0 (Nat.le_of_ble_eq_true (by kernel_rfl))
    obtain ⟨u1, h1⟩ := hall 1 (Nat.le_of_ble_eq_true (by kernel_rfl))
    obtain ⟨u2, h2⟩ := hall 2 (Nat.le_of_ble_eq_true (by kernel_rfl))
    obtain ⟨u3, h3⟩ := hall 3 (Nat.le_of_ble_eq_true (by kernel_rfl))
    obtain ⟨u4, h4⟩ := hall 4 (Nat.le_of_ble_eq_true (by kernel_rfl))
    obtain ⟨u5, h5⟩ := hall 5 (Nat.le_of_ble_eq_true (by kernel_rfl))
    obtain ⟨u6, h6⟩ := hall 6 (Nat.le_of_ble_eq_true (by kernel_rfl))
    obtain ⟨u7, h7⟩ := hall 7 (Nat.le_of_ble_eq_true (by kernel_rfl))
    obtain ⟨u8, h8⟩ := hall 8 (Nat.le_of_ble_eq_true (by kernel_rfl))
    obtain ⟨u9, h9⟩ := hall 9 (Nat.le_of_ble_eq_true (by kernel_rfl))
    obtain ⟨u10, h10⟩ := hall 10 (Nat.le_of_ble_eq_true (by kernel_rfl))
    obtain ⟨u11, h11⟩ := hall 11 (Nat.le_of_ble_eq_true (by kernel_rfl))
    obtain ⟨u12, h12⟩ := hall 12 (Nat.le_of_ble_eq_true (by kernel_rfl))
    obtain ⟨u13, h13⟩ := hall 13 (Nat.le_of_ble_eq_true (by kernel_rfl))
    obtain ⟨u14, h14⟩ := hall 14 (Nat.le_of_ble_eq_true (by kernel_rfl))
    obtain ⟨u15, h15⟩ := hall 15 (Nat.le_of_ble_eq_true (by kernel_rfl))
    obtain ⟨b, rfl, hb1, hG⟩ := hI.p13 u13 h13
    obtain ⟨dv, bv, cv, nv, gb, gc, gn, e11, hob⟩ : ∃ dv bv cv nv gb gc gn, σ 11 = some (.agg #[dv, bv, cv, nv, gb, gc, gn]) ∧ W.heap[b]? = some (outO dv bv cv nv gb gc gn) := by
      rcases hG with ⟨h, _⟩ | ⟨_, h⟩
      · rw [h14] at h; cases h
      · exact h
    obtain ⟨dv', bv', cv', nv', gb', gc', gn', he, hp⟩ := hI.p11 _ e11
    simp only [Value.agg.injEq, Array.mk.injEq, List.cons.injEq, and_true] at he
    obtain ⟨rfl, rfl, rfl, rfl, rfl, rfl, rfl⟩ := he
    obtain rfl := hI.p12 u12 h12
    obtain rfl := hI.p15 u15 h15
    have hold := hI.old
    simp only [dstL, fillL, List.map_cons, List.map_nil, Nat.zero_add, Nat.reduceAdd, h0, h1, h2, h3, h4, h5, h6, h7, h8, h9, h10, h11, h12, h13, h14, h15, Act.put, List.setIfInBounds_toArray, List.set_cons_zero, List.set_cons_succ]
    have HQ := Lib.hid (And.intro hob (And.intro hp hold))
    clear h0 h1 h2 h3 h4 h5 h6 h7 h8 h9 h10 h11 h12 h13 h14 h15 e11 hG hI hall hob hp hold hb1
    go_upto_region 3 with fail
    go_upto_region 4 with (first | (go_at_call 25; refine (one_any W).mono ?_; rintro e w3 ⟨v3, rfl, hg3, hb3⟩; obtain ⟨_, vs, vp, rfl, hs3, hp3⟩ := id hg3; obtain ⟨sa, sc, rfl, hx3⟩ := Rows'.parts hs3; obtain ⟨qa, qc, rfl, hy3⟩ := Rows'.parts hp3) | (go_at_call 24; refine (pack_none sa qa sc qc w3 hg3).mono ?_; rintro e w4 ⟨rfl, hb4⟩))
    refine wp_atW (F := fun V => Fr nothing W V) (((Fr.new hb3).trans (Fr.new hb4)).trans (Fr.alloc _ _)) ?_
    rintro V hV
    have hne := after_ne V
    have hfo := HQ.out.2.2.trans hV
    have oB := hV.obj HQ.out.1 fun e => e
    have oR := hfo.obj HB1.out fun e => e
    have hpk := fun p : After V => ((HQ.out.2.1.fr (ch := nothing) hV fun _ e => e.elim).fr (ch := nothing) (Fr.new p.ok) fun _ e => e.elim).pkv
    have x0 := after_obj oB 0 (v := dv) rfl
    have x1 := after_obj oB 1 (v := bv) rfl
    have x2 := after_obj oB 2 (v := cv) rfl
    have x3 := after_obj oB 3 (v := nv) rfl
    have x4 := after_obj oB 4 (v := gb) rfl
    have x5 := after_obj oB 5 (v := gc) rfl
    have x6 := after_obj oB 6 (v := gn) rfl
    have r0 := after_obj oR 0 (v := .int .u8 2) rfl
    have r1 := after_obj oR 1 (v := .int .i64 1) rfl
    have nilI : ∀ U : World, Ints U nilS [] := fun U => Ints.nil U
    have nilP : ∀ U : World, PkV U nilS nilS nilS nilS nilS nilS nilS ⟨[], [], [], [], [], [], []⟩ := fun U => ⟨nilI U, nilI U, nilI U, ⟨by simp, none, 0, rfl, Nat.le_refl _, by unfold maxLen; omega, .inl rfl⟩, nilI U, nilI U, nilI U⟩
    have i0 : i64 0 := by unfold i64; omega
    have i1 : i64 1 := by unfold i64; omega
    have i2 : i64 2 := by unfold i64; omega
    have H1 := Lib.hid fun p : After V => after_call p (packAct_any packP _ _ _ _ _ _ _ 0 0 p.w (hpk p) i0 i0)
    have H2 := Lib.hid fun p : After V => after_call p (packAct_any packP _ _ _ _ _ _ _ 0 1 p.w (hpk p) i0 i1)
    have H3 := Lib.hid fun p : After V => after_call p (packAct_any packP _ _ _ _ _ _ _ 0 2 p.w (hpk p) i0 i2)
    have H4 := Lib.hid fun p : After V => after_call p (packGoto_any packP _ _ _ _ _ _ _ 0 0 p.w (hpk p) i0 i0)
    have H5 := Lib.hid fun p : After V => after_call p (packGoto_any packP _ _ _ _ _ _ _ 0 1 p.w (hpk p) i0 i1)
    have H6 := Lib.hid fun p : After V => after_call p (packAct_any _ _ _ _ _ _ _ _ 0 0 p.w (nilP p.w) i0 i0)
    have H7 := Lib.hid fun p : After V => after_call p (packGoto_any _ _ _ _ _ _ _ _ 0 0 p.w (nilP p.w) i0 i0)
    rw [show acV (actE packP 0 0) = vR by kernel_rfl] at H1
    rw [show acV (actE packP 0 1) = vR by kernel_rfl] at H2
    rw [show acV (actE packP 0 2) = vZ by kernel_rfl] at H3
    rw [show gotoE packP 0 0 = -1 by kernel_rfl] at H4
    rw [show gotoE packP 0 1 = 0 by kernel_rfl] at H5
    rw [show acV (actE ⟨[], [], [], [], [], [], []⟩ 0 0) = vZ by kernel_rfl] at H6
    rw [show gotoE ⟨[], [], [], [], [], [], []⟩ 0 0 = -1 by kernel_rfl] at H7
    have HB := Lib.hid (HF1.out.trans hfo)
    clear hV hfo oB oR hpk nilI nilP i0 i1 i2 hg3 hb3 hb4 hs3 hp3 hx3 hy3
    refine wp_region_after V (by kernel_rfl) (by kernel_rfl) (Below.refl _ _) ?_
    repeat (go_big_quiet_step (first | with_reducible exact H1.out _ | with_reducible exact H2.out _ | with_reducible exact H3.out _ | with_reducible exact H4.out _ | with_reducible exact H5.out _ | with_reducible exact H6.out _ | with_reducible exact H7.out _))
    refine wpQuiet_nil ?_
    intro _ hw'
    obtain ⟨q, hw''⟩ := hw'
    subst hw''
    go_wp2
    go_ret
    exact ⟨rfl, (HB.out.trans (Fr.new q.ok)).below_new⟩
end Go.Proofs.Ytehaoiimhgkckaa
