/-
  PackNumbers: the walk.
-/
import Derived.Test.YtehaoiimhgkckaaPn2
namespace Go.Proofs.Ytehaoiimhgkckaa
open Go.RowKit
set_option maxHeartbeats 400000

def nums11 : List Int := [-9223372036854775808, -9223372036854775807, -5, -1, 0, 1, 2, 3, 4, 9223372036854775806, 9223372036854775807]
theorem nums_ok : ∀ i : Nat, i < 11 → i64 (nums11.getD i 0) := fun i hi => by
  rcases (by omega : i = 0 ∨ i = 1 ∨ i = 2 ∨ i = 3 ∨ i = 4 ∨ i = 5 ∨ i = 6 ∨ i = 7 ∨ i = 8 ∨ i = 9 ∨ i = 10) with rfl | rfl | rfl | rfl | rfl | rfl | rfl | rfl | rfl | rfl | rfl <;> simp [nums11, i64]
set_option maxRecDepth 100000 in
set_option maxHeartbeats 16000000 in
theorem packNumbers_any (w : World) : Calls Try.prog 4 #[] w fun e w' => e = .returned (.bool true) ∧ Below w.heap.size w w' := by
  have hnb := alloc_obj w (rowI nums11)
  have HN := Lib.hid hnb
  clear hnb
  go_enter Try.func4, Try.ntmps4
  go_upto_region 2 with fail
  have hrow : (Obj.cells #[.int .i64 (-9223372036854775808), .int .i64 (-9223372036854775807), .int .i64 (-5), .int .i64 (-1), .int .i64 0, .int .i64 1, .int .i64 2, .int .i64 3, .int .i64 4, .int .i64 9223372036854775806, .int .i64 9223372036854775807] 3 (0, 0)) = rowI nums11 := rfl
  rw [hrow]
  clear hrow
  refine wp_atW (F := fun W => Fr nothing w W ∧ W.heap[w.heap.size]? = some (rowI nums11)) ⟨Fr.alloc _ _, HN.out⟩ ?_
  rintro w1 ⟨hf1, hn1⟩
  obtain ⟨nb, hnb⟩ : ∃ nb, nb = w.heap.size := ⟨_, rfl⟩
  rw [← hnb] at hn1 ⊢
  have HF1 := Lib.hid (And.intro hf1 hn1)
  clear HN hf1 hn1 hnb
  have hcell : ∀ W, Fr nothing w1 W → ∀ i : Nat, i < 11 → W.cell? ⟨nb, i, none⟩ = some (.int .i64 (nums11.getD i 0)) := fun W hW i hi => obj_cell (hW.obj HF1.out.2 fun e => e) i (by
    rcases (by omega : i = 0 ∨ i = 1 ∨ i = 2 ∨ i = 3 ∨ i = 4 ∨ i = 5 ∨ i = 6 ∨ i = 7 ∨ i = 8 ∨ i = 9 ∨ i = 10) with rfl | rfl | rfl | rfl | rfl | rfl | rfl | rfl | rfl | rfl | rfl <;> rfl)
  have HCELL := Lib.hid hcell
  clear hcell
  go_wp2
  go_loopw [2, 3, 4, 5, 6] (fun i _ _ _ _ wr => ∃ k : Nat, k ≤ 11 ∧ i = .int .i64 k ∧ Fr nothing w1 wr) (fun i _ _ _ _ _ => 11 - (intOf i).toNat)
  case atStart => exact ⟨0, by omega, rfl, Fr.refl _ _⟩
  case round =>
    obtain ⟨i, hi, rfl, hA⟩ := hrel
    by_cases hlt : i < 11
    · have ti : decide ((i : Int) < 11) = true := by simp; omega
      go_wp2
      generalize wr = wA at *
      go_loopw [3, 4, 5, 6] (fun n _ _ _ wr => ∃ k : Nat, k ≤ 5 ∧ n = .int .i64 k ∧ Fr nothing w1 wr) (fun n _ _ _ _ => 5 - (intOf n).toNat)
      case atStart => exact ⟨0, by omega, rfl, hA⟩
      case round =>
        clear hA
        obtain ⟨n, hn5, rfl, hA⟩ := hrel
        by_cases hltn : n < 5
        · have tn : decide ((n : Int) < 5) = true := by simp; omega
          go_upto_region 8 with fail
          obtain ⟨x, hxx⟩ : ∃ x, x = nums11.getD i 0 := ⟨_, rfl⟩
          have hx : i64 x := by rw [hxx]; exact nums_ok i hlt
          have hxc : ∀ W, Fr nothing wr W → W.cell? ⟨nb, i, none⟩ = some (.int .i64 x) := fun W hW => by rw [hxx]; exact HCELL.out W (hA.trans hW) i hlt
          have HX := Lib.hid (And.intro hx (And.intro hxc hA))
          have HXX := Lib.hid hxx
          clear hx hxc hxx hA
          have hi0 : (0 : Int) ≤ (i : Int) := by omega
          have hi1 : (i : Int) < 11 := by omega
          refine wp_region_any (by kernel_rfl) (region_inv (InvN nb i x wr) (by kernel_rfl) (by kernel_rfl) ⟨.inl rfl, (fun _ _ _ h => by cases h), (fun _ h => by cases h), (fun _ h => by cases h), Fr.drew _⟩ ?_ ?_)
          · intro j o hj σ W A hI hn hdep hA1 hA2
            have cx := HX.out.2.1 W hI.old
            have a1 := hA1 1 (by kernel_rfl)
            have a2 := hA1 2 (by kernel_rfl)
            have hlate : j < 30 → σ 30 = none := fun h => hI.late.resolve_right fun hk => hk j h hn
            simp only [List.getElem?_toArray, List.getElem?_cons_succ, List.getElem?_cons_zero, Option.getD_some] at a1 a2
            match j with
            | 0 =>
              obtain rfl := Option.some.inj hj
              go_simp
              exact ⟨_, rfl, hI.step (Fr.refl _ _) 0 _ hn (by decide) (by decide) (fun _ => rfl) (fun e => absurd e (by decide))⟩
            | 1 =>
              obtain rfl := Option.some.inj hj
              go_simp
              exact ⟨_, rfl, hI.step (Fr.refl _ _) 1 _ hn (by decide) (by decide) (fun _ => rfl) (fun e => absurd e (by decide))⟩
            | 2 =>
              obtain rfl := Option.some.inj hj
              obtain ⟨v0, e0⟩ := hdep 0 (by kernel_rfl)
              have a18 := hA2 0 18 v0 (by kernel_rfl) (Nat.le_of_ble_eq_true (by kernel_rfl)) e0
              obtain ⟨v1, e1⟩ := hdep 1 (by kernel_rfl)
              have a19 := hA2 1 19 v1 (by kernel_rfl) (Nat.le_of_ble_eq_true (by kernel_rfl)) e1
              obtain rfl : v0 = _ := hI.all (hlate (by decide)) 0 v0 e0
              obtain rfl : v1 = _ := hI.all (hlate (by decide)) 1 v1 e1
              go_simp
              exact ⟨_, rfl, hI.step (Fr.refl _ _) 2 _ hn (by decide) (by decide) (fun _ => rfl) (fun e => absurd e (by decide))⟩
            | 3 =>
              obtain rfl := Option.some.inj hj
              obtain ⟨v2, e2⟩ := hdep 2 (by kernel_rfl)
              have a20 := hA2 2 20 v2 (by kernel_rfl) (Nat.le_of_ble_eq_true (by kernel_rfl)) e2
              obtain rfl : v2 = _ := hI.all (hlate (by decide)) 2 v2 e2
              go_simp
              exact ⟨_, rfl, hI.step (Fr.refl _ _) 3 _ hn (by decide) (by decide) (fun _ => rfl) (fun e => absurd e (by decide))⟩
            | 4 =>
              obtain rfl := Option.some.inj hj
              obtain ⟨v3, e3⟩ := hdep 3 (by kernel_rfl)
              have a21 := hA2 3 21 v3 (by kernel_rfl) (Nat.le_of_ble_eq_true (by kernel_rfl)) e3
              obtain rfl : v3 = _ := hI.all (hlate (by decide)) 3 v3 e3
              go_simp
              exact ⟨_, rfl, hI.step (Fr.alloc _ _) 4 _ hn (by decide) (by decide) (fun _ => ⟨_, rfl, alloc_obj W _⟩) (fun e => absurd e (by decide))⟩
            | 5 =>
              obtain rfl := Option.some.inj hj
              go_simp
              exact ⟨_, rfl, hI.step (Fr.refl _ _) 5 _ hn (by decide) (by decide) (fun _ => rfl) (fun e => absurd e (by decide))⟩
            | 6 =>
              obtain rfl := Option.some.inj hj
              go_simp
              exact ⟨_, rfl, hI.step (Fr.refl _ _) 6 _ hn (by decide) (by decide) (fun _ => rfl) (fun e => absurd e (by decide))⟩
            | 7 =>
              obtain rfl := Option.some.inj hj
              obtain ⟨v5, e5⟩ := hdep 5 (by kernel_rfl)
              have a23 := hA2 5 23 v5 (by kernel_rfl) (Nat.le_of_ble_eq_true (by kernel_rfl)) e5
              obtain ⟨v6, e6⟩ := hdep 6 (by kernel_rfl)
              have a24 := hA2 6 24 v6 (by kernel_rfl) (Nat.le_of_ble_eq_true (by kernel_rfl)) e6
              obtain rfl : v5 = _ := hI.all (hlate (by decide)) 5 v5 e5
              obtain rfl : v6 = _ := hI.all (hlate (by decide)) 6 v6 e6
              go_simp
              exact ⟨_, rfl, hI.step (Fr.refl _ _) 7 _ hn (by decide) (by decide) (fun _ => rfl) (fun e => absurd e (by decide))⟩
            | 8 =>
              obtain rfl := Option.some.inj hj
              obtain ⟨v7, e7⟩ := hdep 7 (by kernel_rfl)
              have a25 := hA2 7 25 v7 (by kernel_rfl) (Nat.le_of_ble_eq_true (by kernel_rfl)) e7
              obtain rfl : v7 = _ := hI.all (hlate (by decide)) 7 v7 e7
              go_simp
              exact ⟨_, rfl, hI.step (Fr.refl _ _) 8 _ hn (by decide) (by decide) (fun _ => rfl) (fun e => absurd e (by decide))⟩
            | 9 =>
              obtain rfl := Option.some.inj hj
              obtain ⟨v8, e8⟩ := hdep 8 (by kernel_rfl)
              have a26 := hA2 8 26 v8 (by kernel_rfl) (Nat.le_of_ble_eq_true (by kernel_rfl)) e8
              obtain rfl : v8 = _ := hI.all (hlate (by decide)) 8 v8 e8
              go_simp
              exact ⟨_, rfl, hI.step (Fr.alloc _ _) 9 _ hn (by decide) (by decide) (fun _ => ⟨_, rfl, alloc_obj W _⟩) (fun e => absurd e (by decide))⟩
            | 10 =>
              obtain rfl := Option.some.inj hj
              go_simp
              exact ⟨_, rfl, hI.step (Fr.alloc _ _) 10 _ hn (by decide) (by decide) (fun _ => ⟨_, rfl, alloc_obj W _⟩) (fun e => absurd e (by decide))⟩
            | 11 =>
              obtain rfl := Option.some.inj hj
              go_simp
              exact ⟨_, rfl, hI.step (Fr.refl _ _) 11 _ hn (by decide) (by decide) (fun _ => rfl) (fun e => absurd e (by decide))⟩
            | 12 =>
              obtain rfl := Option.some.inj hj
              go_simp
              exact ⟨_, rfl, hI.step (Fr.refl _ _) 12 _ hn (by decide) (by decide) (fun _ => rfl) (fun e => absurd e (by decide))⟩
            | 13 =>
              obtain rfl := Option.some.inj hj
              go_simp
              exact ⟨_, rfl, hI.step (Fr.refl _ _) 13 _ hn (by decide) (by decide) (fun _ => rfl) (fun e => absurd e (by decide))⟩
            | 14 =>
              obtain rfl := Option.some.inj hj
              go_simp
              exact ⟨_, rfl, hI.step (Fr.refl _ _) 14 _ hn (by decide) (by decide) (fun _ => rfl) (fun e => absurd e (by decide))⟩
            | 15 =>
              obtain rfl := Option.some.inj hj
              go_simp
              exact ⟨_, rfl, hI.step (Fr.refl _ _) 15 _ hn (by decide) (by decide) (fun _ => rfl) (fun e => absurd e (by decide))⟩
            | 16 =>
              obtain rfl := Option.some.inj hj
              obtain ⟨v11, e11⟩ := hdep 11 (by kernel_rfl)
              have a29 := hA2 11 29 v11 (by kernel_rfl) (Nat.le_of_ble_eq_true (by kernel_rfl)) e11
              obtain ⟨v12, e12⟩ := hdep 12 (by kernel_rfl)
              have a30 := hA2 12 30 v12 (by kernel_rfl) (Nat.le_of_ble_eq_true (by kernel_rfl)) e12
              obtain ⟨v13, e13⟩ := hdep 13 (by kernel_rfl)
              have a31 := hA2 13 31 v13 (by kernel_rfl) (Nat.le_of_ble_eq_true (by kernel_rfl)) e13
              obtain ⟨v14, e14⟩ := hdep 14 (by kernel_rfl)
              have a32 := hA2 14 32 v14 (by kernel_rfl) (Nat.le_of_ble_eq_true (by kernel_rfl)) e14
              obtain ⟨v15, e15⟩ := hdep 15 (by kernel_rfl)
              have a33 := hA2 15 33 v15 (by kernel_rfl) (Nat.le_of_ble_eq_true (by kernel_rfl)) e15
              obtain rfl : v11 = _ := hI.all (hlate (by decide)) 11 v11 e11
              obtain rfl : v12 = _ := hI.all (hlate (by decide)) 12 v12 e12
              obtain rfl : v13 = _ := hI.all (hlate (by decide)) 13 v13 e13
              obtain rfl : v14 = _ := hI.all (hlate (by decide)) 14 v14 e14
              obtain rfl : v15 = _ := hI.all (hlate (by decide)) 15 v15 e15
              unfold acV at a29 a30 a31 a32 a33
              simp only at a29 a30 a31 a32 a33
              go_simp
              exact ⟨_, rfl, hI.step (Fr.alloc _ _) 16 _ hn (by decide) (by decide) (fun _ => ⟨_, rfl, alloc_obj W _⟩) (fun e => absurd e (by decide))⟩
            | 17 =>
              obtain rfl := Option.some.inj hj
              go_simp
              exact ⟨_, rfl, hI.step (Fr.refl _ _) 17 _ hn (by decide) (by decide) (fun _ => rfl) (fun e => absurd e (by decide))⟩
            | 18 =>
              obtain rfl := Option.some.inj hj
              go_simp
              exact ⟨_, rfl, hI.step (Fr.refl _ _) 18 _ hn (by decide) (by decide) (fun _ => rfl) (fun e => absurd e (by decide))⟩
            | 19 =>
              obtain rfl := Option.some.inj hj
              obtain ⟨v17, e17⟩ := hdep 17 (by kernel_rfl)
              have a35 := hA2 17 35 v17 (by kernel_rfl) (Nat.le_of_ble_eq_true (by kernel_rfl)) e17
              obtain ⟨v18, e18⟩ := hdep 18 (by kernel_rfl)
              have a36 := hA2 18 36 v18 (by kernel_rfl) (Nat.le_of_ble_eq_true (by kernel_rfl)) e18
              obtain rfl : v17 = _ := hI.all (hlate (by decide)) 17 v17 e17
              obtain rfl : v18 = _ := hI.all (hlate (by decide)) 18 v18 e18
              go_simp
              exact ⟨_, rfl, hI.step (Fr.refl _ _) 19 _ hn (by decide) (by decide) (fun _ => rfl) (fun e => absurd e (by decide))⟩
            | 20 =>
              obtain rfl := Option.some.inj hj
              obtain ⟨v19, e19⟩ := hdep 19 (by kernel_rfl)
              have a37 := hA2 19 37 v19 (by kernel_rfl) (Nat.le_of_ble_eq_true (by kernel_rfl)) e19
              obtain rfl : v19 = _ := hI.all (hlate (by decide)) 19 v19 e19
              go_simp
              exact ⟨_, rfl, hI.step (Fr.refl _ _) 20 _ hn (by decide) (by decide) (fun _ => rfl) (fun e => absurd e (by decide))⟩
            | 21 =>
              obtain rfl := Option.some.inj hj
              obtain ⟨v20, e20⟩ := hdep 20 (by kernel_rfl)
              have a38 := hA2 20 38 v20 (by kernel_rfl) (Nat.le_of_ble_eq_true (by kernel_rfl)) e20
              obtain rfl : v20 = _ := hI.all (hlate (by decide)) 20 v20 e20
              go_simp
              exact ⟨_, rfl, hI.step (Fr.alloc _ _) 21 _ hn (by decide) (by decide) (fun _ => ⟨_, rfl, alloc_obj W _⟩) (fun e => absurd e (by decide))⟩
            | 22 =>
              obtain rfl := Option.some.inj hj
              go_simp
              exact ⟨_, rfl, hI.step (Fr.alloc _ _) 22 _ hn (by decide) (by decide) (fun _ => ⟨_, rfl, alloc_obj W _⟩) (fun e => absurd e (by decide))⟩
            | 23 =>
              obtain rfl := Option.some.inj hj
              go_simp
              exact ⟨_, rfl, hI.step (Fr.refl _ _) 23 _ hn (by decide) (by decide) (fun _ => rfl) (fun e => absurd e (by decide))⟩
            | 24 =>
              obtain rfl := Option.some.inj hj
              go_simp
              exact ⟨_, rfl, hI.step (Fr.refl _ _) 24 _ hn (by decide) (by decide) (fun _ => rfl) (fun e => absurd e (by decide))⟩
            | 25 =>
              obtain rfl := Option.some.inj hj
              obtain ⟨v23, e23⟩ := hdep 23 (by kernel_rfl)
              have a41 := hA2 23 41 v23 (by kernel_rfl) (Nat.le_of_ble_eq_true (by kernel_rfl)) e23
              obtain ⟨v24, e24⟩ := hdep 24 (by kernel_rfl)
              have a42 := hA2 24 42 v24 (by kernel_rfl) (Nat.le_of_ble_eq_true (by kernel_rfl)) e24
              obtain rfl : v23 = _ := hI.all (hlate (by decide)) 23 v23 e23
              obtain rfl : v24 = _ := hI.all (hlate (by decide)) 24 v24 e24
              go_simp
              exact ⟨_, rfl, hI.step (Fr.refl _ _) 25 _ hn (by decide) (by decide) (fun _ => rfl) (fun e => absurd e (by decide))⟩
            | 26 =>
              obtain rfl := Option.some.inj hj
              obtain ⟨v25, e25⟩ := hdep 25 (by kernel_rfl)
              have a43 := hA2 25 43 v25 (by kernel_rfl) (Nat.le_of_ble_eq_true (by kernel_rfl)) e25
              obtain rfl : v25 = _ := hI.all (hlate (by decide)) 25 v25 e25
              go_simp
              exact ⟨_, rfl, hI.step (Fr.refl _ _) 26 _ hn (by decide) (by decide) (fun _ => rfl) (fun e => absurd e (by decide))⟩
            | 27 =>
              obtain rfl := Option.some.inj hj
              obtain ⟨v26, e26⟩ := hdep 26 (by kernel_rfl)
              have a44 := hA2 26 44 v26 (by kernel_rfl) (Nat.le_of_ble_eq_true (by kernel_rfl)) e26
              obtain rfl : v26 = _ := hI.all (hlate (by decide)) 26 v26 e26
              go_simp
              exact ⟨_, rfl, hI.step (Fr.alloc _ _) 27 _ hn (by decide) (by decide) (fun _ => ⟨_, rfl, alloc_obj W _⟩) (fun e => absurd e (by decide))⟩
            | 28 =>
              obtain rfl := Option.some.inj hj
              obtain ⟨v4, e4⟩ := hdep 4 (by kernel_rfl)
              have a22 := hA2 4 22 v4 (by kernel_rfl) (Nat.le_of_ble_eq_true (by kernel_rfl)) e4
              obtain ⟨v9, e9⟩ := hdep 9 (by kernel_rfl)
              have a27 := hA2 9 27 v9 (by kernel_rfl) (Nat.le_of_ble_eq_true (by kernel_rfl)) e9
              obtain ⟨v10, e10⟩ := hdep 10 (by kernel_rfl)
              have a28 := hA2 10 28 v10 (by kernel_rfl) (Nat.le_of_ble_eq_true (by kernel_rfl)) e10
              obtain ⟨v16, e16⟩ := hdep 16 (by kernel_rfl)
              have a34 := hA2 16 34 v16 (by kernel_rfl) (Nat.le_of_ble_eq_true (by kernel_rfl)) e16
              obtain ⟨v21, e21⟩ := hdep 21 (by kernel_rfl)
              have a39 := hA2 21 39 v21 (by kernel_rfl) (Nat.le_of_ble_eq_true (by kernel_rfl)) e21
              obtain ⟨v22, e22⟩ := hdep 22 (by kernel_rfl)
              have a40 := hA2 22 40 v22 (by kernel_rfl) (Nat.le_of_ble_eq_true (by kernel_rfl)) e22
              obtain ⟨v27, e27⟩ := hdep 27 (by kernel_rfl)
              have a45 := hA2 27 45 v27 (by kernel_rfl) (Nat.le_of_ble_eq_true (by kernel_rfl)) e27
              have r4 := hI.all (hlate (by decide)) 4 v4 e4
              obtain ⟨b4, rfl, h4⟩ : ∃ b, v4 = .slice (some ⟨b, 0, none⟩) 3 3 ∧ _ := r4
              have r9 := hI.all (hlate (by decide)) 9 v9 e9
              obtain ⟨b9, rfl, h9⟩ : ∃ b, v9 = .slice (some ⟨b, 0, none⟩) 3 3 ∧ _ := r9
              have r10 := hI.all (hlate (by decide)) 10 v10 e10
              obtain ⟨b10, rfl, h10⟩ : ∃ b, v10 = .slice (some ⟨b, 0, none⟩) 5 5 ∧ _ := r10
              have r16 := hI.all (hlate (by decide)) 16 v16 e16
              obtain ⟨b16, rfl, h16⟩ : ∃ b, v16 = .slice (some ⟨b, 0, none⟩) 5 5 ∧ _ := r16
              have r21 := hI.all (hlate (by decide)) 21 v21 e21
              obtain ⟨b21, rfl, h21⟩ : ∃ b, v21 = .slice (some ⟨b, 0, none⟩) 3 3 ∧ _ := r21
              have r22 := hI.all (hlate (by decide)) 22 v22 e22
              obtain ⟨b22, rfl, h22⟩ : ∃ b, v22 = .slice (some ⟨b, 0, none⟩) 5 5 ∧ _ := r22
              have r27 := hI.all (hlate (by decide)) 27 v27 e27
              obtain ⟨b27, rfl, h27⟩ : ∃ b, v27 = .slice (some ⟨b, 0, none⟩) 5 5 ∧ _ := r27
              go_simp
              exact ⟨_, rfl, hI.step (Fr.refl _ _) 28 _ hn (by decide) (by decide) (fun _ => trivial) (fun _ => ⟨_, _, _, _, _, _, _, rfl, ⟨⟨_, rfl, h4⟩, ⟨_, rfl, h9⟩, ⟨_, rfl, h10⟩, ⟨_, rfl, h16⟩, ⟨_, rfl, h21⟩, ⟨_, rfl, h22⟩, ⟨_, rfl, h27⟩⟩⟩)⟩
            | 29 =>
              obtain rfl := Option.some.inj hj
              go_simp
              have h30 := hlate (by decide)
              refine ⟨_, rfl, ⟨.inl ((updS_other (by decide)).trans h30), fun _ k u hk => ?_, fun u hu => ?_, fun u hu => ?_, hI.old.trans (Fr.alloc _ _)⟩⟩
              · by_cases e : k = 29
                · subst e
                  trivial
                · rw [updS_other e] at hk
                  exact (hI.all h30 k u hk).fr (Fr.alloc _ _)
              · obtain ⟨dv, bv, cv, nv, gb, gc, gn, h1, h2⟩ := hI.p28 u ((updS_other (by decide)).symm.trans hu)
                exact ⟨dv, bv, cv, nv, gb, gc, gn, h1, h2.fr (ch := nothing) (Fr.alloc _ _) fun _ e => e.elim⟩
              · rw [updS_same] at hu
                obtain rfl := Option.some.inj hu
                exact ⟨_, rfl, hI.old.size, .inl ⟨(updS_other (by decide)).trans h30, alloc_obj W _⟩⟩
            | 30 =>
              obtain rfl := Option.some.inj hj
              obtain ⟨v28, e28⟩ := hdep 28 (by kernel_rfl)
              have a46 := hA2 28 46 v28 (by kernel_rfl) (Nat.le_of_ble_eq_true (by kernel_rfl)) e28
              obtain ⟨v29, e29⟩ := hdep 29 (by kernel_rfl)
              have a4 := hA2 29 4 v29 (by kernel_rfl) (Nat.le_of_ble_eq_true (by kernel_rfl)) e29
              obtain ⟨dv, bv, cv, nv, gb, gc, gn, rfl, hp⟩ := hI.p28 v28 e28
              obtain ⟨b, rfl, hb1, hG⟩ := hI.p29 v29 e29
              have hob : W.heap[b]? = some (outO nilS nilS nilS nilS nilS nilS nilS) := by
                rcases hG with ⟨_, h⟩ | ⟨h, _⟩
                · exact h
                · exact absurd hn h
              have hdp : ∀ k, k < 30 → ∃ v, σ k = some v := fun k hk => hdep k (waits_all (m := 30) (by kernel_rfl) k hk)
              obtain ⟨s0, rfl, _⟩ := id hp.dv
              obtain ⟨s1, rfl, _⟩ := id hp.bv
              obtain ⟨s2, rfl, _⟩ := id hp.cv
              obtain ⟨s3, rfl, _⟩ := id hp.nv
              obtain ⟨s4, rfl, _⟩ := id hp.gb
              obtain ⟨s5, rfl, _⟩ := id hp.gc
              obtain ⟨s6, rfl, _⟩ := id hp.gn
              have x0 : W.cell? ⟨b, 0, none⟩ = some nilS := obj_cell hob 0 rfl
              have f0 := obj_frozen hob 0
              have x1 : W.cell? ⟨b, 1, none⟩ = some nilS := obj_cell hob 1 rfl
              have f1 := obj_frozen hob 1
              have x2 : W.cell? ⟨b, 2, none⟩ = some nilS := obj_cell hob 2 rfl
              have f2 := obj_frozen hob 2
              have x3 : W.cell? ⟨b, 3, none⟩ = some nilS := obj_cell hob 3 rfl
              have f3 := obj_frozen hob 3
              have x4 : W.cell? ⟨b, 4, none⟩ = some nilS := obj_cell hob 4 rfl
              have f4 := obj_frozen hob 4
              have x5 : W.cell? ⟨b, 5, none⟩ = some nilS := obj_cell hob 5 rfl
              have f5 := obj_frozen hob 5
              have x6 : W.cell? ⟨b, 6, none⟩ = some nilS := obj_cell hob 6 rfl
              have f6 := obj_frozen hob 6
              go_simp
              have o0 := setCell_obj hob (i := 0) (.slice (some ⟨s0, 0, none⟩) 3 3)
              have o1 := setCell_obj o0 (i := 1) (.slice (some ⟨s1, 0, none⟩) 3 3)
              have o2 := setCell_obj o1 (i := 2) (.slice (some ⟨s2, 0, none⟩) 5 5)
              have o3 := setCell_obj o2 (i := 3) (.slice (some ⟨s3, 0, none⟩) 5 5)
              have o4 := setCell_obj o3 (i := 4) (.slice (some ⟨s4, 0, none⟩) 3 3)
              have o5 := setCell_obj o4 (i := 5) (.slice (some ⟨s5, 0, none⟩) 5 5)
              have o6 := setCell_obj o5 (i := 6) (.slice (some ⟨s6, 0, none⟩) 5 5)
              have kk : Fr (only b) W ((((((((W).setCell ⟨b, 0, none⟩ (.slice (some ⟨s0, 0, none⟩) 3 3)).setCell ⟨b, 1, none⟩ (.slice (some ⟨s1, 0, none⟩) 3 3)).setCell ⟨b, 2, none⟩ (.slice (some ⟨s2, 0, none⟩) 5 5)).setCell ⟨b, 3, none⟩ (.slice (some ⟨s3, 0, none⟩) 5 5)).setCell ⟨b, 4, none⟩ (.slice (some ⟨s4, 0, none⟩) 3 3)).setCell ⟨b, 5, none⟩ (.slice (some ⟨s5, 0, none⟩) 5 5)).setCell ⟨b, 6, none⟩ (.slice (some ⟨s6, 0, none⟩) 5 5)) := ((((((Fr.setCell (W) ⟨b, 0, none⟩ (.slice (some ⟨s0, 0, none⟩) 3 3)).trans (Fr.setCell ((W).setCell ⟨b, 0, none⟩ (.slice (some ⟨s0, 0, none⟩) 3 3)) ⟨b, 1, none⟩ (.slice (some ⟨s1, 0, none⟩) 3 3))).trans (Fr.setCell (((W).setCell ⟨b, 0, none⟩ (.slice (some ⟨s0, 0, none⟩) 3 3)).setCell ⟨b, 1, none⟩ (.slice (some ⟨s1, 0, none⟩) 3 3)) ⟨b, 2, none⟩ (.slice (some ⟨s2, 0, none⟩) 5 5))).trans (Fr.setCell ((((W).setCell ⟨b, 0, none⟩ (.slice (some ⟨s0, 0, none⟩) 3 3)).setCell ⟨b, 1, none⟩ (.slice (some ⟨s1, 0, none⟩) 3 3)).setCell ⟨b, 2, none⟩ (.slice (some ⟨s2, 0, none⟩) 5 5)) ⟨b, 3, none⟩ (.slice (some ⟨s3, 0, none⟩) 5 5))).trans (Fr.setCell (((((W).setCell ⟨b, 0, none⟩ (.slice (some ⟨s0, 0, none⟩) 3 3)).setCell ⟨b, 1, none⟩ (.slice (some ⟨s1, 0, none⟩) 3 3)).setCell ⟨b, 2, none⟩ (.slice (some ⟨s2, 0, none⟩) 5 5)).setCell ⟨b, 3, none⟩ (.slice (some ⟨s3, 0, none⟩) 5 5)) ⟨b, 4, none⟩ (.slice (some ⟨s4, 0, none⟩) 3 3))).trans (Fr.setCell ((((((W).setCell ⟨b, 0, none⟩ (.slice (some ⟨s0, 0, none⟩) 3 3)).setCell ⟨b, 1, none⟩ (.slice (some ⟨s1, 0, none⟩) 3 3)).setCell ⟨b, 2, none⟩ (.slice (some ⟨s2, 0, none⟩) 5 5)).setCell ⟨b, 3, none⟩ (.slice (some ⟨s3, 0, none⟩) 5 5)).setCell ⟨b, 4, none⟩ (.slice (some ⟨s4, 0, none⟩) 3 3)) ⟨b, 5, none⟩ (.slice (some ⟨s5, 0, none⟩) 5 5))).trans (Fr.setCell (((((((W).setCell ⟨b, 0, none⟩ (.slice (some ⟨s0, 0, none⟩) 3 3)).setCell ⟨b, 1, none⟩ (.slice (some ⟨s1, 0, none⟩) 3 3)).setCell ⟨b, 2, none⟩ (.slice (some ⟨s2, 0, none⟩) 5 5)).setCell ⟨b, 3, none⟩ (.slice (some ⟨s3, 0, none⟩) 5 5)).setCell ⟨b, 4, none⟩ (.slice (some ⟨s4, 0, none⟩) 3 3)).setCell ⟨b, 5, none⟩ (.slice (some ⟨s5, 0, none⟩) 5 5)) ⟨b, 6, none⟩ (.slice (some ⟨s6, 0, none⟩) 5 5))
              clear x0 f0 x1 f1 x2 f2 x3 f3 x4 f4 x5 f5 x6 f6
              generalize (((((((W).setCell ⟨b, 0, none⟩ (.slice (some ⟨s0, 0, none⟩) 3 3)).setCell ⟨b, 1, none⟩ (.slice (some ⟨s1, 0, none⟩) 3 3)).setCell ⟨b, 2, none⟩ (.slice (some ⟨s2, 0, none⟩) 5 5)).setCell ⟨b, 3, none⟩ (.slice (some ⟨s3, 0, none⟩) 5 5)).setCell ⟨b, 4, none⟩ (.slice (some ⟨s4, 0, none⟩) 3 3)).setCell ⟨b, 5, none⟩ (.slice (some ⟨s5, 0, none⟩) 5 5)).setCell ⟨b, 6, none⟩ (.slice (some ⟨s6, 0, none⟩) 5 5) = W2 at *
              refine ⟨undef, ⟨.inr fun k hk => ?_, fun h => ?_, fun u hu => ?_, fun u hu => ?_, ?_⟩⟩
              · rw [updS_other (by omega)]
                obtain ⟨v, hv⟩ := hdp k hk
                rw [hv]
                exact fun h => by cases h
              · rw [updS_same] at h
                cases h
              · have hu' := (updS_other (σ := σ) (by decide)).symm.trans hu
                rw [e28] at hu'
                obtain rfl := Option.some.inj hu'
                exact ⟨_, _, _, _, _, _, _, rfl, hp.fr kk fun g e => by
                  have e' : g = b := e
                  subst e'
                  exact ⟨_, _, hob⟩⟩
              · have hu' := (updS_other (σ := σ) (by decide)).symm.trans hu
                rw [e29] at hu'
                obtain rfl := Option.some.inj hu'
                exact ⟨b, rfl, hb1, .inr ⟨by rw [updS_same]; exact (fun h => by cases h), _, _, _, _, _, _, _, (updS_other (by decide)).trans e28, o6⟩⟩
              · exact fr_newer hI.old kk hb1
            | n + 31 => exact absurd hj (by simp)
          · intro σ W hI hall
            obtain ⟨u0, h0⟩ := hall 0 (Nat.le_of_ble_eq_true (by kernel_rfl))
            obtain ⟨u1, h1⟩ := hall 1 (Nat.le_of_ble_eq_true (by kernel_rfl))
            obtain ⟨u2, h2⟩ := hall 2 (Nat.le_of_ble_eq_true (by kernel_rfl))
            obtain ⟨u3, h3⟩ := hall 3 (Nat.le_of_ble_eq_true (by kernel_rfl))
            obtain ⟨u4, h4⟩ := hall 4 (Nat.le_of_ble_eq_true (by kernel_rfl))
            obtain ⟨u5, h5⟩ := hall 5 (Nat.le_of_ble_eq_true (by kernel_rfl))
            obtain ⟨u6, h6⟩ := hall 6 (Nat.le_of_ble_eq_true (by kernel_rfl))
            obtain ⟨u7, h7⟩ := hall 7 (Nat.le_of_ble_eq_true (by kernel_rfl))
            obtain ⟨u8, h8⟩ := hall 8 (Nat.le_of_ble_eq_true (by kernel_rfl))
            obtain ⟨u9, h9⟩ := hall 9 (Nat.le_of_ble_eq_true (by kernel_rfl))
            obtain ⟨u10, h10⟩ := hall 10 (Nat.le_of_ble_eq_true (by kernel_rfl))
            obtain ⟨u11, h11⟩ := hall 11 (Nat.le_of_ble_eq_true (by kernel_rfl))
            obtain ⟨u12, h12⟩ := hall 12 (Nat.le_of_ble_eq_true (by kernel_rfl))
            obtain ⟨u13, h13⟩ := hall 13 (Nat.le_of_ble_eq_true (by kernel_rfl))
            obtain ⟨u14, h14⟩ := hall 14 (Nat.le_of_ble_eq_true (by kernel_rfl))
            obtain ⟨u15, h15⟩ := hall 15 (Nat.le_of_ble_eq_true (by kernel_rfl))
            obtain ⟨u16, h16⟩ := hall 16 (Nat.le_of_ble_eq_true (by kernel_rfl))
            obtain ⟨u17, h17⟩ := hall 17 (Nat.le_of_ble_eq_true (by kernel_rfl))
            obtain ⟨u18, h18⟩ := hall 18 (Nat.le_of_ble_eq_true (by kernel_rfl))
            obtain ⟨u19, h19⟩ := hall 19 (Nat.le_of_ble_eq_true (by kernel_rfl))
            obtain ⟨u20, h20⟩ := hall 20 (Nat.le_of_ble_eq_true (by kernel_rfl))
            obtain ⟨u21, h21⟩ := hall 21 (Nat.le_of_ble_eq_true (by kernel_rfl))
            obtain ⟨u22, h22⟩ := hall 22 (Nat.le_of_ble_eq_true (by kernel_rfl))
            obtain ⟨u23, h23⟩ := hall 23 (Nat.le_of_ble_eq_true (by kernel_rfl))
            obtain ⟨u24, h24⟩ := hall 24 (Nat.le_of_ble_eq_true (by kernel_rfl))
            obtain ⟨u25, h25⟩ := hall 25 (Nat.le_of_ble_eq_true (by kernel_rfl))
            obtain ⟨u26, h26⟩ := hall 26 (Nat.le_of_ble_eq_true (by kernel_rfl))
            obtain ⟨u27, h27⟩ := hall 27 (Nat.le_of_ble_eq_true (by kernel_rfl))
            obtain ⟨u28, h28⟩ := hall 28 (Nat.le_of_ble_eq_true (by kernel_rfl))
            obtain ⟨u29, h29⟩ := hall 29 (Nat.le_of_ble_eq_true (by kernel_rfl))
            obtain ⟨u30, h30⟩ := hall 30 (Nat.le_of_ble_eq_true (by kernel_rfl))
            obtain ⟨b, rfl, hb1, hG⟩ := hI.p29 u29 h29
            obtain ⟨dv, bv, cv, nv, gb, gc, gn, e28, hob⟩ : ∃ dv bv cv nv gb gc gn, σ 28 = some (.agg #[dv, bv, cv, nv, gb, gc, gn]) ∧ W.heap[b]? = some (outO dv bv cv nv gb gc gn) := by
              rcases hG with ⟨h, _⟩ | ⟨_, h⟩
              · rw [h30] at h; cases h
              · exact h
            obtain ⟨dv', bv', cv', nv', gb', gc', gn', he, hp⟩ := hI.p28 _ e28
            simp only [Value.agg.injEq, Array.mk.injEq, List.cons.injEq, and_true] at he
            obtain ⟨rfl, rfl, rfl, rfl, rfl, rfl, rfl⟩ := he
            have hold := hI.old
            simp only [dstL, fillL, List.map_cons, List.map_nil, Nat.zero_add, Nat.reduceAdd, h0, h1, h2, h3, h4, h5, h6, h7, h8, h9, h10, h11, h12, h13, h14, h15, h16, h17, h18, h19, h20, h21, h22, h23, h24, h25, h26, h27, h28, h29, h30, Act.put, List.setIfInBounds_toArray, List.set_cons_zero, List.set_cons_succ]
            obtain ⟨s0, rfl, y0⟩ := id hp.dv
            obtain ⟨s1, rfl, y1⟩ := id hp.bv
            obtain ⟨s2, rfl, y2⟩ := id hp.cv
            obtain ⟨s3, rfl, y3⟩ := id hp.nv
            obtain ⟨s4, rfl, y4⟩ := id hp.gb
            obtain ⟨s5, rfl, y5⟩ := id hp.gc
            obtain ⟨s6, rfl, y6⟩ := id hp.gn
            have HQ := Lib.hid (And.intro hob (And.intro hp hold))
            have hbW : wr.heap.size ≤ b := hb1
            clear h0 h1 h2 h3 h4 h5 h6 h7 h8 h9 h10 h11 h12 h13 h14 h15 h16 h17 h18 h19 h20 h21 h22 h23 h24 h25 h26 h27 h28 h29 h30 e28 hG hI hall hp hold hb1 y0 y1 y2 y3 y4 y5 y6
            obtain ⟨m, hm, hm5⟩ : ∃ m : Nat, (m : Int) = 5 - n ∧ m ≤ 5 := ⟨5 - n, by omega, by omega⟩
            have em : IntKind.i64.wrap (5 - (n : Int)) = (m : Int) := by rw [IntWalk.i64_in _ (by omega)]; omega
            have hm0 : (0 : Int) ≤ (m : Int) := by omega
            have hm1 : (m : Int) ≤ 5 := by omega
            have HM := Lib.hid hm
            clear hm
            go_upto_region 9 with fail
            obtain ⟨wq, hq⟩ : ∃ wq, wq = W.drew := ⟨_, rfl⟩
            have kq : Fr nothing W wq := by rw [hq]; exact Fr.drew _
            have obq := kq.obj hob fun e => e
            have hS0 : wq.cell? ⟨b, 2, none⟩ = some (.slice (some ⟨s2, 0, none⟩) 5 5) ∧ wq.cell? ⟨b, 6, none⟩ = some (.slice (some ⟨s6, 0, none⟩) 5 5) := ⟨obj_cell obq 2 rfl, obj_cell obq 6 rfl⟩
            refine wp_region_anyT (fun j W => j < 11 → j ≠ 5 → j ≠ 7 → j ≠ 8 → j ≠ 9 → W.cell? ⟨b, 2, none⟩ = some (.slice (some ⟨s2, 0, none⟩) 5 5) ∧ W.cell? ⟨b, 6, none⟩ = some (.slice (some ⟨s6, 0, none⟩) 5 5)) (by kernel_rfl) ?_
            rw [← hq]
            clear hq
            refine anyT_take (i := 7) (v := ?_) (fun _ => true) ((fun _ _ _ _ => trivial : ∀ j w, true = true → _ → (fun _ : World => True) w)) (fun _ _ _ _ h _ _ => absurd rfl h) rfl (by kernel_rfl) (fun _ _ _ h => h) _ _ _ _ (by kernel_rfl) (by kernel_rfl) (by kernel_rfl) (by kernel_rfl) (Or.inl ⟨by rfl, ?_⟩) trivial ?_
            rotate_left
            · (intro w hSw; (try dsimp only at hSw); go_simp)
              try with_reducible rfl
            refine anyT_take (i := 8) (v := ?_) (fun _ => true) ((fun _ _ _ _ => trivial : ∀ j w, true = true → _ → (fun _ : World => True) w)) (fun _ _ _ _ _ h _ => absurd rfl h) rfl (by kernel_rfl) (fun _ _ _ h => h) _ _ _ _ (by kernel_rfl) (by kernel_rfl) (by kernel_rfl) (by kernel_rfl) (Or.inl ⟨by rfl, ?_⟩) trivial ?_
            rotate_left
            · (intro w hSw; (try dsimp only at hSw); go_simp)
              try with_reducible rfl
            refine anyT_take (i := 5) (v := ?_) (fun _ => true) ((fun _ _ _ _ => trivial : ∀ j w, true = true → _ → (fun _ : World => True) w)) (fun _ _ _ h _ _ _ => absurd rfl h) rfl (by kernel_rfl) (fun _ _ _ h => h) _ _ _ _ (by kernel_rfl) (by kernel_rfl) (by kernel_rfl) (by kernel_rfl) (Or.inl ⟨by rfl, ?_⟩) trivial ?_
            rotate_left
            · (intro w hSw; (try dsimp only at hSw); go_simp)
              try with_reducible rfl
            refine anyT_take (i := 6) (v := ?_) (fun j => decide (j < 11 ∧ j ≠ 5 ∧ j ≠ 7 ∧ j ≠ 8 ∧ j ≠ 9)) (fun j w h k => k (of_decide_eq_true h).1 (of_decide_eq_true h).2.1 (of_decide_eq_true h).2.2.1 (of_decide_eq_true h).2.2.2.1 (of_decide_eq_true h).2.2.2.2) (fun w h _ _ _ _ _ => h) rfl (by kernel_rfl) (fun _ _ _ h => h) _ _ _ _ (by kernel_rfl) (by kernel_rfl) (by kernel_rfl) (by kernel_rfl) (Or.inl ⟨by rfl, ?_⟩) (by assumption) ?_
            rotate_left
            · (intro w hSw; (try dsimp only at hSw); go_simp)
              try with_reducible rfl
            refine anyT_take (i := 9) (v := ?_) (fun _ => true) ((fun _ _ _ _ => trivial : ∀ j w, true = true → _ → (fun _ : World => True) w)) (fun _ _ _ _ _ _ h => absurd rfl h) rfl (by kernel_rfl) (fun _ _ _ h => h) _ _ _ _ (by kernel_rfl) (by kernel_rfl) (by kernel_rfl) (by kernel_rfl) (Or.inl ⟨by rfl, ?_⟩) trivial ?_
            rotate_left
            · (intro w hSw; (try dsimp only at hSw); go_simp)
              try with_reducible rfl
            refine anyT_take (i := 0) (v := ?_) (fun j => decide (j < 11 ∧ j ≠ 5 ∧ j ≠ 7 ∧ j ≠ 8 ∧ j ≠ 9)) (fun j w h k => k (of_decide_eq_true h).1 (of_decide_eq_true h).2.1 (of_decide_eq_true h).2.2.1 (of_decide_eq_true h).2.2.2.1 (of_decide_eq_true h).2.2.2.2) (fun w h _ _ _ _ _ => h) rfl (by kernel_rfl) (fun _ _ _ h => h) _ _ _ _ (by kernel_rfl) (by kernel_rfl) (by kernel_rfl) (by kernel_rfl) (Or.inl ⟨by rfl, ?_⟩) (by assumption) ?_
            rotate_left
            · (intro w hSw; (try dsimp only at hSw); go_simp)
              try with_reducible rfl
            refine anyT_take (i := 1) (v := ?_) (fun j => decide (j < 11 ∧ j ≠ 5 ∧ j ≠ 7 ∧ j ≠ 8 ∧ j ≠ 9)) (fun j w h k => k (of_decide_eq_true h).1 (of_decide_eq_true h).2.1 (of_decide_eq_true h).2.2.1 (of_decide_eq_true h).2.2.2.1 (of_decide_eq_true h).2.2.2.2) (fun w h _ _ _ _ _ => h) rfl (by kernel_rfl) (fun _ _ _ h => h) _ _ _ _ (by kernel_rfl) (by kernel_rfl) (by kernel_rfl) (by kernel_rfl) (Or.inl ⟨by rfl, ?_⟩) (by assumption) ?_
            rotate_left
            · (intro w hSw; (try dsimp only at hSw); go_simp)
              try with_reducible rfl
            refine anyT_take (i := 2) (v := ?_) (fun j => decide (j < 11 ∧ j ≠ 5 ∧ j ≠ 7 ∧ j ≠ 8 ∧ j ≠ 9)) (fun j w h k => k (of_decide_eq_true h).1 (of_decide_eq_true h).2.1 (of_decide_eq_true h).2.2.1 (of_decide_eq_true h).2.2.2.1 (of_decide_eq_true h).2.2.2.2) (fun w h _ _ _ _ _ => h) rfl (by kernel_rfl) (fun _ _ _ h => h) _ _ _ _ (by kernel_rfl) (by kernel_rfl) (by kernel_rfl) (by kernel_rfl) (Or.inl ⟨by rfl, ?_⟩) (by assumption) ?_
            rotate_left
            · (intro w hSw; (try dsimp only at hSw); go_simp)
              try with_reducible rfl
            refine anyT_take (i := 3) (v := ?_) (fun j => decide (j < 11 ∧ j ≠ 5 ∧ j ≠ 7 ∧ j ≠ 8 ∧ j ≠ 9)) (fun j w h k => k (of_decide_eq_true h).1 (of_decide_eq_true h).2.1 (of_decide_eq_true h).2.2.1 (of_decide_eq_true h).2.2.2.1 (of_decide_eq_true h).2.2.2.2) (fun w h _ _ _ _ _ => h) rfl (by kernel_rfl) (fun _ _ _ h => h) _ _ _ _ (by kernel_rfl) (by kernel_rfl) (by kernel_rfl) (by kernel_rfl) (Or.inl ⟨by rfl, ?_⟩) (by assumption) ?_
            rotate_left
            · (intro w hSw; (try dsimp only at hSw); go_simp)
              try with_reducible rfl
            refine anyT_take (i := 4) (v := ?_) (fun j => decide (j < 11 ∧ j ≠ 5 ∧ j ≠ 7 ∧ j ≠ 8 ∧ j ≠ 9)) (fun j w h k => k (of_decide_eq_true h).1 (of_decide_eq_true h).2.1 (of_decide_eq_true h).2.2.1 (of_decide_eq_true h).2.2.2.1 (of_decide_eq_true h).2.2.2.2) (fun w h _ _ _ _ _ => h) rfl (by kernel_rfl) (fun _ _ _ h => h) _ _ _ _ (by kernel_rfl) (by kernel_rfl) (by kernel_rfl) (by kernel_rfl) (Or.inl ⟨by rfl, ?_⟩) (by assumption) ?_
            rotate_left
            · (intro w hSw; (try dsimp only at hSw); go_simp)
              try with_reducible rfl
            refine anyT_take (i := 10) (v := ?_) (fun j => decide (j < 11 ∧ j ≠ 5 ∧ j ≠ 7 ∧ j ≠ 8 ∧ j ≠ 9)) (fun j w h k => k (of_decide_eq_true h).1 (of_decide_eq_true h).2.1 (of_decide_eq_true h).2.2.1 (of_decide_eq_true h).2.2.2.1 (of_decide_eq_true h).2.2.2.2) (fun w h _ _ _ _ _ => h) rfl (by kernel_rfl) (fun _ _ _ h => h) _ _ _ _ (by kernel_rfl) (by kernel_rfl) (by kernel_rfl) (by kernel_rfl) (Or.inl ⟨by rfl, ?_⟩) (by assumption) ?_
            rotate_left
            · (intro w hSw; (try dsimp only at hSw); go_simp)
              try with_reducible rfl
            have f2 := obj_frozen obq 2
            have c2 := hS0.1
            have OBQ := Lib.hid obq
            clear obq
            refine anyT_ready (rs := [11]) (by kernel_rfl) (by simp) ?_
            intro j hj
            obtain rfl := List.mem_singleton.1 hj
            clear hj
            refine wpOp_plain rfl rfl ?_
            go_simp
            generalize hV : wq.setCell ⟨b, 2, none⟩ (.slice (some ⟨s2, 0, none⟩) m 5) = w7
            have ob7 : w7.heap[b]? = some (outO (.slice (some ⟨s0, 0, none⟩) 3 3) (.slice (some ⟨s1, 0, none⟩) 3 3) (.slice (some ⟨s2, 0, none⟩) m 5) (.slice (some ⟨s3, 0, none⟩) 5 5) (.slice (some ⟨s4, 0, none⟩) 3 3) (.slice (some ⟨s5, 0, none⟩) 5 5) (.slice (some ⟨s6, 0, none⟩) 5 5)) := hV ▸ setCell_obj OBQ.out _
            have k7 : Fr (only b) wq w7 := hV ▸ Fr.setCell wq ⟨b, 2, none⟩ _
            have f6 := obj_frozen ob7 6
            have c6 : w7.cell? ⟨b, 6, none⟩ = some (.slice (some ⟨s6, 0, none⟩) 5 5) := obj_cell ob7 6 rfl
            have OB7 := Lib.hid (And.intro ob7 k7)
            clear hV f2 c2 ob7 k7
            refine anyT_ready (rs := [12]) (by kernel_rfl) (by simp) ?_
            intro j hj
            obtain rfl := List.mem_singleton.1 hj
            clear hj
            refine wpOp_plain rfl rfl ?_
            go_simp
            refine anyT_ready (rs := [13]) (by kernel_rfl) (by simp) ?_
            intro j hj
            obtain rfl := List.mem_singleton.1 hj
            clear hj
            refine wpOp_plain rfl rfl ?_
            go_simp
            refine ⟨by kernel_rfl, ?_⟩
            generalize hV : w7.setCell ⟨b, 6, none⟩ (.slice (some ⟨s6, 0, none⟩) m 5) = w9
            have ob9 : w9.heap[b]? = some (outO (.slice (some ⟨s0, 0, none⟩) 3 3) (.slice (some ⟨s1, 0, none⟩) 3 3) (.slice (some ⟨s2, 0, none⟩) m 5) (.slice (some ⟨s3, 0, none⟩) 5 5) (.slice (some ⟨s4, 0, none⟩) 3 3) (.slice (some ⟨s5, 0, none⟩) 5 5) (.slice (some ⟨s6, 0, none⟩) m 5)) := hV ▸ setCell_obj OB7.out.1 _
            have k9 : Fr (only b) W w9 := (kq.wide.trans OB7.out.2).trans (hV ▸ Fr.setCell w7 ⟨b, 6, none⟩ _)
            have HK9 := Lib.hid (And.intro ob9 k9)
            clear hV f6 c6 hS0 k9 kq OB7 OBQ
            go_upto_if 60 with fail
            go_cut [] (fun wx => ∃ k0 : Nat, k0 ≤ 3 ∧ wx.heap[b]? = some (outO (.slice (some ⟨s0, 0, none⟩) k0 3) (.slice (some ⟨s1, 0, none⟩) 3 3) (.slice (some ⟨s2, 0, none⟩) m 5) (.slice (some ⟨s3, 0, none⟩) 5 5) (.slice (some ⟨s4, 0, none⟩) 3 3) (.slice (some ⟨s5, 0, none⟩) 5 5) (.slice (some ⟨s6, 0, none⟩) m 5)) ∧ Fr (only b) w9 wx)
            case first =>
              have c0 : w9.cell? ⟨b, 0, none⟩ = some (.slice (some ⟨s0, 0, none⟩) 3 3) := obj_cell ob9 0 rfl
              have f0 := obj_frozen ob9 0
              clear ob9
              by_cases h3 : n = 3
              · have t3 : ((n : Int) == 3) = true := by rw [h3]; rfl
                have t3' : decide ((n : Int) = 3) = true := by rw [h3]; rfl
                clear h3
                go_wp2
                go_meet
                exact ⟨1, by omega, setCell_obj HK9.out.1 _, Fr.setCell w9 ⟨b, 0, none⟩ _⟩
              · have t3 : ((n : Int) == 3) = false := by simp; omega
                have t3' : decide ((n : Int) = 3) = false := by simp; omega
                clear h3
                go_wp2
                go_meet
                exact ⟨3, by omega, HK9.out.1, Fr.refl _ _⟩
            case rest =>
            obtain ⟨k0, hk0, obA, kA⟩ := hcut
            have k10 := HK9.out.2.trans kA
            clear ob9 kA
            generalize wc = wa at *
            have HKA := Lib.hid (And.intro obA k10)
            clear k10
            go_upto_if 66 with fail
            go_cut [] (fun wx => ∃ k1 : Nat, k1 ≤ 3 ∧ wx.heap[b]? = some (outO (.slice (some ⟨s0, 0, none⟩) k0 3) (.slice (some ⟨s1, 0, none⟩) k1 3) (.slice (some ⟨s2, 0, none⟩) m 5) (.slice (some ⟨s3, 0, none⟩) 5 5) (.slice (some ⟨s4, 0, none⟩) 3 3) (.slice (some ⟨s5, 0, none⟩) 5 5) (.slice (some ⟨s6, 0, none⟩) m 5)) ∧ Fr (only b) wa wx)
            case first =>
              have c1 : wa.cell? ⟨b, 1, none⟩ = some (.slice (some ⟨s1, 0, none⟩) 3 3) := obj_cell obA 1 rfl
              have f1 := obj_frozen obA 1
              clear obA
              by_cases h4 : n = 4
              · have t4 : ((n : Int) == 4) = true := by rw [h4]; rfl
                have t4' : decide ((n : Int) = 4) = true := by rw [h4]; rfl
                clear h4
                go_wp2
                go_meet
                exact ⟨2, by omega, setCell_obj HKA.out.1 _, Fr.setCell wa ⟨b, 1, none⟩ _⟩
              · have t4 : ((n : Int) == 4) = false := by simp; omega
                have t4' : decide ((n : Int) = 4) = false := by simp; omega
                clear h4
                go_wp2
                go_meet
                exact ⟨3, by omega, HKA.out.1, Fr.refl _ _⟩
            case rest =>
            obtain ⟨k1, hk1, obB, kB⟩ := hcut
            have k12 := HKA.out.2.trans kB
            have hs7 := HQ.out.2.1.fr k12 fun g e => by
              have e' : g = b := e
              subst e'
              exact ⟨_, _, HQ.out.1⟩
            have hxr : ∀ y ∈ ([x] : List Int), -9223372036854775808 ≤ y ∧ y ≤ 9223372036854775807 := fun y hy => by
              obtain rfl := List.mem_singleton.1 hy
              have := HX.out.1
              unfold i64 at this
              omega
            have hx1 := hxr x (by simp)
            have hPV : PkV wc (.slice (some ⟨s0, 0, none⟩) k0 3) (.slice (some ⟨s1, 0, none⟩) k1 3) (.slice (some ⟨s2, 0, none⟩) m 5) (.slice (some ⟨s3, 0, none⟩) 5 5) (.slice (some ⟨s4, 0, none⟩) 3 3) (.slice (some ⟨s5, 0, none⟩) 5 5) (.slice (some ⟨s6, 0, none⟩) m 5) ⟨[x, 2, -1].take k0, [0, x, 1].take k1, [0, 1, 0, 2, 1].take m, acts5, [1, x, 0], [2, 0, 1, 2, 0], [5, 6, 7, x, 9].take m⟩ :=
              ⟨SI.take hs7.dv.at rfl hk0 (by simp; omega) (by omega), SI.take hs7.bv.at rfl hk1 (by simp; omega) (by omega), SI.take hs7.cv.at rfl hm5 (by simp) (by omega), hs7.nv.acts, SI.take (m := 3) hs7.gb.at rfl (by omega) (by simp; omega) (by omega), SI.take (m := 5) hs7.gc.at rfl (by omega) (by simp) (by omega), SI.take hs7.gn.at rfl hm5 (by simp; omega) (by omega)⟩
            have hFW : Fr nothing w1 wc := fr_newer (HX.out.2.2.trans HQ.out.2.2) k12 (Nat.le_trans HX.out.2.2.size hbW)
            have HPV := Lib.hid (And.intro hPV (And.intro obB hFW))
            clear hs7 hxr hx1 hPV hFW obB kB k12 obA hk0 hk1 hm5 hm0 hm1 em
            generalize (⟨[x, 2, -1].take k0, [0, x, 1].take k1, [0, 1, 0, 2, 1].take m, acts5, [1, x, 0], [2, 0, 1, 2, 0], [5, 6, 7, x, 9].take m⟩ : Pk) = P at HPV
            generalize wc = wb at *
            go_wp2
            generalize wr = wB at *
            go_loopw [5, 6] (fun s _ wr => ∃ z : Int, -1 ≤ z ∧ z ≤ 4 ∧ s = .int .i64 z ∧ Fr nothing wb wr) (fun s _ _ => (4 - intOf s).toNat)
            case atStart => exact ⟨-1, by omega, by omega, rfl, Fr.refl _ _⟩
            case round =>
              obtain ⟨z, hz0, hz4, rfl, hz⟩ := hrel
              by_cases hltz : z < 4
              · have tz : decide (z < 4) = true := decide_eq_true hltz
                have ez : IntKind.i64.wrap (z + 1) = z + 1 := IntWalk.i64_in _ (by omega)
                have iz : i64 z := by unfold i64; omega
                go_wp2
                generalize wr = wC at *
                go_loopw [6] (fun k wr => ∃ j : Nat, j ≤ 11 ∧ k = .int .i64 j ∧ Fr nothing wb wr) (fun k _ => 11 - (intOf k).toNat)
                case atStart => exact ⟨0, by omega, rfl, hz⟩
                case round =>
                  clear hz
                  obtain ⟨j, hj, rfl, hW⟩ := hrel
                  by_cases hltj : j < 11
                  · have tj : decide ((j : Int) < 11) = true := by simp; omega
                    have hj0 : (0 : Int) ≤ (j : Int) := by omega
                    have hj1 : (j : Int) < 11 := by omega
                    have hne := after_ne wr
                    obtain ⟨y, hy⟩ : ∃ y, y = nums11.getD j 0 := ⟨_, rfl⟩
                    have iy : i64 y := by rw [hy]; exact nums_ok j hltj
                    have yc : ∀ p : After wr, p.w.cell? ⟨nb, j, none⟩ = some (.int .i64 y) := fun p => by rw [hy]; exact HCELL.out p.w ((HPV.out.2.2.trans hW).trans (Fr.new p.ok)) j hltj
                    have oB := hW.obj HPV.out.2.1 fun e => e
                    have j0 := after_obj oB 0 (v := .slice (some ⟨s0, 0, none⟩) k0 3) rfl
                    have j1 := after_obj oB 1 (v := .slice (some ⟨s1, 0, none⟩) k1 3) rfl
                    have j2 := after_obj oB 2 (v := .slice (some ⟨s2, 0, none⟩) m 5) rfl
                    have j3 := after_obj oB 3 (v := .slice (some ⟨s3, 0, none⟩) 5 5) rfl
                    have j4 := after_obj oB 4 (v := .slice (some ⟨s4, 0, none⟩) 3 3) rfl
                    have j5 := after_obj oB 5 (v := .slice (some ⟨s5, 0, none⟩) 5 5) rfl
                    have j6 := after_obj oB 6 (v := .slice (some ⟨s6, 0, none⟩) m 5) rfl
                    have hpk := fun p : After wr => (HPV.out.1.fr hW).fr (Fr.new p.ok)
                    have H1 := Lib.hid fun p : After wr => after_call p (packAct_any P _ _ _ _ _ _ _ z y p.w (hpk p) iz iy)
                    have H2 := Lib.hid fun p : After wr => after_call p (refAct_any P _ _ _ _ _ _ _ z y p.w (hpk p) iz iy)
                    have H3 := Lib.hid fun p : After wr => after_call p (packGoto_any P _ _ _ _ _ _ _ z y p.w (hpk p) iz iy)
                    have H4 := Lib.hid fun p : After wr => after_call p (refGoto_any P _ _ _ _ _ _ _ z y p.w (hpk p) iz iy)
                    have HWW := Lib.hid hW
                    clear oB hpk hW hy iy
                    unfold acV at H1 H2
                    generalize (actE P z y).kind = kk at *
                    generalize (actE P z y).dst = dd at *
                    generalize gotoE P z y = gg at *
                    go_upto_region 20 with fail
                    refine wp_region_after wr (by kernel_rfl) (by kernel_rfl) (Below.refl _ _) ?_
                    repeat (go_big_quiet_step (first | with_reducible exact H1.out _ | with_reducible exact H2.out _ | with_reducible exact H3.out _ | with_reducible exact H4.out _))
                    refine wpQuiet_nil ?_
                    intro _ hw'
                    obtain ⟨q, hw''⟩ := hw'
                    subst hw''
                    clear yc j0 j1 j2 j3 j4 j5 j6 H1 H2 H3 H4
                    go_wp2
                    go_roundw
                    case rel => exact ⟨j + 1, by omega, by simp, HWW.out.trans (Fr.new q.ok)⟩
                    case measure => simp [intOf]; omega
                  · obtain rfl : j = 11 := by omega
                    have HWW := Lib.hid hW
                    clear hW hltj hj
                    go_wp2
                    go_roundw
                    case rel => exact ⟨z + 1, by omega, by omega, rfl, HWW.out⟩
                    case measure => simp [intOf]; omega
              · obtain rfl : z = 4 := by omega
                have hne := after_ne wr
                have hW1 := HPV.out.2.2.trans hz
                have xc : ∀ p : After wr, p.w.cell? ⟨nb, i, none⟩ = some (.int .i64 x) := fun p => by rw [HXX.out]; exact HCELL.out p.w (hW1.trans (Fr.new p.ok)) i hlt
                obtain ⟨y, hy⟩ : ∃ y, y = nums11.getD n 0 := ⟨_, rfl⟩
                have iy : i64 y := by rw [hy]; exact nums_ok n (by omega)
                have yc : ∀ p : After wr, p.w.cell? ⟨nb, n, none⟩ = some (.int .i64 y) := fun p => by rw [hy]; exact HCELL.out p.w (hW1.trans (Fr.new p.ok)) n (by omega)
                have oB := hz.obj HPV.out.2.1 fun e => e
                have j0 := after_obj oB 0 (v := .slice (some ⟨s0, 0, none⟩) k0 3) rfl
                have j1 := after_obj oB 1 (v := .slice (some ⟨s1, 0, none⟩) k1 3) rfl
                have j2 := after_obj oB 2 (v := .slice (some ⟨s2, 0, none⟩) m 5) rfl
                have j3 := after_obj oB 3 (v := .slice (some ⟨s3, 0, none⟩) 5 5) rfl
                have j4 := after_obj oB 4 (v := .slice (some ⟨s4, 0, none⟩) 3 3) rfl
                have j5 := after_obj oB 5 (v := .slice (some ⟨s5, 0, none⟩) 5 5) rfl
                have j6 := after_obj oB 6 (v := .slice (some ⟨s6, 0, none⟩) m 5) rfl
                have H1 := Lib.hid fun p : After wr => after_call p (packSays_any P _ _ _ _ _ _ _ x y y p.w ((HPV.out.1.fr hz).fr (Fr.new p.ok)) HX.out.1 iy iy)
                have HWW := Lib.hid hW1
                have hn0 : (0 : Int) ≤ (n : Int) := by omega
                have hn1 : (n : Int) < 11 := by omega
                clear oB hW1 hz hy iy hltz
                go_upto_region 22 with fail
                refine wp_region_after wr (by kernel_rfl) (by kernel_rfl) (Below.refl _ _) ?_
                repeat (go_big_quiet_step (exact H1.out _))
                refine wpQuiet_nil ?_
                intro _ hw'
                obtain ⟨q, hw''⟩ := hw'
                subst hw''
                clear xc yc j0 j1 j2 j3 j4 j5 j6 H1
                go_wp2
                go_roundw
                case rel => exact ⟨n + 1, by omega, by simp, HWW.out.trans (Fr.new q.ok)⟩
                case measure => simp [intOf]; omega
        · obtain rfl : n = 5 := by omega
          have HA := Lib.hid hA
          clear hA hltn hn5
          go_wp2
          go_roundw
          case rel => exact ⟨i + 1, by omega, by simp, HA.out⟩
          case measure => simp [intOf]; omega
    · obtain rfl : i = 11 := by omega
      have HA := Lib.hid (HF1.out.1.trans hA)
      clear hA hlt hi
      have nilP : ∀ U : World, PkV U nilS nilS nilS nilS nilS nilS nilS ⟨[], [], [], [], [], [], []⟩ := fun U => ⟨Ints.nil U, Ints.nil U, Ints.nil U, ⟨by simp, none, 0, rfl, Nat.le_refl _, by unfold maxLen; omega, .inl rfl⟩, Ints.nil U, Ints.nil U, Ints.nil U⟩
      have i0 : i64 0 := by unfold i64; omega
      have HS := Lib.hid fun U => packSays_any _ _ _ _ _ _ _ _ 0 0 0 U (nilP U) i0 i0 i0
      clear nilP i0
      go_wp2_with (first | (go_at_call 3; refine (HS.out _).mono ?_; rintro e w5 ⟨rfl, hb5⟩) | (go_at_call 8; refine (awake24_any _).mono ?_; rintro e w6 ⟨rfl, hb6⟩))
      go_ret
      exact ⟨rfl, ((HA.out.trans (Fr.new hb5)).trans (Fr.new hb6)).below_new⟩
end Go.Proofs.Ytehaoiimhgkckaa
