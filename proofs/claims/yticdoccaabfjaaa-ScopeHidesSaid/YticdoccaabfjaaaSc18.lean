/-
  The statements' own helpers: TypesOf, Pick.
-/
import Derived.Test.YticdoccaabfjaaaSc17
namespace Go.Proofs.Yticdoccaabfjaaa
open Go.RowKit
set_option maxHeartbeats 400000

def SomeInt (B : World) (e : Ending) (w' : World) : Prop := (∃ n : Int, e = .returned (.int .i64 n)) ∧ Below B.heap.size B w'
set_option maxRecDepth 100000 in
set_option maxHeartbeats 2000000 in
theorem typesOf_any {w0 : World} {S : Nat → Prop} {t : Ty} {v : Value} (h : IsTy w0 S t v) : ∀ w, Fr nothing w0 w → ∀ most : Int, Calls Try.prog 15 #[v, .int .i64 most] w (SomeInt w) := by
  induction h with
  | @mk k n el a cap b o vs hk hl hc hm ha hcs hel ih =>
    intro w hw most
    have hm' : cap ≤ 9223372036854775807 := hm
    have hcs1 : ∀ i, i < el.length → Cells w b (o + i * 3) (tyCells (vs i)) := fun i hi => (hcs i hi).fr hw fun e => e
    have hpt : ∀ i (h : i < el.length), ∃ k n a len cap, vs i = .agg #[.int .u8 k, .string n, .slice a len cap] ∧ 0 ≤ k ∧ k < 256 := fun i h => (hel i h).parts
    have HP := Lib.hid hpt
    have HC := Lib.hid hcs1
    have HI := Lib.hid ih
    have HA := Lib.hid ha
    have HW := Lib.hid hw
    have HBX := Lib.hid (alloc_obj w (.cells #[.int .u8 k, .string n, .slice a el.length cap] 37 (0, 0)))
    clear hcs hcs1 hpt ih hel hm ha hw
    obtain ⟨N, hN⟩ : ∃ N, N = el.length := ⟨_, rfl⟩
    rw [← hN] at hl hc HBX ⊢
    have HN := Lib.hid hN
    clear hN
    go_enter Try.func15, Try.ntmps15
    go_wp2
    go_loopw [5, 6] (fun c i wr => ∃ (K : Nat) (x : Int), K ≤ N ∧ c = .int .i64 x ∧ i = .int .i64 K ∧ Below w.heap.size w wr ∧ wr.heap[w.heap.size]? = some (.cells #[.int .u8 k, .string n, .slice a N cap] 37 (0, 0))) (fun _ i _ => N - (intOf i).toNat)
    case atStart => exact ⟨0, 1, Nat.zero_le _, rfl, rfl, (Below.refl _ _).alloc (Nat.le_refl _) _, HBX.out⟩
    case round =>
      obtain ⟨K, x, hK, rfl, rfl, hB, hbx⟩ := hrel
      have hb2 : wr.cell? ⟨w.heap.size, 2, none⟩ = some (.slice a N cap) := obj_cell hbx 2 rfl
      have HO := Lib.hid hbx
      clear hbx
      by_cases hlt : K < N
      · by_cases hle : x ≤ most
        · obtain ⟨k1, n1, a1, len1, cap1, hv1, hk1⟩ := HP.out K (by rw [← HN.out]; exact hlt)
          have hc1 := HC.out K (by rw [← HN.out]; exact hlt)
          rw [hv1, tyCells_agg] at hc1
          obtain rfl : a = some ⟨b, o, none⟩ := by
            rcases HA.out with e | e
            · have := HN.out; rw [e] at this; simp at this; omega
            · exact e.1
          have x0 := (Fr.new hB).cell (hc1 0 (by simp)) fun e => e
          have x1 := (Fr.new hB).cell (hc1 1 (by simp)) fun e => e
          have x2 := (Fr.new hB).cell (hc1 2 (by simp)) fun e => e
          simp only [List.getElem_cons_zero, List.getElem_cons_succ, Nat.add_zero] at x0 x1 x2
          have hcall := HI.out K (by rw [← HN.out]; exact hlt) wr (HW.out.trans (Fr.new hB))
          rw [hv1] at hcall
          have HCL := Lib.hid hcall
          have HB := Lib.hid hB
          clear hcall hv1 hc1 hB
          go_wp2_with (go_at_call 15; refine (HCL.out _).mono ?_; rintro e w1 ⟨⟨z, rfl⟩, hb1⟩)
          have ho1 := (Fr.new hb1).obj HO.out fun e => e
          have HO1 := Lib.hid ho1
          clear ho1
          go_roundw
          case rel => exact ⟨K + 1, _, by omega, rfl, by simp, HB.out.trans (hb1.mono HB.out.size), HO1.out⟩
          case measure => simp [intOf]; omega
        · go_wp2
          all_goals (go_ret; exact ⟨⟨_, rfl⟩, hB⟩)
      · obtain rfl : K = N := by omega
        clear hlt
        go_wp2
        all_goals (go_ret; exact ⟨⟨_, rfl⟩, hB⟩)

def pickN (n : Nat) (x : Int) : Nat := (x % (n : Int)).toNat
theorem pickN_lt (n : Nat) (x : Int) (h : 0 < n) : pickN n x < n := by
  unfold pickN
  have h1 := Int.emod_nonneg x (b := (n : Int)) (by omega)
  have h2 := Int.emod_lt_of_pos x (b := (n : Int)) (by omega)
  omega
theorem pickN_int (n : Nat) (x : Int) (h : 0 < n) : ((pickN n x : Nat) : Int) = x % (n : Int) := by
  unfold pickN
  have h1 := Int.emod_nonneg x (b := (n : Int)) (by omega)
  omega
theorem tmod_pick (x : Int) (n : Nat) (h : 0 < n) (hx : -9223372036854775808 ≤ x ∧ x ≤ 9223372036854775807) : (¬ x.tmod n < 0 → x.tmod n = ((pickN n x : Nat) : Int)) ∧ (x.tmod n < 0 → x.tmod n + n = ((pickN n x : Nat) : Int)) := by
  rw [pickN_int n x h]
  have h1 := Int.emod_nonneg x (b := (n : Int)) (by omega)
  have h2 := Int.emod_lt_of_pos x (b := (n : Int)) (by omega)
  rcases Int.lt_or_le x 0 with h0 | h0
  · obtain ⟨y, rfl⟩ : ∃ y : Nat, x = -(y : Int) := ⟨(-x).toNat, by omega⟩
    have e1 : (-(y : Int)).tmod n = -((y % n : Nat) : Int) := by rw [Int.neg_tmod]; rfl
    have hm := Nat.mod_lt y h
    rw [e1]
    have e2 : (-(y : Int)) % n = if y % n = 0 then 0 else (n : Int) - ((y % n : Nat) : Int) := by
      have hd := Nat.div_add_mod y n
      have e3 : (-(y : Int)) = (n : Int) * (-((y / n : Nat) : Int)) - ((y % n : Nat) : Int) := by
        have : (y : Int) = (n : Int) * ((y / n : Nat) : Int) + ((y % n : Nat) : Int) := by exact_mod_cast hd.symm
        rw [Int.mul_neg]; omega
      split
      · rename_i hz
        rw [e3, hz]; simp
      · rename_i hz
        rw [e3, show (n : Int) * (-((y / n : Nat) : Int)) - ((y % n : Nat) : Int) = ((n : Int) - ((y % n : Nat) : Int)) + (n : Int) * (-((y / n : Nat) : Int) - 1) by rw [Int.mul_sub]; omega, Int.add_mul_emod_self_left]
        exact Int.emod_eq_of_lt (by omega) (by omega)
    rw [e2]
    split <;> omega
  · rw [Int.tmod_eq_emod_of_nonneg h0]
    omega
theorem pick_any (x : Int) (n : Nat) (h : 0 < n) (hn : n ≤ 1000000) (w : World) (hx : -9223372036854775808 ≤ x ∧ x ≤ 9223372036854775807) :
    Calls Try.prog 18 #[.int .i64 x, .int .i64 n] w fun e w' => e = .returned (.int .i64 (pickN n x : Nat)) ∧ w = w' := by
  obtain ⟨h1, h2⟩ := tmod_pick x n h hx
  have hlt := pickN_lt n x h
  have hb1 : decide ((n : Int) < 1) = false := decide_eq_false (by omega)
  have hb2 : ((n : Int) == 0) = false := by simp; omega
  generalize pickN n x = k at *
  by_cases h0 : x.tmod n < 0
  · have h2' := h2 h0
    clear h1 h2
    generalize hy : x.tmod n = y at *
    go_enter Try.func18, Try.ntmps18
    go_wp2
    go_ret
    exact ⟨rfl, rfl⟩
  · have h1' := h1 h0
    clear h1 h2
    have hk : ¬ ((k : Int) < 0) := by omega
    rw [h1'] at h0
    generalize hy : x.tmod n = y at *
    subst h1'
    go_enter Try.func18, Try.ntmps18
    go_wp2
    go_ret
    exact ⟨rfl, rfl⟩

end Go.Proofs.Yticdoccaabfjaaa
