/-
  BitsLives: the walk.
-/
import Derived.Test.YtlilegbdjnhfjaaGreatDoorLives3
import Derived.Test.YtlilegbdjnhfjaaGreatDoorApart
namespace Go.Proofs.YtlilegbdjnhfjaaGreatDoor
open Go.RowKit Go.Shelf
set_option maxHeartbeats 400000

def truesI (bs : List Bool) : List Int := (trues bs).map fun x : Nat => (x : Int)
theorem truesI_len (bs : List Bool) : (truesI bs).length = (trues bs).length := by simp [truesI]
theorem truesI_vals (bs : List Bool) : ((trues bs).map fun x : Nat => Value.int .i64 (x : Int)) = (truesI bs).map (Value.int .i64) := by rw [truesI, List.map_map]; rfl
theorem truesI_row {w : World} {B : Nat} {r : Value} {bs : List Bool} (hl : bs.length ≤ 4096) (h : w.ownsRow B 3 1 r (trues bs).length ((trues bs).map fun x : Nat => Value.int .i64 (x : Int))) : ORow w B r (truesI bs).length (truesI bs) ∧ Ints w r (truesI bs) := by
  rw [truesI_vals, ← truesI_len] at h
  refine ⟨⟨rfl, h⟩, ints_of_own h (fun x hx => ?_) ?_⟩
  · obtain ⟨y, hy, rfl⟩ := List.mem_map.1 hx
    have := trues_lt bs y hy
    omega
  · have := trues_len bs
    rw [truesI_len]; omega
theorem pAllI (w : World) (B p : Nat) (v : Value) (bs : List Bool) (h : PSet w B p v bs) (hT : Tab w) :
    Calls Tryz.prog 10 #[.pointer (some ⟨p, 0, none⟩)] w fun e w' => ∃ r, e = .returned r ∧ Below w.heap.size w w' ∧ ORow w' w.heap.size r (truesI bs).length (truesI bs) ∧ Ints w' r (truesI bs) :=
  (pAll w B p v bs h hT).mono fun _e _w ⟨r, he, hB, hO⟩ => ⟨r, he, hB, truesI_row h.len hO⟩
theorem rAllI (w : World) (B q : Nat) (u : Value) (bs : List Bool) (h : RSet w B q u bs) :
    Calls Tryz.prog 11 #[.pointer (some ⟨q, 0, none⟩)] w fun e w' => ∃ r, e = .returned r ∧ Below w.heap.size w w' ∧ Ints w' r (truesI bs) :=
  (rAll w B q u bs h).mono fun _e _w ⟨r, he, hB, hO⟩ => ⟨r, he, hB, (truesI_row h.2.2.1 hO).2⟩
theorem sameT (u v : Value) (xs : List Int) (w : World) (hx : Ints w u xs) (hy : Ints w v xs) :
    Calls Tryz.prog 9 #[u, v] w fun e w' => e = .returned (.bool true) ∧ Fr nothing w w' :=
  (same_any u v xs xs w hx hy).mono fun e w' ⟨he, n, hw⟩ => ⟨by rw [he]; simp [sameI], hw ▸ Fr.drewN _ _⟩

/-- A row of steps. -/
def IsDos (w : World) (v : Value) (l : List (Int × Int × Int)) : Prop :=
  ∃ a cap, v = .slice a l.length cap ∧ l.length ≤ 17592186044416 ∧ ∀ k, (h : k < l.length) → ∃ b o, a = some ⟨b, o, none⟩ ∧ Cells w b (o + k * 3) [.int .i64 l[k].1, .int .i64 l[k].2.1, .int .i64 l[k].2.2] ∧
    (-9223372036854775808 ≤ l[k].1 ∧ l[k].1 ≤ 9223372036854775807) ∧ (-9223372036854775808 ≤ l[k].2.1 ∧ l[k].2.1 ≤ 9223372036854775807)
theorem IsDos.fr {w w' : World} {v : Value} {l : List (Int × Int × Int)} (h : IsDos w v l) (k : Fr nothing w w') : IsDos w' v l := by
  obtain ⟨a, cap, hv, hl, hx⟩ := h
  refine ⟨a, cap, hv, hl, fun i hi => ?_⟩
  obtain ⟨b, o, ha, hc, h1, h2⟩ := hx i hi
  exact ⟨b, o, ha, hc.fr k (fun e => e), h1, h2⟩

def okB (n : Int) : Bool := decide (0 ≤ n) && decide (n ≤ 4096)
theorem okB_yes {n : Int} (h : okB n = true) : ∃ k : Nat, n = k ∧ k ≤ 4096 := by
  simp only [okB, Bool.and_eq_true, decide_eq_true_eq] at h
  exact ⟨n.toNat, by omega, by omega⟩
theorem okB_no {n : Int} (h : okB n = false) : n < 0 ∨ 4096 < n := by
  simp only [okB, Bool.and_eq_false_iff, decide_eq_false_iff_not] at h
  omega
theorem pNewA (x : Int) (w : World) (h : okB x = true) : Calls Tryz.prog 5 #[.int .i64 x] w fun e w' => ∃ p, e = .returned (.pointer (some ⟨p, 0, none⟩)) ∧ Below w.heap.size w w' := by
  obtain ⟨k, rfl, hk⟩ := okB_yes h
  exact (pNew k w hk).mono fun e w' ⟨p, v, he, _, hB⟩ => ⟨_, he, hB⟩
theorem pNewN (x : Int) (w : World) (h : okB x = false) : Calls Tryz.prog 5 #[.int .i64 x] w fun e w' => e = .returned (.pointer none) ∧ w = w' := new_no x w (okB_no h)
theorem rNewA (x : Int) (w : World) (h : okB x = true) : Calls Tryz.prog 6 #[.int .i64 x] w fun e w' => ∃ p, e = .returned (.tuple #[.pointer (some ⟨p, 0, none⟩), .bool true]) ∧ Below w.heap.size w w' := by
  obtain ⟨k, rfl, hk⟩ := okB_yes h
  exact (rNew k w hk).mono fun e w' ⟨p, v, he, _, hB⟩ => ⟨_, he, hB⟩
theorem rNewN (x : Int) (w : World) (h : okB x = false) : Calls Tryz.prog 6 #[.int .i64 x] w fun e w' => e = .returned (.tuple #[.pointer none, .bool false]) ∧ w = w' := rNew_no x w (okB_no h)

set_option maxRecDepth 100000 in
theorem bitsLives_nn (m n : Int) (hm : okB m = false) (hn : okB n = false) (v : Value) (w : World) (hT : Tab w) :
    Calls Tryz.prog 3 #[.int .i64 m, .int .i64 n, v] w fun e w' => e = .returned (.bool true) ∧ Below w.heap.size w w' := by
  have HM := Lib.hid (pNewN m w hm)
  have HN := Lib.hid fun w => pNewN n w hn
  have HM2 := Lib.hid fun w => rNewN m w hm
  have HN2 := Lib.hid fun w => rNewN n w hn
  have HT := Lib.hid hT
  clear hm hn hT
  go_enter Tryz.func3, Tryz.ntmps3
  go_upto_region 2 with (go_at_call 5; first | (refine HM.out.mono ?_; clear HM; rintro e w1 ⟨rfl, rfl⟩) | (refine (HN.out _).mono ?_; rintro e w2 ⟨rfl, rfl⟩))
  have hBa : Below w.heap.size w w := (Below.refl w.heap.size w)
  refine wp_atW (F := fun W => W.heap[w.heap.size]? = some (.cells #[.pointer none, .pointer none] 23 (0, 0)) ∧ Below w.heap.size w W) ⟨World.alloc_heap_new _ _, hBa.alloc hBa.size _⟩ ?_
  rintro wS ⟨hs, hBS⟩
  have hsb : ∃ sb, sb = w.heap.size := ⟨_, rfl⟩
  go_upto_region 4 with (go_at_call 6; first | (refine (HM2.out _).mono ?_; clear HM2; rintro e w3 ⟨rfl, rfl⟩) | (refine (HN2.out _).mono ?_; rintro e w4 ⟨rfl, rfl⟩))
  have hF : Fr nothing wS wS := Fr.refl _ _
  have hs4 := hF.obj hs fun e => e
  have c0 : wS.cell? ⟨w.heap.size, 0, none⟩ = some (.pointer none) := obj_cell hs4 0 rfl
  have c1 : wS.cell? ⟨w.heap.size, 1, none⟩ = some (.pointer none) := obj_cell hs4 1 rfl
  have hB4' : Below w.heap.size w wS := hBS.trans (hF.below_new.mono hBS.size)
  have HA := Lib.hid (awake_any wS (HT.out.fr (Fr.new hB4') fun e => e))
  go_wp2_with (go_at_call 7; refine HA.out.mono ?_; rintro e w5 ⟨rfl, hB5⟩)
  go_ret
  exact ⟨rfl, hB4'.trans (hB5.mono hB4'.size)⟩
set_option maxRecDepth 100000 in
theorem bitsLives_yn (m n : Int) (hm : okB m = true) (hn : okB n = false) (v : Value) (w : World) (hT : Tab w) :
    Calls Tryz.prog 3 #[.int .i64 m, .int .i64 n, v] w fun e w' => e = .returned (.bool true) ∧ Below w.heap.size w w' := by
  have HM := Lib.hid (pNewA m w hm)
  have HN := Lib.hid fun w => pNewN n w hn
  have HM2 := Lib.hid fun w => rNewA m w hm
  have HN2 := Lib.hid fun w => rNewN n w hn
  have HT := Lib.hid hT
  clear hm hn hT
  go_enter Tryz.func3, Tryz.ntmps3
  go_upto_region 2 with (go_at_call 5; first | (refine HM.out.mono ?_; clear HM; rintro e w1 ⟨p0, rfl, hB1⟩) | (refine (HN.out _).mono ?_; rintro e w2 ⟨rfl, rfl⟩))
  have hBa : Below w.heap.size w w1 := ((Below.refl w.heap.size w).trans (hB1.mono (Below.refl w.heap.size w).size))
  refine wp_atW (F := fun W => W.heap[w1.heap.size]? = some (.cells #[.pointer (some ⟨p0, 0, none⟩), .pointer none] 23 (0, 0)) ∧ Below w.heap.size w W) ⟨World.alloc_heap_new _ _, hBa.alloc hBa.size _⟩ ?_
  rintro wS ⟨hs, hBS⟩
  generalize w1.heap.size = sb at *
  go_upto_region 4 with (go_at_call 6; first | (refine (HM2.out _).mono ?_; clear HM2; rintro e w3 ⟨q0, rfl, hB3⟩) | (refine (HN2.out _).mono ?_; rintro e w4 ⟨rfl, rfl⟩))
  have hF : Fr nothing wS w3 := Fr.new hB3
  have hs4 := hF.obj hs fun e => e
  have c0 : w3.cell? ⟨sb, 0, none⟩ = some (.pointer (some ⟨p0, 0, none⟩)) := obj_cell hs4 0 rfl
  have c1 : w3.cell? ⟨sb, 1, none⟩ = some (.pointer none) := obj_cell hs4 1 rfl
  have hB4' : Below w.heap.size w w3 := hBS.trans (hF.below_new.mono hBS.size)
  have HA := Lib.hid (awake_any w3 (HT.out.fr (Fr.new hB4') fun e => e))
  go_wp2_with (go_at_call 7; refine HA.out.mono ?_; rintro e w5 ⟨rfl, hB5⟩)
  go_ret
  exact ⟨rfl, hB4'.trans (hB5.mono hB4'.size)⟩
set_option maxRecDepth 100000 in
theorem bitsLives_ny (m n : Int) (hm : okB m = false) (hn : okB n = true) (v : Value) (w : World) (hT : Tab w) :
    Calls Tryz.prog 3 #[.int .i64 m, .int .i64 n, v] w fun e w' => e = .returned (.bool true) ∧ Below w.heap.size w w' := by
  have HM := Lib.hid (pNewN m w hm)
  have HN := Lib.hid fun w => pNewA n w hn
  have HM2 := Lib.hid fun w => rNewN m w hm
  have HN2 := Lib.hid fun w => rNewA n w hn
  have HT := Lib.hid hT
  clear hm hn hT
  go_enter Tryz.func3, Tryz.ntmps3
  go_upto_region 2 with (go_at_call 5; first | (refine HM.out.mono ?_; clear HM; rintro e w1 ⟨rfl, rfl⟩) | (refine (HN.out _).mono ?_; rintro e w2 ⟨p1, rfl, hB2⟩))
  have hBa : Below w.heap.size w w2 := ((Below.refl w.heap.size w).trans (hB2.mono (Below.refl w.heap.size w).size))
  refine wp_atW (F := fun W => W.heap[w2.heap.size]? = some (.cells #[.pointer none, .pointer (some ⟨p1, 0, none⟩)] 23 (0, 0)) ∧ Below w.heap.size w W) ⟨World.alloc_heap_new _ _, hBa.alloc hBa.size _⟩ ?_
  rintro wS ⟨hs, hBS⟩
  generalize w2.heap.size = sb at *
  go_upto_region 4 with (go_at_call 6; first | (refine (HM2.out _).mono ?_; clear HM2; rintro e w3 ⟨rfl, rfl⟩) | (refine (HN2.out _).mono ?_; rintro e w4 ⟨q1, rfl, hB4⟩))
  have hF : Fr nothing wS w4 := Fr.new hB4
  have hs4 := hF.obj hs fun e => e
  have c0 : w4.cell? ⟨sb, 0, none⟩ = some (.pointer none) := obj_cell hs4 0 rfl
  have c1 : w4.cell? ⟨sb, 1, none⟩ = some (.pointer (some ⟨p1, 0, none⟩)) := obj_cell hs4 1 rfl
  have hB4' : Below w.heap.size w w4 := hBS.trans (hF.below_new.mono hBS.size)
  have HA := Lib.hid (awake_any w4 (HT.out.fr (Fr.new hB4') fun e => e))
  go_wp2_with (go_at_call 7; refine HA.out.mono ?_; rintro e w5 ⟨rfl, hB5⟩)
  go_ret
  exact ⟨rfl, hB4'.trans (hB5.mono hB4'.size)⟩
end Go.Proofs.YtlilegbdjnhfjaaGreatDoor
