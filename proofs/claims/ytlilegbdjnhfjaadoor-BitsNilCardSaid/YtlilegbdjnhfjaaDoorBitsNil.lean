/-
  BitsNil: no set, and one that nobody made, do and tell nothing: the walk.
-/
import Derived.Test.YtlilegbdjnhfjaaDoorBits5
import Derived.Deep.RegionHeld3
namespace Go.Proofs.YtlilegbdjnhfjaaDoor
open Go.RowKit
set_option maxHeartbeats 400000

/-- No set, or one that nobody made. -/
def Zero (w : World) (v : Value) : Prop := v = .pointer none ∨ ∃ p, v = .pointer (some ⟨p, 0, none⟩) ∧ w.cell? ⟨p, 2, none⟩ = some (.bool false)
theorem Zero.fr {w w' : World} {v : Value} (h : Zero w v) (k : Fr nothing w w') : Zero w' v := by
  rcases h with h | ⟨p, h, hc⟩
  · exact .inl h
  · exact .inr ⟨p, h, k.cell hc (fun e => e)⟩

theorem zero_add (w : World) (v : Value) (h : Zero w v) (x : Int) : Calls Tryd.prog 15 #[v, .int .i64 x] w fun e w' => e = .returned (.bool false) ∧ Below w.heap.size w w' := by
  rcases h with rfl | ⟨p, rfl, hc⟩
  · exact (set_add_nil w x).mono fun e w' ⟨he, hw⟩ => ⟨he, hw ▸ Below.refl _ _⟩
  · exact (set_add_zero w p hc x).mono fun e w' ⟨he, hw⟩ => ⟨he, hw ▸ Below.refl _ _⟩
theorem zero_has (w : World) (v : Value) (h : Zero w v) (x : Int) : Calls Tryd.prog 17 #[v, .int .i64 x] w fun e w' => e = .returned (.bool false) ∧ Below w.heap.size w w' := by
  rcases h with rfl | ⟨p, rfl, hc⟩
  · exact (set_has_nil w x).mono fun e w' ⟨he, hw⟩ => ⟨he, hw ▸ Below.refl _ _⟩
  · exact (set_has_zero w p hc x).mono fun e w' ⟨he, hw⟩ => ⟨he, hw ▸ Below.refl _ _⟩
theorem zero_known (w : World) (v : Value) (h : Zero w v) : Calls Tryd.prog 25 #[v] w fun e w' => e = .returned (.bool false) ∧ w = w' := by
  rcases h with rfl | ⟨p, rfl, hc⟩
  · exact known_nil w
  · exact known_yes w p false hc
theorem zero_len (w : World) (v : Value) (h : Zero w v) : Calls Tryd.prog 18 #[v] w fun e w' => e = .returned (.int .i64 0) ∧ Below w.heap.size w w' := by
  have HK := Lib.hid (zero_known w v h)
  clear h
  go_enter Tryd.func18, Tryd.ntmps18
  go_wp2_with (go_at_call 25; refine HK.out.mono ?_; rintro e w' ⟨rfl, rfl⟩)
  go_ret
  exact ⟨rfl, Below.refl _ _⟩
theorem zero_copy (w : World) (v : Value) (h : Zero w v) : Calls Tryd.prog 20 #[v] w fun e w' => e = .returned (.pointer none) ∧ Below w.heap.size w w' := by
  have HK := Lib.hid (zero_known w v h)
  clear h
  go_enter Tryd.func20, Tryd.ntmps20
  go_wp2_with (go_at_call 25; refine HK.out.mono ?_; rintro e w' ⟨rfl, rfl⟩)
  go_ret
  exact ⟨rfl, Below.refl _ _⟩
theorem zero_all (w : World) (v : Value) (h : Zero w v) : Calls Tryd.prog 19 #[v] w fun e w' => e = .returned (.slice none 0 0) ∧ Below w.heap.size w w' := by
  have hz : Zero (w.alloc (.cells #[.slice none 0 0] 22)) v := h.fr (Fr.alloc _ _)
  have HK := Lib.hid (zero_known _ v hz)
  clear h hz
  go_enter Tryd.func19, Tryd.ntmps19
  go_wp2_with (go_at_call 25; refine HK.out.mono ?_; rintro e w' ⟨rfl, rfl⟩)
  go_ret
  exact ⟨rfl, (Below.refl _ _).alloc (Nat.le_refl _) _⟩
theorem zero_join (w : World) (p : Option Addr) (h : Zero w (.pointer p)) (o : Value) : Calls Tryd.prog 16 #[.pointer p, o] w fun e w' => e = .returned (.bool false) ∧ Below w.heap.size w w' := by
  have hz : Zero ((w.alloc (.cells #[.pointer p] 33)).alloc (.cells #[.bool false] 4)) (.pointer p) := (h.fr (Fr.alloc _ _)).fr (Fr.alloc _ _)
  have HK := Lib.hid (zero_known _ _ hz)
  clear h hz
  go_enter Tryd.func16, Tryd.ntmps16
  go_wp2_with (go_at_call 25; refine HK.out.mono ?_; rintro e w' ⟨rfl, rfl⟩)
  go_ret
  exact ⟨rfl, ((Below.refl _ _).alloc (Nat.le_refl _) _).alloc (by simp) _⟩

theorem keep3 {wr W w' : World} {a : Addr} {v u : Value} (hc : W.cell? a = some v) (hz : Zero W u) (hB : Below wr.heap.size wr W) (hb : Below W.heap.size W w') :
    w'.cell? a = some v ∧ Zero w' u ∧ Below wr.heap.size wr w' :=
  ⟨(Fr.new hb).cell hc (fun e => e), hz.fr (Fr.new hb), hB.trans (hb.mono hB.size)⟩

set_option maxRecDepth 100000 in
set_option maxHeartbeats 2000000 in
theorem bitsNil_any (n : Int) (w : World) (hT : Tab w) :
    Calls Tryd.prog 6 #[.int .i64 n] w fun e w' => e = .returned (.bool true) ∧ Below w.heap.size w w' := by
  go_enter Tryd.func6, Tryd.ntmps6
  go_wp2
  go_loopw [4] (fun i wr => ∃ k : Nat, k ≤ 2 ∧ i = .int .i64 k ∧ wr.cell? ⟨w.heap.size + 1, 0, none⟩ = some (.pointer none) ∧ wr.cell? ⟨w.heap.size + 1, 1, none⟩ = some (.pointer (some ⟨w.heap.size, 0, none⟩)) ∧
      wr.cell? ⟨w.heap.size, 2, none⟩ = some (.bool false) ∧ Below w.heap.size w wr) (fun i _ => 2 - (intOf i).toNat)
  case atStart => exact ⟨0, by omega, rfl, by simp [go_sem], by simp [go_sem], by simp [go_sem], ((Below.refl _ _).alloc (Nat.le_refl _) _).alloc (by simp) _⟩
  case round =>
    obtain ⟨k, hk, rfl, h0, h1, h2, hB⟩ := hrel
    by_cases hlt : k < 2
    · obtain ⟨p, hp, hz⟩ : ∃ p, wr.cell? ⟨w.heap.size + 1, k, none⟩ = some (.pointer p) ∧ Zero wr (.pointer p) := by
        rcases (show k = 0 ∨ k = 1 by omega) with rfl | rfl
        · exact ⟨_, h0, .inl rfl⟩
        · exact ⟨_, h1, .inr ⟨_, rfl, h2⟩⟩
      have HC := Lib.hid (And.intro h0 (And.intro h1 h2))
      have hBr := Below.refl wr.heap.size wr
      clear h0 h1 h2
      go_wp2_with fail
      go_region_held3 (fun w' => w'.cell? ⟨w.heap.size + 1, k, none⟩ = some (.pointer p) ∧ Zero w' (.pointer p) ∧ Below wr.heap.size wr w')
        (first
          | exact ⟨hp, hz.fr (Fr.drew _), hBr.drew⟩
          | (go_split_ands; exact keep3 (by assumption) (by assumption) (by assumption) hb))
        (first
          | (go_at_call 15; go_split_ands; refine (zero_add _ _ (by assumption) _).mono ?_; rintro e w' ⟨rfl, hb⟩)
          | (go_at_call 17; go_split_ands; refine (zero_has _ _ (by assumption) _).mono ?_; rintro e w' ⟨rfl, hb⟩)
          | (go_at_call 13; go_split_ands; refine (new_yes 3 _ (by omega)).mono ?_; rintro e w' ⟨q, v, rfl, hq, hb⟩)
          | (go_at_call 16; go_split_ands; refine (zero_join _ _ (by assumption) _).mono ?_; rintro e w' ⟨rfl, hb⟩)
          | (go_at_call 19; go_split_ands; refine (zero_all _ _ (by assumption)).mono ?_; rintro e w' ⟨rfl, hb⟩)
          | (go_at_call 18; go_split_ands; refine (zero_len _ _ (by assumption)).mono ?_; rintro e w' ⟨rfl, hb⟩)
          | (go_at_call 20; go_split_ands; refine (zero_copy _ _ (by assumption)).mono ?_; rintro e w' ⟨rfl, hb⟩))
      have hHH : w'.cell? ⟨w.heap.size + 1, k, none⟩ = some (.pointer p) ∧ Zero w' (.pointer p) ∧ Below wr.heap.size wr w' := by assumption
      have HB := Lib.hid hHH.2.2
      clear hb hHH hp hz
      go_wp2
      go_roundw
      case rel =>
        have h := HC.out
        have hF := Fr.new HB.out
        exact ⟨k + 1, by omega, by simp, hF.cell h.1 (fun e => e), hF.cell h.2.1 (fun e => e), hF.cell h.2.2 (fun e => e), hB.trans (HB.out.mono hB.size)⟩
      case measure => simp [intOf]; omega
    · obtain rfl : k = 2 := by omega
      have HA := Lib.hid (awake_any wr (hT.fr (Fr.of_below hB) (by have := World.block_lt_of_cell? w _ (hT 0 (by omega)); unfold from_; simp at this; omega)))
      clear hlt
      go_wp2_with (go_at_call 7; refine HA.out.mono ?_; rintro e w1 ⟨rfl, hB1⟩)
      go_ret
      exact ⟨rfl, hB.trans (hB1.mono hB.size)⟩
end Go.Proofs.YtlilegbdjnhfjaaDoor
