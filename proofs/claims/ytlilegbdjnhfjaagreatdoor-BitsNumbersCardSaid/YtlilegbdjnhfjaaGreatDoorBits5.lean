/-
  The chapter's examples hold: awake answers true.
-/
import Derived.Test.YtlilegbdjnhfjaaGreatDoorBits4
namespace Go.Proofs.YtlilegbdjnhfjaaGreatDoor
open Go.RowKit
set_option maxHeartbeats 400000

theorem ints_alloc (w : World) (xs : List Int) (t : TypeId) (h : ∀ x ∈ xs, -9223372036854775808 ≤ x ∧ x ≤ 9223372036854775807) (hl : xs.length ≤ 100) :
    Ints (w.alloc (.cells (xs.map (Value.int .i64)).toArray t)) (.slice (some ⟨w.heap.size, 0, none⟩) xs.length xs.length) xs :=
  ⟨h, by omega, _, _, rfl, Nat.le_refl _, by unfold maxLen; omega, .inr ⟨_, _, rfl, fun i hi => by
    rw [World.cell?_alloc_at _ _ _ _ rfl]
    simp at hi
    simp [hi]⟩⟩
theorem Ints.parts {w : World} {v : Value} {xs : List Int} (h : Ints w v xs) : ∃ a cap, v = .slice a xs.length cap ∧ xs.length ≤ 17592186044416 ∧ (xs = [] ∨ ∃ b o, a = some ⟨b, o, none⟩ ∧ Cells w b o (xs.map (Value.int .i64))) := by
  obtain ⟨_, h1, a, cap, rfl, _, _, h2⟩ := h
  exact ⟨a, cap, rfl, h1, h2⟩
theorem ints_of_own {w : World} {B : Nat} {e : TypeId} {v : Value} {xs : List Int} (h : w.ownsRow B e 1 v xs.length (xs.map (Value.int .i64))) (h0 : ∀ x ∈ xs, -9223372036854775808 ≤ x ∧ x ≤ 9223372036854775807) (hl : xs.length ≤ 17592186044416) : Ints w v xs := by
  obtain ⟨a, cap, rfl, h1, h2, h3⟩ := own_as_cells h
  refine ⟨h0, hl, a, cap, rfl, h1, h2, ?_⟩
  rcases h3 with h3 | ⟨g, rfl, _, hc⟩
  · exact .inl (by simpa using h3)
  · exact .inr ⟨g, 0, rfl, hc⟩

theorem keycheck (w : World) (v : Value) (h : Ints w v [1, 258]) :
    Calls Tryz.prog 19 #[v, .string ⟨#[0, 1, 1, 2]⟩] w fun e w' => e = .returned (.bool true) ∧ Below w.heap.size w w' := by
  obtain ⟨a, cap, rfl, h1, h2⟩ := h.parts
  have HK := key_ok a cap [1, 258] w h1 h2 (by decide)
  have e : strOfNums (keyNums [1, 258]) = ⟨#[0, 1, 1, 2]⟩ := by decide +kernel
  rw [e] at HK
  have H := Lib.hid HK
  clear HK h h2 e
  go_enter Tryz.func19, Tryz.ntmps19
  go_wp2_with (go_at_call 17; refine H.out.mono ?_; rintro e w' ⟨rfl, hb⟩)
  go_ret
  exact ⟨rfl, hb⟩

theorem elems_8 : elems [8] = [3] := by decide +kernel

set_option maxRecDepth 100000 in
theorem awake_any (w : World) (hT : Tab w) : Calls Tryz.prog 7 #[] w fun e w' => e = .returned (.bool true) ∧ Below w.heap.size w w' := by
  go_enter Tryz.func7, Tryz.ntmps7
  go_wp2_with fail
  refine (new_yes 10 w (by omega)).mono ?_
  rintro e w1 ⟨p, v, rfl, hS1, hB1⟩
  go_wp2_with fail
  have hadd := set_add_new w1 _ _ _ _ _ hS1 3 (by omega) (by decide)
  refine hadd.mono ?_
  rintro e w2 ⟨rfl, hS2, hF2⟩
  have hput : putIn (List.replicate ((10 + 63) / 64) 0) 3 = [8] := by decide
  rw [hput] at hS2
  clear hput hadd
  go_wp2_with fail
  refine (set_add_old w2 _ _ _ _ _ hS2 3 (by omega) (by decide)).mono ?_
  rintro e w3 ⟨rfl, rfl⟩
  go_wp2_with fail
  refine (set_add_out w2 _ _ _ _ _ hS2 10 (by omega)).mono ?_
  rintro e w3 ⟨rfl, rfl⟩
  have hB2 : Below w.heap.size w w2 := hB1.trans (hF2.below hB1.size fun k e => (hS1.own.lt k e).1)
  have hT2 : Tab w2 := hT.fr (Fr.of_below hB2) (by have := World.block_lt_of_cell? w _ (hT 0 (by omega)); unfold from_; simp at this; omega)
  clear hS1 hF2 hB1 w1
  go_wp2_with fail
  refine (key_bad _ 1 [-1] _ (by simp) (.inr ⟨_, _, rfl, ?c1⟩) (by decide)).mono ?_
  case c1 => intro i hi; rw [World.cell?_alloc_at _ _ _ _ rfl]; simp at hi; subst hi; rfl
  rintro e w3 ⟨rfl, hB3⟩
  have hB3' : Below w2.heap.size w2 w3 := ((Below.refl _ w2).alloc (Nat.le_refl _) _).trans (hB3.mono (by simp))
  have hS3 := hS2.fr (Fr.new hB3') (fun e => e) (fun _ _ e => e)
  have hT3 := hT2.fr (Fr.new hB3') (fun e => e)
  have hBw3 : Below w.heap.size w w3 := hB2.trans (hB3'.mono hB2.size)
  have hin : inSet [8] 3 = true := by decide
  have HH := set_has_yes w3 _ _ _ _ _ hS3 3 (by omega)
  rw [hin] at HH
  have HH1 := Lib.hid HH
  clear HH
  have HL := Lib.hid (setlen_8 w3 _ _ _ _ hS3)
  have HA := set_all w3 _ _ _ _ _ hS3 hT3 (World.block_lt_of_cell? w3 _ (hT3 0 (by omega)))
  rw [elems_8] at HA
  have HA1 := Lib.hid HA
  clear HA
  clear hS2 hT2 hB2 hB3 hB3' hS3 hT3 hin
  go_wp2_with (first | (go_at_call 18; refine HH1.out.mono ?_; rintro e w' ⟨rfl, rfl⟩) | (go_at_call 12; refine HL.out.mono ?_; rintro e w' ⟨rfl, rfl⟩) | (go_at_call 10; refine HA1.out.mono ?_; rintro e w4 ⟨r, rfl, hB4, hown4⟩))
  have hI1 : Ints (w4.alloc (.cells #[.int .i64 3] 3)) r [3] := (ints_of_own (xs := [3]) hown4 (by decide) (by simp)).fr (Fr.alloc _ _)
  have hI2 : Ints (w4.alloc (.cells #[.int .i64 3] 3)) (.slice (some ⟨w4.heap.size, 0, none⟩) 1 1) [3] := ints_alloc w4 [3] 3 (by decide) (by simp)
  refine (same_any _ _ _ _ _ hI1 hI2).mono ?_
  rintro e w5 ⟨rfl, n, rfl⟩
  have hs : sameI [3] [3] = true := by decide
  rw [hs]
  clear hs hI1 hI2 HH1 HL HA1 hown4
  have HN := Lib.hid fun w => new_no 4097 w (by omega)
  go_wp2_with fail
  have hK := ints_alloc ((w4.alloc (.cells #[.int .i64 3] 3)).drewN n) [1, 258] 3 (by decide) (by simp)
  have eK : ((w4.alloc (.cells #[.int .i64 3] 3)).drewN n).heap.size = w4.heap.size + 1 := World.size_alloc _ _
  rw [eK] at hK
  clear eK
  refine (keycheck _ _ hK).mono ?_
  rintro e w5 ⟨rfl, hB5⟩
  go_wp2_with (go_at_call 5; refine (HN.out _).mono ?_; rintro e w' ⟨rfl, rfl⟩)
  go_ret
  refine ⟨rfl, ?_⟩
  have h1 : Below w.heap.size w (((w4.alloc (.cells #[.int .i64 3] 3)).drewN n).alloc (.cells ([1, 258].map (Value.int .i64)).toArray 3)) :=
    ((hBw3.trans (hB4.mono hBw3.size)).alloc (Nat.le_trans hBw3.size hB4.size) _).trans (((Fr.drewN (ch := nothing) _ n).trans (Fr.alloc _ _)).below_new.mono (by have := hBw3.size; have := hB4.size; simp; omega))
  exact h1.trans (hB5.mono h1.size)
end Go.Proofs.YtlilegbdjnhfjaaGreatDoor
