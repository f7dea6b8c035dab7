/-
  BitsKeys: the key of any row is what the document tells; it stays as it was: the walk.
-/
import Derived.Test.YtlilegbdjnhfjaaGreatDoorBitsApart
namespace Go.Proofs.YtlilegbdjnhfjaaGreatDoor
open Go.RowKit
set_option maxHeartbeats 400000

theorem refkey_all (v : Value) (xs : List Int) (w : World) (h : Ints w v xs) :
    Calls Tryz.prog 34 #[v] w fun e w' => e = .returned (.tuple #[.string (keyS xs), .int .i64 (keyE xs)]) ∧ Below w.heap.size w w' := by
  obtain ⟨a, cap, rfl, h1, h2⟩ := h.parts
  by_cases hs : xs.all small = true
  · have e1 : keyS xs = strOfNums (keyNums xs) := by unfold keyS; rw [if_pos hs]
    have e2 : keyE xs = 0 := by unfold keyE; rw [if_pos hs]
    rw [e1, e2]
    exact refkey_any a cap xs w h1 h2 (List.all_eq_true.1 hs)
  · have e1 : keyS xs = ⟨#[]⟩ := by unfold keyS; rw [if_neg hs]
    have e2 : keyE xs = 2 := by unfold keyE; rw [if_neg hs]
    rw [e1, e2]
    exact refkey_bad a cap xs w h1 h2 (fun h => hs (List.all_eq_true.2 h))

/-- What LentInts answers reads as its list. -/
theorem Lent.ints {w : World} {B : Nat} {v : Value} {xs : List Int} (h : Lent w B v xs) (h0 : ∀ x ∈ xs, -9223372036854775808 ≤ x ∧ x ≤ 9223372036854775807) (hl : xs.length ≤ 17592186044416) : Ints w v xs := by
  obtain ⟨g, cap, rfl, _, hc, hm, hcs⟩ := h
  refine ⟨h0, hl, _, cap, rfl, by omega, hm, .inr ⟨g, 0, rfl, fun i hi => ?_⟩⟩
  simp only [List.length_map] at hi
  rw [hcs i (by simp; omega), List.getElem_map, List.getElem_append_left hi, List.getElem_map]
theorem Lent.fr {w w' : World} {B : Nat} {v : Value} {xs : List Int} (h : Lent w B v xs) (k : Fr nothing w w') : Lent w' B v xs := by
  obtain ⟨g, cap, rfl, hb, hc, hm, hcs⟩ := h
  exact ⟨g, cap, rfl, hb, hc, hm, hcs.fr k (fun e => e)⟩

set_option maxRecDepth 100000 in
theorem bitsKeys_any (v : Value) (xs : List Int) (w : World) (hx : Ints w v xs) (hT : Tab w) :
    Calls Tryz.prog 16 #[v] w fun e w' => e = .returned (.bool true) ∧ Below w.heap.size w w' := by
  have h00 := hx.1
  obtain ⟨a, ca, rfl, hl1, hxa⟩ := hx.parts
  by_cases g1 : 3000 < xs.length
  · have HA := Lib.hid (awake_any w hT)
    clear hx hl1 hxa
    go_enter Tryz.func16, Tryz.ntmps16
    go_wp2_with (go_at_call 7; refine HA.out.mono ?_; rintro e w1 ⟨rfl, hB1⟩)
    go_ret
    exact ⟨rfl, hB1⟩
  · have HL := Lib.hid (lent_any a ca xs w hl1 hxa)
    have H0 := Lib.hid h00
    clear h00 hxa
    go_enter Tryz.func16, Tryz.ntmps16
    go_wp2_with (go_at_call 33; refine HL.out.mono ?_; rintro e w1 ⟨u, rfl, hLent1, hB1⟩)
    refine (key_any u xs _ (hLent1.ints H0.out hl1)).mono ?_
    rintro e w2 ⟨rfl, hB2⟩
    have hx2 := (hx.fr (Fr.new hB1)).fr (Fr.new hB2)
    go_wp2_with fail
    refine (refkey_all _ xs _ hx2).mono ?_
    rintro e w3 ⟨rfl, hB3⟩
    have hB23 : Below w1.heap.size w1 w3 := hB2.trans (hB3.mono hB2.size)
    have hB : Below w.heap.size w w3 := hB1.trans (hB23.mono hB1.size)
    have hK := kept_any _ u _ xs w3 (hLent1.fr (Fr.new hB23)) (hx2.fr (Fr.new hB3))
    have HK := Lib.hid hK
    have HA := Lib.hid fun n => awake_any (w3.drewN n) (hT.fr (ch := nothing) ((Fr.new hB).trans (Fr.drewN _ _)) (fun e => e))
    clear hK hx hx2 hB1 hB2 hB3 hB23 hLent1 hl1
    generalize keyE xs = p at *
    generalize keyS xs = s at *
    go_wp2_with (first | (go_at_call 35; refine HK.out.mono ?_; rintro e w4 ⟨rfl, n, rfl⟩) | (go_at_call 7; refine (HA.out _).mono ?_; rintro e w5 ⟨rfl, hB5⟩))
    go_ret
    exact ⟨rfl, hB.trans (((Fr.drewN (ch := nothing) w3 n).trans (Fr.new hB5)).below_new.mono hB.size)⟩
end Go.Proofs.YtlilegbdjnhfjaaGreatDoor
