/-
  Chapter 06's statements: ScopeNil.
-/
import Derived.Test.YticdoccaabfjaaaSc19
namespace Go.Proofs.Yticdoccaabfjaaa
open Go.RowKit
set_option maxHeartbeats 400000

theorem no_same (w : World) : Calls Try.prog 11 #[.agg #[.int .u8 0, .string ⟨#[]⟩, .slice none 0 0], .agg #[.int .u8 0, .string ⟨#[]⟩, .slice none 0 0]] w fun e w' => e = .returned (.bool true) ∧ Below w.heap.size w w' :=
  sameType_any (isTy_leaf w (fun _ => False) 0 (by omega)) w (fun _ => False) _ (isTy_leaf w (fun _ => False) 0 (by omega)) w (Fr.refl _ _) (Fr.refl _ _)
set_option maxRecDepth 100000 in
set_option maxHeartbeats 4000000 in
theorem scopeNil_any (name : ByteArray) (w : World) : Calls Try.prog 3 #[.string name] w fun e w' => e = .returned (.bool true) ∧ Below w.heap.size w w' := by
  have HA := Lib.hid (awake_any w)
  go_enter Try.func3, Try.ntmps3
  go_wp2_with (go_at_call 5; refine HA.out.mono ?_; rintro e w1 ⟨rfl, hb1⟩)
  have o1 := alloc_obj w1 (.cells #[.slice none 0 0, .bool false] 28 (0, 0))
  obtain ⟨q1, q2, q3⟩ := two_boxes w1 (.cells #[.slice none 0 0, .bool false] 28 (0, 0)) (.cells #[.pointer none, .pointer (some ⟨w1.heap.size, 0, none⟩)] 23 (0, 0))
  go_loopw [4] (fun i wr => ∃ k : Nat, k ≤ 2 ∧ i = .int .i64 k ∧ wr.heap[w1.heap.size]? = some (.cells #[.slice none 0 0, .bool false] 28 (0, 0)) ∧ wr.heap[w1.heap.size + 1]? = some (.cells #[.pointer none, .pointer (some ⟨w1.heap.size, 0, none⟩)] 23 (0, 0)) ∧ Below w.heap.size w wr) (fun i _ => 2 - (intOf i).toNat)
  case atStart => exact ⟨0, by omega, rfl, q1, q2, hb1.trans (q3.mono hb1.size)⟩
  case round =>
    obtain ⟨k, hk, rfl, h1, h2, hB⟩ := hrel
    clear o1 q1 q2 q3 hb1
    by_cases hlt : k < 2
    · obtain ⟨q, hq, hz⟩ : ∃ q, wr.cell? ⟨w1.heap.size + 1, k, none⟩ = some (.pointer q) ∧ NoScope wr q := by
        rcases (show k = 0 ∨ k = 1 by omega) with rfl | rfl
        · exact ⟨none, obj_cell h2 0 rfl, trivial⟩
        · exact ⟨_, obj_cell h2 1 rfl, _, rfl, obj_lt h1, obj_cell h1 1 rfl⟩
      have HH := Lib.hid (And.intro h1 (And.intro h2 hB))
      have HO := Lib.hid (no_Open hz)
      have HZ := Lib.hid hz
      clear h1 h2 hB hz
      go_upto_region 8 with (go_at_call 6; refine HO.out.mono ?_; rintro e w2 ⟨rfl, hf2⟩)
      have hq2 := hf2.cell hq fun e => e
      have HC := Lib.hid (no_Close (HZ.out.new hf2))
      go_upto_region 9 with (go_at_call 7; refine HC.out.mono ?_; rintro e w3 ⟨rfl, hf3⟩)
      have hq3 := hf3.cell hq2 fun e => e
      have HL := Lib.hid (no_Look (HZ.out.new (hf2.trans hf3)) (.string name))
      go_upto_region 10 with (go_at_call 8; refine HL.out.mono ?_; rintro e w4 ⟨rfl, hf4⟩; unfold noType)
      obtain ⟨bt, hbt⟩ : ∃ bt, bt = w4.heap.size := ⟨_, rfl⟩
      obtain ⟨w5, hw5⟩ : ∃ w5, w5 = w4.alloc (.cells #[.int .u8 0, .string ⟨#[]⟩, .slice none 0 0] 37 (0, 0)) := ⟨_, rfl⟩
      have hf5 : Fr nothing w4 w5 := by rw [hw5]; exact Fr.alloc _ _
      have hT5 : w5.heap[bt]? = some (.cells #[.int .u8 0, .string ⟨#[]⟩, .slice none 0 0] 37 (0, 0)) := by rw [hw5, hbt]; exact alloc_obj w4 _
      have hF5 : Fr nothing wr w5 := ((hf2.trans hf3).trans hf4).trans hf5
      have hq5 := hF5.cell hq fun e => e
      rw [← hbt, ← hw5]
      clear hbt hw5 hf5 hf4 hf3 hf2 hq3 hq2 HO HC HL
      have HU := Lib.hid (no_Use (HZ.out.new hF5) (.string name))
      go_upto_region 11 with (go_at_call 9; refine HU.out.mono ?_; rintro e w6 ⟨rfl, hf6⟩; unfold noType)
      obtain ⟨bu, hbu⟩ : ∃ bu, bu = w6.heap.size := ⟨_, rfl⟩
      obtain ⟨w7, hw7⟩ : ∃ w7, w7 = w6.alloc (.cells #[.int .u8 0, .string ⟨#[]⟩, .slice none 0 0] 37 (0, 0)) := ⟨_, rfl⟩
      have hf7 : Fr nothing w6 w7 := by rw [hw7]; exact Fr.alloc _ _
      have hU7 : w7.heap[bu]? = some (.cells #[.int .u8 0, .string ⟨#[]⟩, .slice none 0 0] 37 (0, 0)) := by rw [hw7, hbu]; exact alloc_obj w6 _
      have hT7 := (hf6.trans hf7).obj hT5 fun e => e
      have hF7 : Fr nothing wr w7 := hF5.trans (hf6.trans hf7)
      have hq7 := after_cell (hF7.cell hq fun e => e)
      rw [← hbu, ← hw7]
      clear hbu hw7 hf7 hf6 hT5 hF5 hq5 HU hq
      have t0 := after_obj hT7 0 rfl
      have t1 := after_obj hT7 1 rfl
      have t2 := after_obj hT7 2 rfl
      have u0 := after_obj hU7 0 rfl
      have u1 := after_obj hU7 1 rfl
      have u2 := after_obj hU7 2 rfl
      have hne := after_ne w7
      have HD := Lib.hid fun p : After w7 => after_call p ((no_Deep ((HZ.out.new hF7).new (Fr.new p.ok))).mono fun _ _ h => ⟨h.1, h.2.below_new⟩)
      have HM := Lib.hid fun p : After w7 => after_call p (no_same p.w)
      have HK := Lib.hid fun p : After w7 => after_call p (kind_any 1 p.w)
      have HDC := Lib.hid fun p : After w7 => after_call p ((no_Declare ((HZ.out.new hF7).new (Fr.new p.ok)) (.string name) (.int .u8 1) (.string ⟨#[]⟩) (.slice none 0 0)).mono fun _ _ h => ⟨h.1, h.2.below_new⟩)
      have HF7 := Lib.hid hF7
      have hki : (k : Int) < 2 := by omega
      clear hT7 hU7 hF7
      refine wp_region_after w7 (by kernel_rfl) (by kernel_rfl) (Below.refl _ _) ?_
      repeat (go_big_quiet_step (first | with_reducible exact HD.out _ | with_reducible exact HM.out _ | with_reducible exact HK.out _ | with_reducible exact HDC.out _))
      refine wpQuiet_nil ?_
      intro _ hw'
      obtain ⟨p, hw''⟩ := hw'
      subst hw''
      go_wp2
      have HFp := Lib.hid (HF7.out.trans (Fr.new p.ok))
      go_roundw
      case rel => exact ⟨k + 1, by omega, by simp, HFp.out.obj HH.out.1 (fun e => e), HFp.out.obj HH.out.2.1 (fun e => e), HH.out.2.2.trans (HFp.out.below_new.mono HH.out.2.2.size)⟩
      case measure => simp [intOf]; omega
    · obtain rfl : k = 2 := by omega
      clear hlt
      go_wp2
      go_ret
      exact ⟨rfl, hB⟩
end Go.Proofs.Yticdoccaabfjaaa
