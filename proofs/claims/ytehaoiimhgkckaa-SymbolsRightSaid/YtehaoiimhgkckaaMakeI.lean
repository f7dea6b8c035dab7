/-
  Package symbols: all, of no text: a fault is thrown.
-/
import Derived.Test.YtehaoiimhgkckaaMakeE
namespace Go.Proofs.Ytehaoiimhgkckaa
open Go.RowKit Go.MapKept Go.ChangeMaps
set_option maxHeartbeats 400000

set_option maxRecDepth 100000 in
set_option maxHeartbeats 2000000 in
theorem all_empty (w : World) (mb : Nat) (v1 : Value) (h1 : w.cell? ⟨mb, 1, none⟩ = some v1) (f1 : w.frozen? ⟨mb, 1, none⟩ = false) :
    Calls Try.prog 48 #[.pointer (some ⟨mb, 0, none⟩), .agg #[.slice none 0 0, .slice none 0 0]] w fun e w' => e = .panicked [{ v := faultV 300 0, recovered := false }] ∧ Fr (only mb) w w' := by
  have HT := fun b L w hb hl hL => Lib.hid (throw_some 300 0 b L w hb hl hL)
  have lm : mb < w.heap.size := World.block_lt_of_cell? w _ h1
  go_enter Try.func48, Try.ntmps48
  go_wp2
  refine wp_loop_rounds 1 ?_
  rw [rounds_succ]
  go_wp2
  refine wp_loop_rounds 1 ?_
  rw [rounds_succ]
  go_wp2
  refine wp_loop_rounds 1 ?_
  rw [rounds_succ]
  go_wp2_with (go_at_call 72; refine Calls.mono (HT _ [true] _ ?_ (by simp) (by simp)).out ?_; exact laid_at (by simp); rintro e w' ⟨rfl, rfl⟩)
  exact ⟨rfl, rfl, ((((Fr.setCell w ⟨mb, 1, none⟩ _).trans (Fr.alloc _ _)).trans (Fr.alloc _ _)).trans (Fr.alloc _ _)).trans (Fr.alloc _ _)⟩
end Go.Proofs.Ytehaoiimhgkckaa
