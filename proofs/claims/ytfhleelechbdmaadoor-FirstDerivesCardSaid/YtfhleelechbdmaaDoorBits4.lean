/-
  Package bits: New, Len; the document's Key; the chapter's examples (awake).
-/
import Derived.Test.YtfhleelechbdmaaDoorBits2
import Derived.Test.YtfhleelechbdmaaDoorBits3
import Derived.Test.YtfhleelechbdmaaDoorKitInts
import Derived.Deep.RegionHeld3
import Derived.Deep.AppendLies
namespace Go.Proofs.YtfhleelechbdmaaDoor
open Go.RowKit
set_option maxHeartbeats 400000

theorem new_no (n : Int) (w : World) (h : n < 0 ∨ 4096 < n) :
    Calls Tryd.prog 22 #[.int .i64 n] w fun e w' => e = .returned (.pointer none) ∧ w = w' := by
  rcases h with h | h
  · go_enter Tryd.func22, Tryd.ntmps22
    go_wp2
    go_ret
    exact ⟨rfl, rfl⟩
  · have h' : ¬ n < 0 := by omega
    go_enter Tryd.func22, Tryd.ntmps22
    go_wp2
    go_ret
    exact ⟨rfl, rfl⟩
theorem Tryd.infoWord : (Tryd.prog.info? 76).map (fun i => (i.zero, i.size, i.bytes)) = some (some (.int .u64 0), 1, 8) := by kernel_rfl
set_option maxRecDepth 100000 in
theorem new_yes (n : Nat) (w : World) (hn : n ≤ 4096) :
    Calls Tryd.prog 22 #[.int .i64 n] w fun e w' => ∃ p v, e = .returned (.pointer (some ⟨p, 0, none⟩)) ∧ IsSet w' w.heap.size p n v (List.replicate ((n + 63) / 64) 0) ∧ Below w.heap.size w w' := by
  obtain ⟨i0, hi, hz0, hz1, hz2⟩ := info_parts Tryd.infoWord
  have hmk : ∀ w : World, (Instr.makeSlice 69 (.int .i64 (((n : Int) + 63) / 64)) (.int .i64 (((n : Int) + 63) / 64))).run Tryd.prog w = .ok (.slice (some ⟨w.heap.size, 0, none⟩) ((n + 63) / 64) ((n + 63) / 64)) (w.alloc (.cells (madeCells #[.int .u64 0] ((n + 63) / 64)) 76)) := fun w => by
    have e : (((n : Int) + 63) / 64) = (((n + 63) / 64 : Nat) : Int) := by omega
    rw [e]
    have := run_make (P := Tryd.prog) w 69 76 i0 (.int .u64 0) Tryd.underlying69 hi hz0 .i64 .i64 (((n + 63) / 64 : Nat) : Int) (((n + 63) / 64 : Nat) : Int) (by omega) (by omega) (by rw [hz2]; omega) (by omega)
    rw [hz1, Int.toNat_natCast, Nat.mul_one] at this
    exact this
  go_enter Tryd.func22, Tryd.ntmps22
  go_wp2
  go_ret
  have hm : madeCells #[.int .u64 0] ((n + 63) / 64) = (words (List.replicate ((n + 63) / 64) 0)).toArray := by
    apply Array.ext'
    simp [madeCells, words]
    apply List.ext_getElem
    · simp
    · intro i h1 h2
      simp [Nat.mod_one]
  have hown : ((w.alloc (.cells (madeCells #[.int .u64 0] ((n + 63) / 64)) 76)).alloc (.cells #[.slice (some ⟨w.heap.size, 0, none⟩) ((n + 63) / 64) ((n + 63) / 64), .int .i64 n, .bool true] 71)).ownsRow w.heap.size 76 1
      (.slice (some ⟨w.heap.size, 0, none⟩) ((n + 63) / 64) ((n + 63) / 64)) (List.replicate ((n + 63) / 64) 0).length (words (List.replicate ((n + 63) / 64) 0)) := by
    refine ⟨by simp [words], .inr ⟨w.heap.size, (n + 63) / 64, madeCells #[.int .u64 0] ((n + 63) / 64), by rw [List.length_replicate], Nat.le_refl _, ?_, by simp, by unfold maxLen; omega, by rw [size_madeCells]; simp, by rw [hm]; simp [words]⟩⟩
    rw [heap_alloc_old _ _ (by simp)]
    exact heap_alloc_new w _
  have hp : ((w.alloc (.cells (madeCells #[.int .u64 0] ((n + 63) / 64)) 76)).alloc (.cells #[.slice (some ⟨w.heap.size, 0, none⟩) ((n + 63) / 64) ((n + 63) / 64), .int .i64 n, .bool true] 71)).heap[w.heap.size + 1]? =
      some (.cells #[.slice (some ⟨w.heap.size, 0, none⟩) ((n + 63) / 64) ((n + 63) / 64), .int .i64 n, .bool true] 71 (0, 0)) := by
    rw [← World.size_alloc w (.cells (madeCells #[.int .u64 0] ((n + 63) / 64)) 76)]
    exact heap_alloc_new _ _
  exact ⟨_, _, rfl, ⟨hp, hown, by simp, hn, fun u hu => by rw [List.eq_of_mem_replicate hu]; decide, by omega⟩, ((Below.refl _ w).alloc (Nat.le_refl _) _).alloc (by simp) _⟩

end Go.Proofs.YtfhleelechbdmaaDoor
