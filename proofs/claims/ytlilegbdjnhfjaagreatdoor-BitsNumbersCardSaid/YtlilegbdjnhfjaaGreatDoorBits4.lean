/-
  Package bits: New, Len; the document's Key; the chapter's examples (awake).
-/
import Derived.Test.YtlilegbdjnhfjaaGreatDoorBits2
import Derived.Test.YtlilegbdjnhfjaaGreatDoorBits3
import Derived.Test.YtlilegbdjnhfjaaGreatDoorKitInts
import Derived.Deep.RegionHeld3
import Derived.Deep.AppendLies
namespace Go.Proofs.YtlilegbdjnhfjaaGreatDoor
open Go.RowKit
set_option maxHeartbeats 400000

theorem new_no (n : Int) (w : World) (h : n < 0 ∨ 4096 < n) :
    Calls Tryz.prog 5 #[.int .i64 n] w fun e w' => e = .returned (.pointer none) ∧ w = w' := by
  rcases h with h | h
  · go_enter Tryz.func5, Tryz.ntmps5
    go_wp2
    go_ret
    exact ⟨rfl, rfl⟩
  · have h' : ¬ n < 0 := by omega
    go_enter Tryz.func5, Tryz.ntmps5
    go_wp2
    go_ret
    exact ⟨rfl, rfl⟩
theorem Tryz.infoWord : (Tryz.prog.info? 102).map (fun i => (i.zero, i.size, i.bytes)) = some (some (.int .u64 0), 1, 8) := by kernel_rfl
set_option maxRecDepth 100000 in
theorem new_yes (n : Nat) (w : World) (hn : n ≤ 4096) :
    Calls Tryz.prog 5 #[.int .i64 n] w fun e w' => ∃ p v, e = .returned (.pointer (some ⟨p, 0, none⟩)) ∧ IsSet w' w.heap.size p n v (List.replicate ((n + 63) / 64) 0) ∧ Below w.heap.size w w' := by
  obtain ⟨i0, hi, hz0, hz1, hz2⟩ := info_parts Tryz.infoWord
  have hmk : ∀ w : World, (Instr.makeSlice 44 (.int .i64 (((n : Int) + 63) / 64)) (.int .i64 (((n : Int) + 63) / 64))).run Tryz.prog w = .ok (.slice (some ⟨w.heap.size, 0, none⟩) ((n + 63) / 64) ((n + 63) / 64)) (w.alloc (.cells (madeCells #[.int .u64 0] ((n + 63) / 64)) 102)) := fun w => by
    have e : (((n : Int) + 63) / 64) = (((n + 63) / 64 : Nat) : Int) := by omega
    rw [e]
    have := run_make (P := Tryz.prog) w 44 102 i0 (.int .u64 0) Tryz.underlying44 hi hz0 .i64 .i64 (((n + 63) / 64 : Nat) : Int) (((n + 63) / 64 : Nat) : Int) (by omega) (by omega) (by rw [hz2]; omega) (by omega)
    rw [hz1, Int.toNat_natCast, Nat.mul_one] at this
    exact this
  go_enter Tryz.func5, Tryz.ntmps5
  go_wp2
  go_ret
  have hm : madeCells #[.int .u64 0] ((n + 63) / 64) = (words (List.replicate ((n + 63) / 64) 0)).toArray := by
    apply Array.ext'
    simp [madeCells, words]
    apply List.ext_getElem
    · simp
    · intro i h1 h2
      simp [Nat.mod_one]
  have hown : ((w.alloc (.cells (madeCells #[.int .u64 0] ((n + 63) / 64)) 102)).alloc (.cells #[.slice (some ⟨w.heap.size, 0, none⟩) ((n + 63) / 64) ((n + 63) / 64), .int .i64 n, .bool true] 46)).ownsRow w.heap.size 102 1
      (.slice (some ⟨w.heap.size, 0, none⟩) ((n + 63) / 64) ((n + 63) / 64)) (List.replicate ((n + 63) / 64) 0).length (words (List.replicate ((n + 63) / 64) 0)) := by
    refine ⟨by simp [words], .inr ⟨w.heap.size, (n + 63) / 64, madeCells #[.int .u64 0] ((n + 63) / 64), by rw [List.length_replicate], Nat.le_refl _, ?_, by simp, by unfold maxLen; omega, by rw [size_madeCells]; simp, by rw [hm]; simp [words]⟩⟩
    rw [heap_alloc_old _ _ (by simp)]
    exact heap_alloc_new w _
  have hp : ((w.alloc (.cells (madeCells #[.int .u64 0] ((n + 63) / 64)) 102)).alloc (.cells #[.slice (some ⟨w.heap.size, 0, none⟩) ((n + 63) / 64) ((n + 63) / 64), .int .i64 n, .bool true] 46)).heap[w.heap.size + 1]? =
      some (.cells #[.slice (some ⟨w.heap.size, 0, none⟩) ((n + 63) / 64) ((n + 63) / 64), .int .i64 n, .bool true] 46 (0, 0)) := by
    rw [← World.size_alloc w (.cells (madeCells #[.int .u64 0] ((n + 63) / 64)) 102)]
    exact heap_alloc_new _ _
  exact ⟨_, _, rfl, ⟨hp, hown, by simp, hn, fun u hu => by rw [List.eq_of_mem_replicate hu]; decide, by omega⟩, ((Below.refl _ w).alloc (Nat.le_refl _) _).alloc (by simp) _⟩

theorem ones_8 (w : World) : Calls Tryz.prog 40 #[.int .u64 8] w fun e w' => e = .returned (.int .i64 1) ∧ w = w' := by
  go_enter Tryz.func40, Tryz.ntmps40
  go_wp2
  go_ret
  exact ⟨by kernel_rfl, rfl⟩

set_option maxRecDepth 100000 in
set_option maxHeartbeats 1000000 in
theorem refkey_any (a : Option Addr) (cap : Nat) (xs : List Int) (w : World) (hlen : xs.length ≤ 17592186044416) (hx : xs = [] ∨ ∃ b o, a = some ⟨b, o, none⟩ ∧ Cells w b o (xs.map (Value.int .i64))) (hall : ∀ x ∈ xs, small x = true) :
    Calls Tryz.prog 34 #[.slice a xs.length cap] w fun e w' => e = .returned (.tuple #[.string (strOfNums (keyNums xs)), .int .i64 0]) ∧ Below w.heap.size w w' := by
  obtain ⟨i0, hi, hz0, hz1, hz2⟩ := info_parts Tryz.infoByte
  go_enter Tryz.func34, Tryz.ntmps34
  go_wp2
  go_loopw [4, 5] (fun v i wr => ∃ k : Nat, k ≤ xs.length ∧ i = .int .i64 k ∧ wr.ownsRow w.heap.size 5 1 v (2 * k) ((keyNums (xs.take k)).map (Value.int .u8)) ∧ Below w.heap.size w wr)
    (fun _ i _ => xs.length - (intOf i).toNat)
  case atStart => exact ⟨0, Nat.zero_le _, rfl, World.ownsRow_nil _ _ _ _, Below.refl _ _⟩
  case round =>
    obtain ⟨k, hk, rfl, hown, hB⟩ := hrel
    by_cases hlt : k < xs.length
    · obtain ⟨b, o, rfl, hc⟩ : ∃ b o, a = some ⟨b, o, none⟩ ∧ Cells w b o (xs.map (Value.int .i64)) := by
        rcases hx with rfl | h
        · simp at hlt
        · exact h
      have hcw := hc k (by simpa using hlt)
      rw [List.getElem_map] at hcw
      have hbw := World.block_lt_of_cell? w _ hcw
      have hcx : wr.cell? ⟨b, o + k, none⟩ = some (.int .i64 xs[k]) := (hB.cell (p := ⟨b, o + k, none⟩) hbw).trans hcw
      have hsm := (small_iff _).1 (hall _ (List.getElem_mem hlt))
      have hsn : keyNums (xs.take (k + 1)) = keyNums (xs.take k) ++ [xs[k] / 256, xs[k] % 256] := by rw [List.take_add_one, List.getElem?_eq_getElem hlt]; exact keyNums_snoc _ _
      generalize xs[k] = x at hcx hsm hsn hcw
      obtain ⟨hs0, hs1⟩ := hsm
      have ag : u4.ownBlock ≠ some b := fun e => by have := (hown.lt _ e).1; simp at hbw; omega
      have hbr : b < wr.heap.size := Nat.lt_of_lt_of_le hbw hB.size
      have HSN := Lib.hid hsn
      clear hsn hx hall hc hcw hbw
      go_wp2_with fail
      go_region_held3 (fun w' => w'.cell? ⟨b, o + k, none⟩ = some (.int .i64 x)) (first | go_keep | (rw [hgrow.cell_far _ (by simp; omega) (Ne.symm ag)]; assumption))
        ((refine step_append_lies _ (by rfl) _ _ _ (by rfl) w.heap.size 5 i0 _ 1 1 Tryz.underlying99 hi hz0 hz1 hz2 rfl (by omega) u4 (2 * k) _ (by rfl) ((hown.alloc _).drew)
            ⟨wr.heap.size, 0, none⟩ 2 2 [.int .u8 (IntKind.u8.wrap (x / 256)), .int .u8 (IntKind.u8.wrap x)] (by rfl) (by rfl) (World.news_of_block (cs := #[.int .u8 (IntKind.u8.wrap (x / 256)), .int .u8 (IntKind.u8.wrap x)]) (t := 5) (fr := (0, 0)) (heap_alloc_new wr _)) (by simp [Value.oneCell'])
            (by omega) (by unfold maxLen; omega) (by omega) (by have := hB.size; simp; omega) (wr.heap.size + 1) (by simp) ?_; intro gg cap1 w1 hown1 hgrow hat hlt'))
      go_wp2
      have e1 : IntKind.u8.wrap (x / 256) = x / 256 := by rw [IntKind.wrap_u8]; omega
      have e2 : IntKind.u8.wrap x = x % 256 := by rw [IntKind.wrap_u8]
      rw [e1, e2] at hown1
      go_roundw
      case rel =>
        refine ⟨k + 1, by omega, by simp, ?_, ((hB.alloc hB.size _).drew).grown hgrow (by have := hB.size; simp; omega) (fun g e => (hown.lt g e).1)⟩
        rw [HSN.out, List.map_append]
        exact hown1
      case measure => simp [intOf]; omega
    · obtain rfl : k = xs.length := by omega
      rw [List.take_of_length_le (Nat.le_refl _)] at hown
      clear hlt hx hall
      obtain ⟨a1, cap1, rfl, hc1, hc2, hc3⟩ := own_as_cells hown
      have hconv := conv_key wr a1 cap1 xs _ hc3
      go_wp2
      go_ret2
      exact ⟨rfl, hB⟩
set_option maxRecDepth 100000 in
set_option maxHeartbeats 1000000 in
theorem refkey_bad (a : Option Addr) (cap : Nat) (xs : List Int) (w : World) (hlen : xs.length ≤ 17592186044416) (hx : xs = [] ∨ ∃ b o, a = some ⟨b, o, none⟩ ∧ Cells w b o (xs.map (Value.int .i64))) (hbad : ¬ ∀ x ∈ xs, small x = true) :
    Calls Tryz.prog 34 #[.slice a xs.length cap] w fun e w' => e = .returned (.tuple #[.string ⟨#[]⟩, .int .i64 2]) ∧ Below w.heap.size w w' := by
  obtain ⟨i0, hi, hz0, hz1, hz2⟩ := info_parts Tryz.infoByte
  go_enter Tryz.func34, Tryz.ntmps34
  go_wp2
  go_loopw [4, 5] (fun v i wr => ∃ k : Nat, k ≤ xs.length ∧ i = .int .i64 k ∧ (∀ j (h : j < xs.length), j < k → small xs[j] = true) ∧ wr.ownsRow w.heap.size 5 1 v (2 * k) ((keyNums (xs.take k)).map (Value.int .u8)) ∧ Below w.heap.size w wr)
    (fun _ i _ => xs.length - (intOf i).toNat)
  case atStart => exact ⟨0, Nat.zero_le _, rfl, fun j _ h => by omega, World.ownsRow_nil _ _ _ _, Below.refl _ _⟩
  case round =>
    obtain ⟨k, hk, rfl, hsmall, hown, hB⟩ := hrel
    have hlt : k < xs.length := by
      rcases Nat.lt_or_ge k xs.length with h | h
      · exact h
      · exfalso
        refine hbad fun x hx' => ?_
        obtain ⟨j, hj, rfl⟩ := List.getElem_of_mem hx'
        exact hsmall j hj (by omega)
    obtain ⟨b, o, rfl, hc⟩ : ∃ b o, a = some ⟨b, o, none⟩ ∧ Cells w b o (xs.map (Value.int .i64)) := by
      rcases hx with rfl | h
      · simp at hlt
      · exact h
    have hcw := hc k (by simpa using hlt)
    rw [List.getElem_map] at hcw
    have hbw := World.block_lt_of_cell? w _ hcw
    have hcx : wr.cell? ⟨b, o + k, none⟩ = some (.int .i64 xs[k]) := (hB.cell (p := ⟨b, o + k, none⟩) hbw).trans hcw
    have hsn : keyNums (xs.take (k + 1)) = keyNums (xs.take k) ++ [xs[k] / 256, xs[k] % 256] := by rw [List.take_add_one, List.getElem?_eq_getElem hlt]; exact keyNums_snoc _ _
    by_cases hs : small xs[k] = true
    · have hsm := (small_iff _).1 hs
      have hnext : ∀ j (h : j < xs.length), j < k + 1 → small xs[j] = true := fun j h hj => by
        rcases Nat.lt_or_ge j k with h1 | h1
        · exact hsmall j h h1
        · obtain rfl : j = k := by omega
          exact hs
      have HN := Lib.hid hnext
      clear hnext hsmall hs
      generalize xs[k] = x at hcx hsm hsn hcw
      obtain ⟨hs0, hs1⟩ := hsm
      have ag : u4.ownBlock ≠ some b := fun e => by have := (hown.lt _ e).1; simp at hbw; omega
      have hbr : b < wr.heap.size := Nat.lt_of_lt_of_le hbw hB.size
      have HSN := Lib.hid hsn
      clear hsn hx hbad hc hcw hbw
      go_wp2_with fail
      go_region_held3 (fun w' => w'.cell? ⟨b, o + k, none⟩ = some (.int .i64 x)) (first | go_keep | (rw [hgrow.cell_far _ (by simp; omega) (Ne.symm ag)]; assumption))
        ((refine step_append_lies _ (by rfl) _ _ _ (by rfl) w.heap.size 5 i0 _ 1 1 Tryz.underlying99 hi hz0 hz1 hz2 rfl (by omega) u4 (2 * k) _ (by rfl) ((hown.alloc _).drew)
            ⟨wr.heap.size, 0, none⟩ 2 2 [.int .u8 (IntKind.u8.wrap (x / 256)), .int .u8 (IntKind.u8.wrap x)] (by rfl) (by rfl) (World.news_of_block (cs := #[.int .u8 (IntKind.u8.wrap (x / 256)), .int .u8 (IntKind.u8.wrap x)]) (t := 5) (fr := (0, 0)) (heap_alloc_new wr _)) (by simp [Value.oneCell'])
            (by omega) (by unfold maxLen; omega) (by omega) (by have := hB.size; simp; omega) (wr.heap.size + 1) (by simp) ?_; intro gg cap1 w1 hown1 hgrow hat hlt'))
      go_wp2
      have e1 : IntKind.u8.wrap (x / 256) = x / 256 := by rw [IntKind.wrap_u8]; omega
      have e2 : IntKind.u8.wrap x = x % 256 := by rw [IntKind.wrap_u8]
      rw [e1, e2] at hown1
      go_roundw
      case rel =>
        refine ⟨k + 1, by omega, by simp, HN.out, ?_, ((hB.alloc hB.size _).drew).grown hgrow (by have := hB.size; simp; omega) (fun g e => (hown.lt g e).1)⟩
        rw [HSN.out, List.map_append]
        exact hown1
      case measure => simp [intOf]; omega
    · have hs' : xs[k] < 0 ∨ 65536 ≤ xs[k] := by
        have h1 : ¬ (0 ≤ xs[k] ∧ xs[k] < 65536) := fun h => hs ((small_iff _).2 h)
        omega
      clear hsn hsmall hs hbad hx hc hcw hbw hown
      generalize xs[k] = x at hcx hs'
      rcases hs' with hs' | hs'
      · go_wp2
        go_ret2
        exact ⟨rfl, hB⟩
      · have hs2 : ¬ x < 0 := by omega
        go_wp2
        go_ret2
        exact ⟨rfl, hB⟩

theorem rowlen_8 (g cap : Nat) (w : World) (hc : w.cell? ⟨g, 0, none⟩ = some (.int .u64 8)) :
    Calls Tryz.prog 28 #[.slice (some ⟨g, 0, none⟩) 1 cap] w fun e w' => e = .returned (.int .i64 1) ∧ w = w' := by
  go_enter Tryz.func28, Tryz.ntmps28
  go_wp2
  refine wp_loop_rounds 2 ?_
  rw [rounds_succ]
  go_wp2_with (go_at_call 40; refine (ones_8 _).mono ?_; rintro e w' ⟨rfl, rfl⟩)
  rw [rounds_succ]
  go_wp2
  go_ret
  exact ⟨rfl, rfl⟩
theorem setlen_8 (w : World) (B p n : Nat) (v : Value) (h : IsSet w B p n v [8]) :
    Calls Tryz.prog 12 #[.pointer (some ⟨p, 0, none⟩)] w fun e w' => e = .returned (.int .i64 1) ∧ w = w' := by
  have hc0 : w.cell? ⟨p, 0, none⟩ = some v := by simp [World.cell?, h.hp]
  have hc2 : w.cell? ⟨p, 2, none⟩ = some (.bool true) := by simp [World.cell?, h.hp]
  have hl := h.len
  obtain ⟨g, cap, rfl, hgp, hgB, hcs, hfz⟩ := h.block (by simp at hl; omega)
  have hc8 : w.cell? ⟨g, 0, none⟩ = some (.int .u64 8) := hcs 0 (by simp [words])
  have HR := Lib.hid (rowlen_8 g cap w hc8)
  clear hcs hfz h hl hc8
  go_enter Tryz.func12, Tryz.ntmps12
  go_wp2_with (first | (go_at_call 26; refine (known_yes _ _ _ hc2).mono ?_; rintro e w' ⟨rfl, rfl⟩) | (go_at_call 28; refine HR.out.mono ?_; rintro e w' ⟨rfl, rfl⟩))
  go_ret
  exact ⟨rfl, rfl⟩
end Go.Proofs.YtlilegbdjnhfjaaGreatDoor
