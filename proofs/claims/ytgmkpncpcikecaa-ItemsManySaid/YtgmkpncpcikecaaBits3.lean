/-
  Package bits: Key: the bytes of a row of numbers; what a number that may not be ends in.
-/
import Derived.Test.YtgmkpncpcikecaaBase
import Derived.Defers
import Derived.Deep.DeepMust
import Derived.Recover
import Derived.WalkSmall
import Derived.RangeFuncBox
namespace Go.Proofs.Ytgmkpncpcikecaa
open Go.RowKit
set_option maxHeartbeats 400000

theorem pair_in (x : Int) (w : World) (h0 : 0 ≤ x) (h1 : x < 65536) :
    Calls Try.prog 61 #[.int .i64 x] w fun e w' => e = .returned (.agg #[.int .u8 (x / 256), .int .u8 (x % 256)]) ∧ Below w.heap.size w w' := by
  go_enter Try.func61, Try.ntmps61
  go_wp2
  go_returns
  exact ⟨rfl, (Below.refl _ _).alloc (Nat.le_refl _) _⟩
theorem pair_out (x : Int) (w : World) (h : x < 0 ∨ 65536 ≤ x) :
    Calls Try.prog 61 #[.int .i64 x] w fun e w' => e = .panicked [{ v := .iface 28 (.int .i64 2), recovered := false }] ∧ Below w.heap.size w w' := by
  rcases h with h | h
  · go_enter Try.func61, Try.ntmps61
    go_wp2
    exact ⟨rfl, rfl, (Below.refl _ _).alloc (Nat.le_refl _) _⟩
  · have h' : ¬ x < 0 := by omega
    go_enter Try.func61, Try.ntmps61
    go_wp2
    exact ⟨rfl, rfl, (Below.refl _ _).alloc (Nat.le_refl _) _⟩

/-- The closure that recovers, behind a panic with a number of the errors' type. -/
theorem assert_errno (n : Int) (w : World) : (Instr.typeAssert (.iface 28 (.int .i64 n)) 20 28 true).run Try.prog w = .ok (.tuple #[.int .i64 n, .bool true]) w := by kernel_rfl
theorem key1_caught (pe pk : Nat) (x : Int) (s : ByteArray) (n : Int) (older : List PanicEntry) (w : World) (hc : w.cell? ⟨pe, 0, none⟩ = some (.int .i64 x)) (hz : w.frozen? ⟨pe, 0, none⟩ = false)
    (hc' : w.cell? ⟨pk, 0, none⟩ = some (.string s)) (hz' : w.frozen? ⟨pk, 0, none⟩ = false) (hne : pe ≠ pk) :
    CallsD Try.prog 60 #[.pointer (some ⟨pe, 0, none⟩), .pointer (some ⟨pk, 0, none⟩)] (.panicking ({ v := .iface 28 (.int .i64 n), recovered := false } :: older)) w fun e u' w' =>
      e = .returned (.tuple #[]) ∧ u' = .panicking ({ v := .iface 28 (.int .i64 n), recovered := true } :: older) ∧ w' = (w.setCell ⟨pe, 0, none⟩ (.int .i64 n)).setCell ⟨pk, 0, none⟩ (.string ⟨#[]⟩) := by
  refine callsD_of_wpS Try.func60 rfl fun c₀ cs hu => ?_
  apply wpS_seq
  apply wpS_region
  simp [wpOpsS, go_sem, recoverD, hu, Try.ntmps60, Exit.thenS]
  simp only [Array.replicate_succ, Array.replicate_zero, List.push_toArray, List.append_toArray, List.nil_append, List.cons_append, List.setIfInBounds_toArray, List.set_cons_succ, List.set_cons_zero]
  refine wpS_of_wp ?_
  have hta := assert_errno n
  go_wp2
  exact ⟨rfl, _, rfl, _, by simp [results, Try.results60], rfl, rfl, rfl⟩
theorem key1_idle (pe pk : Nat) (w : World) :
    CallsD Try.prog 60 #[.pointer (some ⟨pe, 0, none⟩), .pointer (some ⟨pk, 0, none⟩)] .returning w fun e u' w' => e = .returned (.tuple #[]) ∧ u' = .returning ∧ w' = w := by
  refine callsD_of_wpS Try.func60 rfl fun c₀ cs hu => ?_
  apply wpS_seq
  apply wpS_region
  simp [wpOpsS, go_sem, recoverD, hu, Try.ntmps60, Exit.thenS]
  simp only [Array.replicate_succ, Array.replicate_zero, List.push_toArray, List.append_toArray, List.nil_append, List.cons_append, List.setIfInBounds_toArray, List.set_cons_succ, List.set_cons_zero]
  refine wpS_of_wp ?_
  go_wp2
  cases c₀
  simp_all [bodyPostS, results, Try.results60]

def keyNums (xs : List Int) : List Int := xs.flatMap fun x => [x / 256, x % 256]
theorem keyNums_snoc (xs : List Int) (x : Int) : keyNums (xs ++ [x]) = keyNums xs ++ [x / 256, x % 256] := by simp [keyNums]
theorem keyNums_length (xs : List Int) : (keyNums xs).length = 2 * xs.length := by
  induction xs with
  | nil => rfl
  | cons x xs ih => rw [keyNums, List.flatMap_cons, List.length_append]; show 2 + (keyNums xs).length = _; rw [ih, List.length_cons]; omega
def small (x : Int) : Bool := decide (0 ≤ x) && decide (x < 65536)
theorem small_iff (x : Int) : small x = true ↔ 0 ≤ x ∧ x < 65536 := by simp [small]

set_option maxRecDepth 100000 in
theorem conv_key (wr : World) (a1 : Option Addr) (cap1 : Nat) (xs : List Int) (B : Nat) (hc3 : (keyNums xs).map (Value.int .u8) = [] ∨ ∃ g, a1 = some ⟨g, 0, none⟩ ∧ B ≤ g ∧ Cells wr g 0 ((keyNums xs).map (Value.int .u8))) :
    (convert 54 9 (.slice a1 (2 * xs.length) cap1)).run Try.prog wr = .ok (.string (strOfNums (keyNums xs))) wr := by
  rcases hc3 with h0 | ⟨g, rfl, _, hcs⟩
  · have h1 : keyNums xs = [] := by simpa using h0
    have h2 : xs.length = 0 := by have := keyNums_length xs; rw [h1] at this; simp at this; omega
    cases a1 with
    | none => rw [run_convert_bytes_nil wr _ _ rfl rfl _ _ _ rfl, h1]; rfl
    | some g => rw [run_convert_bytes_string wr _ _ _ _ _ _ rfl rfl rfl, h2, run_bytesToString wr g 0 cap1 [] (by kernel_rfl), h1]; rfl
  · refine run_convert_bytes_arg wr _ _ rfl rfl g 0 _ _ (keyNums xs) (keyNums_length xs) (fun i hi => ?_) _ rfl
    have hi' : i < ((keyNums xs).map (Value.int .u8)).length := by rw [List.length_map, keyNums_length]; exact hi
    rw [hcs i hi', List.getElem_map, List.getD_eq_getElem?_getD, List.getElem?_eq_getElem (by simpa using hi')]
    rfl

theorem Try.infoByte : (Try.prog.info? 5).map (fun i => (i.zero, i.size, i.bytes)) = some (some (.int .u8 0), 1, 1) := by kernel_rfl

set_option maxRecDepth 100000 in
set_option maxHeartbeats 1000000 in
theorem key_ok (a : Option Addr) (cap : Nat) (xs : List Int) (w : World) (hlen : xs.length ≤ 17592186044416) (hx : xs = [] ∨ ∃ b o, a = some ⟨b, o, none⟩ ∧ Cells w b o (xs.map (Value.int .i64))) (hall : ∀ x ∈ xs, small x = true) :
    Calls Try.prog 49 #[.slice a xs.length cap] w fun e w' => e = .returned (.tuple #[.string (strOfNums (keyNums xs)), .int .i64 0]) ∧ Below w.heap.size w w' := by
  have hmf : ∀ (fn : Fn) (first cap : Array Value) (w : World), (Instr.makeFunc fn first cap).run Try.prog w = .ok (.func fn first cap) w := fun _ _ _ _ => rfl
  obtain ⟨i0, hi, hz0, hz1, hz2⟩ := info_parts Try.infoByte
  go_enter_defers Try.func49, Try.ntmps49
  go_wp2
  go_loopw [4, 11] (fun v i wr => ∃ k : Nat, k ≤ xs.length ∧ i = .int .i64 k ∧ wr.ownsRow (w.heap.size + 2) 5 1 v (2 * k) ((keyNums (xs.take k)).map (Value.int .u8)) ∧
      Boxed wr w.heap.size 9 (.string ⟨#[]⟩) ∧ Boxed wr (w.heap.size + 1) 28 (.int .i64 0) ∧ Below w.heap.size w wr)
    (fun _ i _ => xs.length - (intOf i).toNat)
  case atStart => exact ⟨0, Nat.zero_le _, rfl, World.ownsRow_nil _ _ _ _, (Boxed.new _ _ _).alloc _, by have := Boxed.new (w.alloc (.cells #[.string ⟨#[]⟩] 9)) 28 (.int .i64 0); rwa [World.size_alloc] at this, ((Below.refl _ _).alloc (Nat.le_refl _) _).alloc (by simp) _⟩
  case round =>
    obtain ⟨k, hk, rfl, hown, hbk, hbe, hB⟩ := hrel
    by_cases hlt : k < xs.length
    · obtain ⟨b, o, rfl, hc⟩ : ∃ b o, a = some ⟨b, o, none⟩ ∧ Cells w b o (xs.map (Value.int .i64)) := by
        rcases hx with rfl | h
        · simp at hlt
        · exact h
      have hcx : wr.cell? ⟨b, o + k, none⟩ = some (.int .i64 xs[k]) := by
        have := hc k (by simpa using hlt)
        rw [List.getElem_map] at this
        exact (hB.cell (p := ⟨b, o + k, none⟩) (World.block_lt_of_cell? w _ this)).trans this
      have hsm := (small_iff _).1 (hall _ (List.getElem_mem hlt))
      have hsn : keyNums (xs.take (k + 1)) = keyNums (xs.take k) ++ [xs[k] / 256, xs[k] % 256] := by rw [List.take_add_one, List.getElem?_eq_getElem hlt]; exact keyNums_snoc _ _
      generalize xs[k] = x at hcx hsm hsn
      have HP := Lib.hid (pair_in x wr hsm.1 hsm.2)
      have HSN := Lib.hid hsn
      clear hsn hx hall hc
      go_wp2_with (first | (go_at_call 61; refine HP.out.mono ?_; rintro e w1 ⟨rfl, hb1⟩; have hown1 := own_below hown hb1) | (at_builtin; refine wpList_append_own _ rfl _ _ 54 rfl (w.heap.size + 2) 5 i0 (.int .u8 0) 1 1 Try.underlying54 hi hz0 hz1 hz2 rfl (by decide) _ _ _ rfl (hown1.alloc _) ⟨w1.heap.size, 0, none⟩ 2 2 [.int .u8 (x / 256), .int .u8 (x % 256)] rfl rfl (cell_two_new _ _ _ _) (by simp [Value.oneCell']) (by unfold maxLen; omega) (by omega) (by have := hB.size; have := hb1.size; have := hbe.lt; simp; omega) ?_; intro v' w2 hown2 hgrow _))
      have hf1 : Fr (fun g => u4.ownBlock = some g) wr w2 := ((Fr.new hb1).wide).trans ((Fr.alloc _ _).trans (Fr.grown hgrow))
      have hlt' := hown.lt
      go_roundw
      case rel => exact ⟨k + 1, by omega, by simp, by rw [HSN.out]; simpa [Nat.mul_add] using hown2, boxed_fr hbk hf1 (fun e => by have := (hlt' _ e).1; omega), boxed_fr hbe hf1 (fun e => by have := (hlt' _ e).1; omega), hB.trans (hf1.below hB.size (fun g e => by have := (hlt' _ e).1; omega))⟩
      case measure => simp [intOf]; omega
    · obtain rfl : k = xs.length := by omega
      rw [List.take_of_length_le (Nat.le_refl _)] at hown
      clear hlt hx hall
      obtain ⟨a1, cap1, rfl, hc1, hc2, hc3⟩ := own_as_cells hown
      have hconv := conv_key wr a1 cap1 xs _ hc3
      have hk1 := hbk.cell
      have hk2 := hbk.frozen
      have he1 := hbe.cell
      have he2 := hbe.frozen
      go_wp2
      refine leaves_cons (f := 60) (args := #[.pointer (some ⟨w.heap.size + 1, 0, none⟩), .pointer (some ⟨w.heap.size, 0, none⟩)]) (by simp) (by simp [go_sem]) ?_
      refine (key1_idle _ _ _).mono ?_
      rintro e u' w'' ⟨rfl, rfl, rfl⟩
      have f1 : (wr.setCell ⟨w.heap.size, 0, none⟩ (.string (strOfNums (keyNums xs)))).cell? ⟨w.heap.size, 0, none⟩ = some (.string (strOfNums (keyNums xs))) := World.cell?_setCell_same _ _ _ hk1
      have f2 : ((wr.setCell ⟨w.heap.size, 0, none⟩ (.string (strOfNums (keyNums xs)))).setCell ⟨w.heap.size + 1, 0, none⟩ (.int .i64 0)).cell? ⟨w.heap.size + 1, 0, none⟩ = some (.int .i64 0) :=
        World.cell?_setCell_same _ _ _ ((World.cell?_setCell_other _ _ _ _ (by simp)).trans he1)
      have hBf : Below w.heap.size w ((wr.setCell ⟨w.heap.size, 0, none⟩ (.string (strOfNums (keyNums xs)))).setCell ⟨w.heap.size + 1, 0, none⟩ (.int .i64 0)) := (hB.setCell (p := ⟨w.heap.size, 0, none⟩) (Nat.le_refl _) _).setCell (p := ⟨w.heap.size + 1, 0, none⟩) (by simp) _
      simp [Leaves, settle, results, Try.results49, go_sem, f1, f2, hBf]

set_option maxRecDepth 100000 in
set_option maxHeartbeats 1000000 in
theorem key_bad (a : Option Addr) (cap : Nat) (xs : List Int) (w : World) (hlen : xs.length ≤ 17592186044416) (hx : xs = [] ∨ ∃ b o, a = some ⟨b, o, none⟩ ∧ Cells w b o (xs.map (Value.int .i64))) (hbad : ¬ ∀ x ∈ xs, small x = true) :
    Calls Try.prog 49 #[.slice a xs.length cap] w fun e w' => e = .returned (.tuple #[.string ⟨#[]⟩, .int .i64 2]) ∧ Below w.heap.size w w' := by
  have hmf : ∀ (fn : Fn) (first cap : Array Value) (w : World), (Instr.makeFunc fn first cap).run Try.prog w = .ok (.func fn first cap) w := fun _ _ _ _ => rfl
  obtain ⟨i0, hi, hz0, hz1, hz2⟩ := info_parts Try.infoByte
  go_enter_defers Try.func49, Try.ntmps49
  go_wp2
  go_loopw [4, 11] (fun v i wr => ∃ k : Nat, k ≤ xs.length ∧ i = .int .i64 k ∧ (∀ j (h : j < xs.length), j < k → small xs[j] = true) ∧ wr.ownsRow (w.heap.size + 2) 5 1 v (2 * k) ((keyNums (xs.take k)).map (Value.int .u8)) ∧
      Boxed wr w.heap.size 9 (.string ⟨#[]⟩) ∧ Boxed wr (w.heap.size + 1) 28 (.int .i64 0) ∧ Below w.heap.size w wr)
    (fun _ i _ => xs.length - (intOf i).toNat)
  case atStart => exact ⟨0, Nat.zero_le _, rfl, fun j _ h => by omega, World.ownsRow_nil _ _ _ _, (Boxed.new _ _ _).alloc _, by have := Boxed.new (w.alloc (.cells #[.string ⟨#[]⟩] 9)) 28 (.int .i64 0); rwa [World.size_alloc] at this, ((Below.refl _ _).alloc (Nat.le_refl _) _).alloc (by simp) _⟩
  case round =>
    obtain ⟨k, hk, rfl, hsmall, hown, hbk, hbe, hB⟩ := hrel
    have hlt : k < xs.length := by
      rcases Nat.lt_or_ge k xs.length with h | h
      · exact h
      · exfalso
        refine hbad fun x hx' => ?_
        obtain ⟨j, hj, rfl⟩ := List.getElem_of_mem hx'
        exact hsmall j hj (by omega)
    obtain ⟨b, o, rfl, hc⟩ : ∃ b o, a = some ⟨b, o, none⟩ ∧ Cells w b o (xs.map (Value.int .i64)) := by
      rcases hx with rfl | h
      · simp at hlt
      · exact h
    have hcx : wr.cell? ⟨b, o + k, none⟩ = some (.int .i64 xs[k]) := by
      have := hc k (by simpa using hlt)
      rw [List.getElem_map] at this
      exact (hB.cell (p := ⟨b, o + k, none⟩) (World.block_lt_of_cell? w _ this)).trans this
    have hsn : keyNums (xs.take (k + 1)) = keyNums (xs.take k) ++ [xs[k] / 256, xs[k] % 256] := by rw [List.take_add_one, List.getElem?_eq_getElem hlt]; exact keyNums_snoc _ _
    by_cases hs : small xs[k] = true
    · have hsm := (small_iff _).1 hs
      have hnext : ∀ j (h : j < xs.length), j < k + 1 → small xs[j] = true := fun j h hj => by
        rcases Nat.lt_or_ge j k with h1 | h1
        · exact hsmall j h h1
        · obtain rfl : j = k := by omega
          exact hs
      have HN := Lib.hid hnext
      clear hnext hsmall hs
      generalize xs[k] = x at hcx hsm hsn
      have HP := Lib.hid (pair_in x wr hsm.1 hsm.2)
      have HSN := Lib.hid hsn
      clear hsn hx hbad hc
      go_wp2_with (first | (go_at_call 61; refine HP.out.mono ?_; rintro e w1 ⟨rfl, hb1⟩; have hown1 := own_below hown hb1) | (at_builtin; refine wpList_append_own _ rfl _ _ 54 rfl (w.heap.size + 2) 5 i0 (.int .u8 0) 1 1 Try.underlying54 hi hz0 hz1 hz2 rfl (by decide) _ _ _ rfl (hown1.alloc _) ⟨w1.heap.size, 0, none⟩ 2 2 [.int .u8 (x / 256), .int .u8 (x % 256)] rfl rfl (cell_two_new _ _ _ _) (by simp [Value.oneCell']) (by unfold maxLen; omega) (by omega) (by have := hB.size; have := hb1.size; have := hbe.lt; simp; omega) ?_; intro v' w2 hown2 hgrow _))
      have hf1 : Fr (fun g => u4.ownBlock = some g) wr w2 := ((Fr.new hb1).wide).trans ((Fr.alloc _ _).trans (Fr.grown hgrow))
      have hlt' := hown.lt
      go_roundw
      case rel => exact ⟨k + 1, by omega, by simp, HN.out, by rw [HSN.out]; simpa [Nat.mul_add] using hown2, boxed_fr hbk hf1 (fun e => by have := (hlt' _ e).1; omega), boxed_fr hbe hf1 (fun e => by have := (hlt' _ e).1; omega), hB.trans (hf1.below hB.size (fun g e => by have := (hlt' _ e).1; omega))⟩
      case measure => simp [intOf]; omega
    · have hs' : xs[k] < 0 ∨ 65536 ≤ xs[k] := by
        have h1 : ¬ (0 ≤ xs[k] ∧ xs[k] < 65536) := fun h => hs ((small_iff _).2 h)
        omega
      clear hsn hsmall hs hbad hx hc
      generalize xs[k] = x at hcx hs'
      have HP := Lib.hid (pair_out x wr hs')
      clear hs'
      go_wp2_with (go_at_call 61; refine HP.out.mono ?_; rintro e w1 ⟨rfl, hb1⟩)
      have hbk1 := boxed_below hbk hb1
      have hbe1 := boxed_below hbe hb1
      refine leaves_cons (f := 60) (args := #[.pointer (some ⟨w.heap.size + 1, 0, none⟩), .pointer (some ⟨w.heap.size, 0, none⟩)]) (by simp) (by simp [go_sem]) ?_
      refine (key1_caught _ _ _ _ _ _ _ hbe1.cell hbe1.frozen hbk1.cell hbk1.frozen (by omega)).mono ?_
      rintro e u' w'' ⟨rfl, rfl, rfl⟩
      have f2 : ((w1.setCell ⟨w.heap.size + 1, 0, none⟩ (.int .i64 2)).setCell ⟨w.heap.size, 0, none⟩ (.string ⟨#[]⟩)).cell? ⟨w.heap.size, 0, none⟩ = some (.string ⟨#[]⟩) := World.cell?_setCell_same _ _ _ ((World.cell?_setCell_other _ _ _ _ (by simp)).trans hbk1.cell)
      have f1 : (w1.setCell ⟨w.heap.size + 1, 0, none⟩ (.int .i64 2)).cell? ⟨w.heap.size + 1, 0, none⟩ = some (.int .i64 2) := World.cell?_setCell_same _ _ _ hbe1.cell
      have hB1 : Below w.heap.size w w1 := hB.trans (hb1.mono hB.size)
      have hBf : Below w.heap.size w ((w1.setCell ⟨w.heap.size + 1, 0, none⟩ (.int .i64 2)).setCell ⟨w.heap.size, 0, none⟩ (.string ⟨#[]⟩)) := (hB1.setCell (p := ⟨w.heap.size + 1, 0, none⟩) (by simp) _).setCell (p := ⟨w.heap.size, 0, none⟩) (Nat.le_refl _) _
      simp [Leaves, settle, results, Try.results49, go_sem, f1, f2, hBf]
end Go.Proofs.Ytgmkpncpcikecaa
