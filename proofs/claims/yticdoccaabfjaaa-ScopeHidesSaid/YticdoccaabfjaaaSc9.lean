/-
  Package scope: the function that goes through the blocks, from the innermost on.
-/
import Derived.Test.YticdoccaabfjaaaSc8
import Derived.RangeFuncBox
import Derived.RangeFuncNested
import Derived.RangeFuncBound
import Derived.RangeFuncCalls
import Derived.RangeFuncLeaves
import Derived.Shelf.Abstract
import Derived.OwnWalkIn
import Derived.TacticsInMore
import Derived.LoopNIn
import Derived.LoopIn
import Derived.Maps.AppendAt
namespace Go.Proofs.Yticdoccaabfjaaa
open Go.RowKit Go.Shelf
attribute [local go_sem] Oper.semAt_some
set_option maxHeartbeats 400000

theorem inwards_any (p : Nat) (w : World) :
    Calls Try.prog 31 #[.pointer (some ⟨p, 0, none⟩)] w fun e w' => e = .returned (.func (.func 32) #[] #[.pointer (some ⟨w.heap.size, 0, none⟩)]) ∧ w.alloc (.cells #[.pointer (some ⟨p, 0, none⟩)] 67) = w' := by
  have hmf : ∀ (fn : Fn) (first cap : Array Value) (w : World), (Instr.makeFunc fn first cap).run Try.prog w = .ok (.func fn first cap) w := fun _ _ _ _ => rfl
  go_enter Try.func31, Try.ntmps31
  go_wp2
  go_ret
  exact ⟨rfl, rfl⟩

/-- Where a row of blocks of names stands. -/
structure RowAt (w : World) (Br p g cap : Nat) (L : List MB) : Prop where
  box : w.cell? ⟨Br, 0, none⟩ = some (.pointer (some ⟨p, 0, none⟩))
  row : ∃ a, w.cell? ⟨p, 0, none⟩ = some (.slice a L.length cap) ∧ (L ≠ [] → a = some ⟨g, 0, none⟩)
  cells : Cells w g 0 (L.flatMap blkCells)
  hcap : L.length ≤ cap
  hcm : cap ≤ maxLen
theorem RowAt.late {w w' : World} {Br p g cap : Nat} {L : List MB} (h : RowAt w Br p g cap L) (k : Fr nothing w w') : RowAt w' Br p g cap L := by
  obtain ⟨a, h1, h2⟩ := h.row
  exact ⟨k.cell h.box fun e => e, ⟨a, k.cell h1 fun e => e, h2⟩, h.cells.fr k fun e => e, h.hcap, h.hcm⟩
def blkArg (b : MB) : Array Value := #[.agg #[b.nv, .map (some b.mb)]]
def firstB (L : List MB) (k : Nat) : List MB := L.reverse.take k
theorem firstB_next {L : List MB} {k : Nat} (h : k < L.length) : firstB L (k + 1) = firstB L k ++ [L[L.length - 1 - k]'(by omega)] := by
  unfold firstB
  rw [List.take_add_one, List.getElem?_eq_getElem (by simpa using h), List.getElem_reverse]
  rfl

set_option maxRecDepth 100000 in
set_option maxHeartbeats 2000000 in
theorem inwards1_in (n : Nat) (hn : 3 ≤ n) (l Br p g cap : Nat) (L : List MB) (Kp : World → World → Prop) (J Jx : List MB → World → Prop) (hkR : ∀ A B, Kp A B → RowAt A Br p g cap L → RowAt B Br p g cap L)
    (hnv : ∀ b ∈ L, ∃ a n c, b.nv = .slice a n c)
    (hY : ∀ pre (b : MB), b ∈ L → ∀ W, J pre W → pre.length < L.length → YieldAt Fence.wide (n - 1) Try.prog l (blkArg b) W fun e W' =>
      (e = .returned (.bool true) ∧ J (pre ++ [b]) W' ∧ Kp W W') ∨ (e = .returned (.bool false) ∧ Jx (pre ++ [b]) W'))
    (W : World) (hR : RowAt W Br p g cap L) (h0 : J [] W) :
    CallsIn Fence.wide n Try.prog 32 #[.func (.yield l) #[] #[], .pointer (some ⟨Br, 0, none⟩)] W fun e W' => (∃ v, e = .returned v) ∧
      ((∃ ys, ys = L.reverse ∧ J ys W') ∨ (∃ pre, pre <+: L.reverse ∧ Jx pre W')) := by
  obtain ⟨a, hr1, hr2⟩ := hR.row
  have hcap := hR.hcap
  have hcm : cap ≤ 9223372036854775807 := hR.hcm
  have hbx := hR.box
  refine callsIn_of_wp Try.func32 rfl trivial ?_ rfl
  simp only [Try.ntmps32, List.size_toArray, List.length_cons, List.length_nil, Nat.reduceAdd, Nat.reduceSub, Array.replicate_succ, Array.replicate_zero, List.push_toArray, List.append_toArray, List.nil_append, List.cons_append]
  have HR := Lib.hid hR
  have HKR := Lib.hid hkR
  have HNV := Lib.hid hnv
  have HY := Lib.hid hY
  clear hR hkR hnv hY hr2
  gi_wp2
  have hw1 : IntKind.i64.wrap ((L.length : Int) - 1) = (L.length : Int) - 1 := IntWalk.i64_in _ (by omega)
  try simp only [hw1]
  clear hw1 hbx hr1
  gi_loopw [3] (fun i wr => ∃ k : Nat, k ≤ L.length ∧ i = .int .i64 ((L.length : Int) - 1 - k) ∧ J (firstB L k) wr ∧ RowAt wr Br p g cap L)
    (fun i _ => (intOf i + 1).toNat)
  case atStart => exact ⟨0, Nat.zero_le _, by simp, h0, HR.out⟩
  case round =>
    obtain ⟨k, hk, rfl, hJ, hR1⟩ := hrel
    by_cases hlt : k < L.length
    · have hkb : L.length - 1 - k < L.length := by omega
      obtain ⟨a, hr1, hr2⟩ := hR1.row
      obtain rfl : a = some ⟨g, 0, none⟩ := hr2 (by rintro rfl; simp at hlt)
      have hbx := hR1.box
      have hcb := flat_cells (m := 2) (f := blkCells) (fun _ => rfl) hR1.cells (L.length - 1 - k) hkb
      have d0 := hcb 0 (by simp [blkCells])
      have d1 := hcb 1 (by simp [blkCells])
      simp only [blkCells, List.getElem_cons_zero, List.getElem_cons_succ, Nat.zero_add, Nat.add_zero] at d0 d1
      obtain ⟨a1, n1, c1, hnv1⟩ := HNV.out _ (List.getElem_mem hkb)
      have hn := firstB_next hlt
      have hy := HY.out (firstB L k) _ (List.getElem_mem hkb) wr hJ (by unfold firstB; simp; omega)
      rw [← hn] at hy
      unfold blkArg at hy
      generalize hb : L[L.length - 1 - k] = b at *
      rw [hnv1] at d0 hy
      obtain ⟨fn, tmps, assign, body, hyr, hR⟩ := hy
      have hidx : ((L.length - 1 - k : Nat) : Int) = (L.length : Int) - 1 - k := by omega
      have HRD := Lib.hid hR
      have HR1 := Lib.hid hR1
      have HB := Lib.hid hb
      have HN := Lib.hid hn
      have HNV1 := Lib.hid hnv1
      clear hR hcb hR1 hr2 hb hn hnv1
      gi_wp2
      refine ⟨fun _ => by omega, ?_⟩
      refine HRD.out.mono ?_
      rintro e W3 (⟨rfl, hJ3, hk3⟩ | ⟨rfl, hJx3⟩)
      · have hR3 := HKR.out _ _ hk3 HR1.out
        gi_wp2
        go_roundw
        case rel => exact ⟨k + 1, by omega, congrArg (Value.int .i64) (by omega), hJ3, hR3⟩
        case measure => simp [intOf]; omega
      · gi_wp2
        go_end0
        exact ⟨⟨_, rfl⟩, .inr ⟨_, List.take_prefix _ _, hJx3⟩⟩
    · obtain rfl : k = L.length := by omega
      clear hlt
      gi_wp2
      all_goals refine ⟨(fun f e => by cases e), ?_⟩
      all_goals gi_wp2
      go_end0
      exact ⟨⟨_, rfl⟩, .inl ⟨_, by unfold firstB; rw [List.take_of_length_le (by simp)], hJ⟩⟩
end Go.Proofs.Yticdoccaabfjaaa
