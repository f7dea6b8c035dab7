/-
  The law's has: is a number in a row?
-/
import Derived.Test.YtfhleelechbdmaaDoorFiA
namespace Go.Proofs.YtfhleelechbdmaaDoor
open Go.RowKit
set_option maxHeartbeats 400000

set_option maxRecDepth 100000 in
set_option maxHeartbeats 1000000 in
theorem has_any (xs : List Int) (v : Value) (n : Int) (w : World) (hv : Ints w v xs) :
    Calls Tryd.prog 11 #[v, .int .i64 n] w fun e w' => e = .returned (.bool (decide (n ∈ xs))) ∧ w = w' := by
  obtain ⟨_, hlen, a, cap, rfl, _, _, _⟩ := id hv
  have HV := Lib.hid hv
  clear hv
  generalize hN : xs.length = N at *
  have HN := Lib.hid hN
  clear hN
  go_enter Tryd.func11, Tryd.ntmps11
  go_wp2
  go_loopw [5] (fun i wr => ∃ k : Nat, k ≤ N ∧ i = .int .i64 k ∧ (∀ j (hj : j < xs.length), j < k → xs[j] ≠ n) ∧ w = wr) (fun i _ => N - (intOf i).toNat)
  case atStart => exact ⟨0, Nat.zero_le _, rfl, fun j _ h => by omega, rfl⟩
  case round =>
    obtain ⟨k, hk, rfl, hno, rfl⟩ := hrel
    have HNO := Lib.hid hno
    clear hno
    by_cases hlt : k < N
    · have hk' : k < xs.length := by rw [HN.out]; exact hlt
      obtain ⟨b', o, rfl, -, -, hcx, -⟩ := HV.out.at hk'
      have HM := Lib.hid (List.getElem_mem hk')
      generalize hx : xs[k] = x at hcx HM
      have HE := Lib.hid hx
      clear hx
      by_cases he : x = n
      · subst he
        go_wp2
        go_ret
        exact ⟨by rw [decide_eq_true HM.out]; rfl, rfl⟩
      · go_wp2
        go_roundw
        case rel =>
          refine ⟨k + 1, by omega, by simp, fun j hj hjk => ?_, trivial⟩
          by_cases e : j = k
          · subst e; rw [HE.out]; exact he
          · exact HNO.out j hj (by omega)
        case measure => simp [intOf]; omega
    · obtain rfl : k = N := by omega
      clear hlt
      go_wp2
      go_ret
      refine ⟨?_, rfl⟩
      have : n ∉ xs := fun h => by
        obtain ⟨i, hi, e⟩ := List.mem_iff_getElem.1 h
        exact HNO.out i hi (by rw [← HN.out]; exact hi) e
      rw [decide_eq_false this]
      rfl
end Go.Proofs.YtfhleelechbdmaaDoor
