/-
  Package symbols: throw, odd.
-/
import Derived.Test.YtehaoiimhgkckaaGram
import Derived.Test.YtehaoiimhgkckaaUse1
namespace Go.Proofs.Ytehaoiimhgkckaa
open Go.RowKit
set_option maxHeartbeats 400000

def oddG (s : ByteArray) : Bool := decide (s = nNone) || (decide (s = nEnd) || decide (s = nAccept))
set_option maxRecDepth 100000 in
theorem odd_any (s : ByteArray) (w : World) : Calls Try.prog 84 #[.string s] w fun e w' => e = .returned (.bool (oddG s)) ∧ w = w' := by
  unfold oddG nNone nEnd nAccept
  generalize e1 : decide (s = ⟨#[]⟩) = b1
  generalize e2 : decide (s = ⟨#[36, 101, 110, 100]⟩) = b2
  generalize e3 : decide (s = ⟨#[36, 97, 99, 99, 101, 112, 116]⟩) = b3
  have h1 := str_ilit s _ _ e1
  have h2 := str_ilit s _ _ e2
  have h3 := str_ilit s _ _ e3
  clear e1 e2 e3
  cases b1 <;> cases b2 <;> cases b3
  all_goals
    go_enter Try.func84, Try.ntmps84
    go_wp2
    go_ret
    exact ⟨rfl, rfl⟩
/-- No truth is so: nothing is thrown. -/
theorem throw_none (k at_ : Int) (b : Nat) (L : List Bool) (w : World) (hb : w.heap[b]? = some (boolsObj L)) (hl : L.length ≤ 1000) (hL : ∀ x ∈ L, x = false) :
    Calls Try.prog 72 #[.int .i64 k, .int .i64 at_, .slice (some ⟨b, 0, none⟩) L.length L.length] w fun e w' => e = .returned (.tuple #[]) ∧ w = w' := by
  go_enter Try.func72, Try.ntmps72
  go_wp2
  go_loopw [7, 10] (fun _ i wr => ∃ k : Nat, k ≤ L.length ∧ i = .int .i64 k ∧ w = wr) (fun _ i _ => L.length - (intOf i).toNat)
  case atStart => exact ⟨0, Nat.zero_le _, rfl, rfl⟩
  case round =>
    obtain ⟨k, hk, rfl, rfl⟩ := hrel
    by_cases hlt : k < L.length
    · have c0 := bools_cell hb k hlt
      rw [hL _ (List.getElem_mem hlt)] at c0
      go_wp2
      go_roundw
      case rel => exact ⟨k + 1, by omega, by simp, trivial⟩
      case measure => simp [intOf]; omega
    · obtain rfl : k = L.length := by omega
      clear hlt
      go_wp2
      go_end0
      exact ⟨rfl, rfl⟩
def faultV (k at_ : Int) : Value := .iface 51 (.agg #[.int .i64 k, .int .i64 at_])
/-- Some truth is so: a fault is thrown. -/
theorem throw_some (k at_ : Int) (b : Nat) (L : List Bool) (w : World) (hb : w.heap[b]? = some (boolsObj L)) (hl : L.length ≤ 1000) (hL : ∃ x ∈ L, x = true) :
    Calls Try.prog 72 #[.int .i64 k, .int .i64 at_, .slice (some ⟨b, 0, none⟩) L.length L.length] w fun e w' => e = .panicked [{ v := faultV k at_, recovered := false }] ∧ w = w' := by
  go_enter Try.func72, Try.ntmps72
  go_wp2
  go_loopw [7, 10] (fun _ i wr => ∃ k : Nat, k ≤ L.length ∧ i = .int .i64 k ∧ (∃ x ∈ L.drop k, x = true) ∧ w = wr) (fun _ i _ => L.length - (intOf i).toNat)
  case atStart => exact ⟨0, Nat.zero_le _, rfl, by simpa using hL, rfl⟩
  case round =>
    obtain ⟨k, hk, rfl, hx, rfl⟩ := hrel
    by_cases hlt : k < L.length
    · have c0 := bools_cell hb k hlt
      rw [List.drop_eq_getElem_cons hlt] at hx
      generalize L[k] = v at *
      cases v
      · have hx' : ∃ x ∈ L.drop (k + 1), x = true := by
          obtain ⟨x, h1, h2⟩ := hx
          rcases List.mem_cons.1 h1 with h | h
          · rw [h2] at h
            cases h
          · exact ⟨x, h, h2⟩
        go_wp2
        go_roundw
        case rel => exact ⟨k + 1, by omega, by simp, hx', trivial⟩
        case measure => simp [intOf]; omega
      · go_wp2
        exact ⟨rfl, rfl, rfl⟩
    · exfalso
      obtain rfl : k = L.length := by omega
      simp at hx
end Go.Proofs.Ytehaoiimhgkckaa
