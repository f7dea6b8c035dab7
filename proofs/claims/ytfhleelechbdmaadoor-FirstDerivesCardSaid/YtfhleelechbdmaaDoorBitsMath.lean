/-
  Plain facts on the bits of a word, rising: what the lowest set bit is, and what is left without it. They speak of no program.
-/
import Derived.Lib.TrailingZeros
import Derived.Test.YtfhleelechbdmaaDoorBase
namespace Go.Proofs.YtfhleelechbdmaaDoor
open Go.RowKit

/-- A number without its j lowest bits. -/
def low (j u : Nat) : Nat := u / 2 ^ j * 2 ^ j

theorem low_zero (u : Nat) : low 0 u = u := by simp [low]
theorem low_lt (j u : Nat) (h : u < 18446744073709551616) : low j u < 18446744073709551616 := Nat.lt_of_le_of_lt (Nat.div_mul_le_self _ _) h
theorem low_testBit (j u k : Nat) : (low j u).testBit k = (decide (j ≤ k) && u.testBit k) := by
  have e : low j u = 2 ^ j * (u / 2 ^ j) + 0 := by simp [low, Nat.mul_comm]
  rw [e, Nat.testBit_two_pow_mul_add _ (Nat.two_pow_pos j)]
  by_cases h : k < j
  · rw [if_pos h, Nat.zero_testBit]; simp; omega
  · rw [if_neg h, Nat.testBit_div_two_pow, show k - j + j = k by omega]; simp; omega

theorem and_pred (c m : Nat) : (2 ^ c * (2 * m + 1)) &&& (2 ^ c * (2 * m + 1) - 1) = 2 ^ (c + 1) * m := by
  have hp := Nat.two_pow_pos c
  have e1 : 2 ^ c * (2 * m + 1) - 1 = 2 ^ c * (2 * m) + (2 ^ c - 1) := by rw [Nat.mul_add]; omega
  have e2 : 2 ^ (c + 1) * m = 2 ^ c * (2 * m) + 0 := by rw [Nat.pow_succ, Nat.mul_assoc]; rfl
  apply Nat.eq_of_testBit_eq
  intro k
  rw [Nat.testBit_and, e1, e2, Nat.testBit_two_pow_mul_add _ (by omega : 2 ^ c - 1 < 2 ^ c), Nat.testBit_two_pow_mul_add _ hp]
  have e3 : (2 ^ c * (2 * m + 1)).testBit k = if k < c then (0 : Nat).testBit k else (2 * m + 1).testBit (k - c) := by
    have := Nat.testBit_two_pow_mul_add (2 * m + 1) hp k
    simpa using this
  rw [e3]
  by_cases h : k < c
  · simp [h]
  · simp only [if_neg h]
    cases hk : k - c with
    | zero => simp
    | succ t => rw [Nat.testBit_succ, Nat.testBit_succ, show (2 * m + 1) / 2 = m by omega, show 2 * m / 2 = m by omega, Bool.and_self]

theorem low_next (j u : Nat) (h : u < 18446744073709551616) (h0 : low j u ≠ 0) :
    j ≤ Lib.ctz 64 (low j u) ∧ Lib.ctz 64 (low j u) < 64 ∧ u.testBit (Lib.ctz 64 (low j u)) = true ∧ (∀ k, j ≤ k → k < Lib.ctz 64 (low j u) → u.testBit k = false) ∧
    low j u &&& (low j u - 1) = low (Lib.ctz 64 (low j u) + 1) u := by
  obtain ⟨m, hm, hc⟩ := Lib.ctzFrom_spec 64 (low j u) (by omega) (low_lt j u h)
  have e : Lib.ctz 64 (low j u) = Lib.ctzFrom 64 (low j u) := by simp [Lib.ctz, h0]
  rw [← e] at hm hc
  generalize Lib.ctz 64 (low j u) = c at hm hc
  have hb : ∀ k, (low j u).testBit k = if k < c then false else (2 * m + 1).testBit (k - c) := fun k => by
    have := Nat.testBit_two_pow_mul_add (2 * m + 1) (Nat.two_pow_pos c) k
    rw [hm]; simpa using this
  have hcb := hb c
  simp only [Nat.lt_irrefl, if_false, Nat.sub_self] at hcb
  rw [low_testBit] at hcb
  have h1 : (2 * m + 1).testBit 0 = true := by simp
  rw [h1] at hcb
  simp only [Bool.and_eq_true, decide_eq_true_eq] at hcb
  refine ⟨hcb.1, hc, hcb.2, fun k hk hkc => ?_, ?_⟩
  · have := hb k
    rw [if_pos hkc, low_testBit] at this
    simpa [hk] using this
  · rw [hm, and_pred]
    have hd : m = u / 2 ^ (c + 1) := by
      apply Nat.eq_of_testBit_eq
      intro k
      rw [Nat.testBit_div_two_pow]
      have := hb (k + (c + 1))
      rw [low_testBit, if_neg (by omega), show k + (c + 1) - c = k + 1 by omega, Nat.testBit_succ, show (2 * m + 1) / 2 = m by omega] at this
      rw [← this]
      have hj : j ≤ k + (c + 1) := by omega
      simp [hj]
    rw [low, ← hd, Nat.mul_comm]
theorem low_end (j u k : Nat) (h0 : low j u = 0) (hk : j ≤ k) : u.testBit k = false := by
  have := low_testBit j u k
  rw [h0, Nat.zero_testBit] at this
  simpa [hk] using this.symm

/-- Whether the number i is in the set of these words. -/
def inSet (ws : List Nat) (i : Nat) : Bool := (ws[i / 64]?.getD 0).testBit (i % 64)
/-- What is in it below m, rising. -/
def elemsTo (ws : List Nat) (m : Nat) : List Nat := (List.range m).filter (inSet ws)
def elems (ws : List Nat) : List Nat := elemsTo ws (64 * ws.length)
theorem elemsTo_skip (ws : List Nat) (a b : Nat) (hab : a ≤ b) (h : ∀ k, a ≤ k → k < b → inSet ws k = false) : elemsTo ws b = elemsTo ws a := by
  obtain ⟨d, rfl⟩ : ∃ d, b = a + d := ⟨b - a, by omega⟩
  induction d with
  | zero => rfl
  | succ d ih =>
    rw [elemsTo, show a + (d + 1) = (a + d) + 1 by omega, List.range_succ, List.filter_append, List.filter_cons, h (a + d) (by omega) (by omega)]
    simp only [Bool.false_eq_true, if_false, List.filter_nil, List.append_nil]
    exact ih (by omega) fun k h1 h2 => h k h1 (by omega)
theorem elemsTo_hit (ws : List Nat) (a c : Nat) (hac : a ≤ c) (h : ∀ k, a ≤ k → k < c → inSet ws k = false) (hc : inSet ws c = true) : elemsTo ws (c + 1) = elemsTo ws a ++ [c] := by
  rw [← elemsTo_skip ws a c hac h, elemsTo, List.range_succ, List.filter_append, List.filter_cons, hc]; rfl
theorem inSet_at (ws : List Nat) (i k : Nat) (hk : k < 64) : inSet ws (64 * i + k) = (ws[i]?.getD 0).testBit k := by
  unfold inSet; rw [show (64 * i + k) / 64 = i by omega, show (64 * i + k) % 64 = k by omega]
theorem elemsTo_round (ws : List Nat) (i j : Nat) (hu : ws[i]?.getD 0 < 18446744073709551616) (h0 : low j (ws[i]?.getD 0) ≠ 0) :
    elemsTo ws (64 * i + (Lib.ctz 64 (low j (ws[i]?.getD 0)) + 1)) = elemsTo ws (64 * i + j) ++ [64 * i + Lib.ctz 64 (low j (ws[i]?.getD 0))] := by
  obtain ⟨h1, h2, h3, h4, _⟩ := low_next j _ hu h0
  refine elemsTo_hit ws (64 * i + j) (64 * i + Lib.ctz 64 (low j (ws[i]?.getD 0))) (by omega) (fun k hk1 hk2 => ?_) (by rw [inSet_at _ _ _ h2]; exact h3)
  obtain ⟨t, rfl⟩ : ∃ t, k = 64 * i + t := ⟨k - 64 * i, by omega⟩
  rw [inSet_at _ _ _ (by omega)]; exact h4 t (by omega) (by omega)
theorem elemsTo_over (ws : List Nat) (i j : Nat) (hj : j ≤ 64) (h0 : low j (ws[i]?.getD 0) = 0) : elemsTo ws (64 * (i + 1)) = elemsTo ws (64 * i + j) := by
  refine elemsTo_skip ws _ _ (by omega) fun k hk1 hk2 => ?_
  obtain ⟨t, rfl⟩ : ∃ t, k = 64 * i + t := ⟨k - 64 * i, by omega⟩
  rw [inSet_at _ _ _ (by omega)]; exact low_end j _ t h0 (by omega)
theorem elemsTo_mem (ws : List Nat) (m x : Nat) : x ∈ elemsTo ws m ↔ x < m ∧ inSet ws x = true := by simp [elemsTo]
theorem elemsTo_prefix (ws : List Nat) (a b : Nat) (h : a ≤ b) : elemsTo ws a <+: elemsTo ws b := by
  obtain ⟨d, rfl⟩ : ∃ d, b = a + d := ⟨b - a, by omega⟩
  unfold elemsTo
  rw [List.range_add, List.filter_append]
  exact List.prefix_append _ _
theorem elemsTo_length (ws : List Nat) (m : Nat) : (elemsTo ws m).length ≤ m := by
  have := List.length_filter_le (inSet ws) (List.range m); simpa [elemsTo] using this
theorem inSet_out (ws : List Nat) (x : Nat) (h : 64 * ws.length ≤ x) : inSet ws x = false := by
  unfold inSet; rw [List.getElem?_eq_none (by omega)]; simp
theorem elems_mem (ws : List Nat) (x : Nat) : x ∈ elems ws ↔ inSet ws x = true := by
  unfold elems
  rw [elemsTo_mem]
  refine ⟨fun h => h.2, fun h => ⟨?_, h⟩⟩
  rcases Nat.lt_or_ge x (64 * ws.length) with h1 | h1
  · exact h1
  · rw [inSet_out _ _ h1] at h; cases h
end Go.Proofs.YtfhleelechbdmaaDoor
