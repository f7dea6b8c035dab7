/-
  The statements' own helpers: SameTexts, Pick, SameType, TypesOf, kind.
-/
import Derived.Test.YticdoccaabfjaaaSc15
import Derived.Test.YticdoccaabfjaaaLate
namespace Go.Proofs.Yticdoccaabfjaaa
open Go.RowKit
set_option maxHeartbeats 400000

theorem kind_any (k : Int) (w : World) : Calls Try.prog 13 #[.int .u8 k] w fun e w' => e = .returned (.agg #[.int .u8 k, .string ⟨#[]⟩, .slice none 0 0]) ∧ Below w.heap.size w w' := by
  go_enter Try.func13, Try.ntmps13
  go_wp2
  exact bodyPost_ret (v := .agg #[.int .u8 k, .string ⟨#[]⟩, .slice none 0 0]) (by simp [results, Try.results13, go_sem]) rfl ⟨rfl, by repeat (first | with_reducible exact (Below.refl _ _).alloc (Nat.le_refl _) _ | refine Below.setCell ?_ (by simp) _)⟩

theorem sameTexts_none (a b : Option Addr) (c d : Nat) (w : World) :
    Calls Try.prog 19 #[.slice a 0 c, .slice b 0 d] w fun e w' => e = .returned (.bool true) ∧ w = w' := by
  go_enter Try.func19, Try.ntmps19
  go_wp2
  refine wp_loop_rounds 1 ?_
  rw [rounds_succ]
  go_wp2
  go_ret
  exact ⟨rfl, rfl⟩
set_option maxRecDepth 100000 in
set_option maxHeartbeats 1000000 in
theorem sameTexts_loop (b off b' off' c d N : Nat) (xs : List ByteArray) (w : World) (hN : N = xs.length) (hc : N ≤ c) (hcm : c ≤ maxLen)
   (hx : Cells w b off (strs xs)) (hy : Cells w b' off' (strs xs)) :
    Calls Try.prog 19 #[.slice (some ⟨b, off, none⟩) N c, .slice (some ⟨b', off', none⟩) N d] w fun e w' => e = .returned (.bool true) ∧ ∃ n, w' = w.drewN n := by
  have HN := Lib.hid hN
  have hcm' : c ≤ 9223372036854775807 := hcm
  clear hN hcm
  go_enter Try.func19, Try.ntmps19
  go_wp2
  go_loopw [5] (fun i wr => ∃ k n : Nat, k ≤ N ∧ i = .int .i64 k ∧ wr = w.drewN n)
     (fun i _ => N - (intOf i).toNat)
  case atStart => exact ⟨0, 0, Nat.zero_le _, rfl, rfl⟩
  case round =>
    obtain ⟨k, n, hk, rfl, rfl⟩ := hrel
    by_cases hlt : k < N
    · have hkx : k < xs.length := by have := HN.out; omega
      have h1 := hx k (by simpa [strs] using hkx)
      have h2 := hy k (by simpa [strs] using hkx)
      simp only [strs, List.getElem_map] at h1 h2
      generalize xs[k] = s at h1 h2
      have hbs : (s.toList == s.toList) = true := by simp
      have hbn : (s.toList != s.toList) = false := by simp
      clear hx hy
      go_wp2
      go_quiet (fail)
      go_wp2
      go_roundw
      case rel => exact ⟨k + 1, _, by omega, by simp, rfl⟩
      case measure => simp [intOf]; omega
    · obtain rfl : k = N := by omega
      clear hlt
      go_wp2
      go_ret
      exact ⟨rfl, _, rfl⟩
theorem sameTexts_any (u v : Value) (xs : List ByteArray) (w : World) (hx : Texts w u xs) (hy : Texts w v xs) :
    Calls Try.prog 19 #[u, v] w fun e w' => e = .returned (.bool true) ∧ ∃ n, w' = w.drewN n := by
  obtain ⟨a, c, rfl, hc, hcm, hxa⟩ := hx
  obtain ⟨b, d, rfl, _, _, hyb⟩ := hy
  rcases hxa with rfl | ⟨b1, o1, rfl, hc1⟩
  · exact (sameTexts_none a b c d w).mono fun e w' ⟨he, hw⟩ => ⟨he, 0, hw.symm⟩
  · rcases hyb with rfl | ⟨b2, o2, rfl, hc2⟩
    · exact (sameTexts_none _ b c d w).mono fun e w' ⟨he, hw⟩ => ⟨he, 0, hw.symm⟩
    · exact sameTexts_loop b1 o1 b2 o2 c d _ xs w rfl hc hcm hc1 hc2
end Go.Proofs.Yticdoccaabfjaaa
