/-
  Package useless: rows of truths, and the test whether all of a row are among some.
-/
import Derived.Test.YtiiceickjaeehaaGreatGramK
namespace Go.Proofs.YtiiceickjaeehaaGreat
open Go.RowKit
set_option maxHeartbeats 400000

/-- A block of truths. -/
def boolsObj (L : List Bool) : Obj := .cells (L.map Value.bool).toArray 4 (0, 0)
def allE (L : List Bool) (R : List Int) : Bool := R.all fun x => L.getD x.toNat false
theorem bools_cell {w : World} {b : Nat} {L : List Bool} (h : w.heap[b]? = some (boolsObj L)) (i : Nat) (hi : i < L.length) : w.cell? ⟨b, i, none⟩ = some (.bool L[i]) :=
  obj_cell h i (by simp [hi])
theorem own_obj {w : World} {B e g n : Nat} {xs : List Value} (h : w.ownsRow B e 1 (.slice (some ⟨g, 0, none⟩) n n) n xs) : w.heap[g]? = some (.cells xs.toArray e (0, 0)) := by
  obtain ⟨h1, h2⟩ := h
  rcases h2 with ⟨h2, _⟩ | ⟨g', cap, cur, h2, _, hg, _, _, hc, ht⟩
  · cases h2
  · simp only [Value.slice.injEq, Option.some.injEq, Addr.mk.injEq] at h2
    obtain ⟨⟨rfl, -⟩, -, rfl⟩ := h2
    rw [hg]
    have : cur.toList = xs := by rw [← ht, List.take_of_length_le (by simp; omega)]
    rw [← this]
theorem bools_set {w : World} {b : Nat} {L : List Bool} (h : w.heap[b]? = some (boolsObj L)) (i : Nat) (x : Bool) : (w.setCell ⟨b, i, none⟩ (.bool x)).heap[b]? = some (boolsObj (L.set i x)) := by
  have := setCell_obj (i := i) h (.bool x)
  rw [this]
  unfold boolsObj
  simp [List.map_set]

set_option maxRecDepth 100000 in
theorem all_any (L : List Bool) (R : List Int) (b : Nat) (v : Value) (w : World) (hb : w.heap[b]? = some (boolsObj L)) (hv : Ints w v R) (hin : ∀ x ∈ R, 0 ≤ x ∧ x < L.length) :
    Calls Tryz.prog 26 #[.slice (some ⟨b, 0, none⟩) L.length L.length, v] w fun e w' => e = .returned (.bool (allE L R)) ∧ w = w' := by
  obtain ⟨_, hlen, a, cap, rfl, _, _, hx⟩ := hv
  go_enter Tryz.func26, Tryz.ntmps26
  go_wp2
  go_loopw [9] (fun i wr => ∃ k : Nat, k ≤ R.length ∧ i = .int .i64 k ∧ allE L (R.take k) = true ∧ w = wr) (fun i _ => R.length - (intOf i).toNat)
  case atStart => exact ⟨0, Nat.zero_le _, rfl, rfl, rfl⟩
  case round =>
    obtain ⟨k, hk, rfl, he, rfl⟩ := hrel
    have HE := Lib.hid he
    clear he
    by_cases hlt : k < R.length
    · obtain ⟨b', o, rfl, hcx⟩ : ∃ b' o, a = some ⟨b', o, none⟩ ∧ Cells w b' o (R.map (Value.int .i64)) := by
        rcases hx with rfl | h
        · simp at hlt
        · exact h
      have h1 := hcx k (by simpa using hlt)
      rw [List.getElem_map] at h1
      have hm := hin _ (List.getElem_mem hlt)
      have ht : allE L (R.take (k + 1)) = L.getD R[k].toNat false := by
        have := HE.out
        unfold allE at this ⊢
        rw [List.take_add_one, List.getElem?_eq_getElem hlt, List.all_append, this]
        simp
      have hf : L.getD R[k].toNat false = false → allE L R = false := by
        intro h
        unfold allE
        rw [List.all_eq_false]
        exact ⟨_, List.getElem_mem hlt, by simp only [h]; simp⟩
      generalize R[k] = m at *
      obtain ⟨m, rfl⟩ : ∃ n : Nat, m = (n : Int) := ⟨m.toNat, by omega⟩
      have hml : m < L.length := by omega
      have h2 := bools_cell hb m hml
      rw [Int.toNat_natCast, List.getD_eq_getElem?_getD, List.getElem?_eq_getElem hml, Option.getD_some] at ht hf
      generalize L[m] = c at *
      have HT := Lib.hid ht
      have HF := Lib.hid hf
      clear ht hf hcx hx hb hin
      cases c
      · go_wp2
        go_ret
        exact ⟨by rw [HF.out trivial]; rfl, rfl⟩
      · go_wp2
        go_roundw
        case rel => exact ⟨k + 1, by omega, by simp, HT.out, trivial⟩
        case measure => simp [intOf]; omega
    · obtain rfl : k = R.length := by omega
      have hfin := HE.out
      rw [List.take_length] at hfin
      have HF := Lib.hid hfin
      clear hlt hfin
      go_wp2
      go_ret
      exact ⟨by rw [HF.out]; rfl, rfl⟩
end Go.Proofs.YtiiceickjaeehaaGreat
