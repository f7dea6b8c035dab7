/-
  The document's answer on conflicts: Pick. It is what package clash says.
-/
import Derived.Test.YtijdaihcogbliaaRef22
namespace Go.Proofs.Ytijdaihcogbliaa
open Go.RowKit
set_option maxHeartbeats 400000

def isRed (np : Nat) (a : Ent) : Prop := a.kind = 2 ∧ 1 ≤ a.to ∧ a.to < (np : Int)
instance (np : Nat) (a : Ent) : Decidable (isRed np a) := by unfold isRed; infer_instance
theorem reduce22_any (terms : Int) (vs : Value) (b : Option Addr) (np c : Nat) (a : Ent) (w : World) :
    Calls Try.prog 37 #[.agg #[.int .i64 terms, vs, .slice b np c], .agg #[.int .u8 a.kind, .int .i64 a.to]] w fun e w' => e = .returned (.bool (decide (isRed np a))) ∧ Below w.heap.size w w' := by
  obtain ⟨ak, av⟩ := a
  have hB := (two_boxes w (.cells #[.int .i64 terms, vs, .slice b np c] 25 (0, 0)) (.cells #[.int .u8 ak, .int .i64 av] 28 (0, 0))).2.2
  have HB := Lib.hid hB
  have e : decide (isRed np ⟨ak, av⟩) = (decide (ak = 2) && (decide (1 ≤ av) && decide (av < (np : Int)))) := by
    by_cases h1 : ak = 2 <;> by_cases h2 : 1 ≤ av <;> by_cases h3 : av < (np : Int) <;> simp [isRed, h1, h2, h3]
  rw [e]
  clear hB e
  obtain ⟨B1, b1⟩ : ∃ x, decide (ak = 2) = x := ⟨_, rfl⟩
  obtain ⟨B2, b2⟩ : ∃ x, decide (1 ≤ av) = x := ⟨_, rfl⟩
  obtain ⟨B3, b3⟩ : ∃ x, decide (av < (np : Int)) = x := ⟨_, rfl⟩
  rw [b1, b2, b3]
  have t1 : (ak == 2) = B1 := by rw [← b1]; rfl
  clear b1
  cases B1 <;> cases B2 <;> cases B3
  all_goals
    go_enter Try.func37, Try.ntmps37
    go_wp2
    go_ret
    exact ⟨rfl, HB.out⟩

/-- P22.1, as the document has it. -/
def pick22 (G : Gram) (t : Int) (a b : Ent) : Int × Bool :=
  if rightG G = true ∧ 0 ≤ t ∧ t < G.terms then
    if isRed G.prods.length a then
      if isRed G.prods.length b then (if b.to < a.to then 1 else 0, false)
      else if b.kind = 3 ∧ b.to = 0 ∧ t = 0 then (1, false)
      else if b.kind = 1 ∧ 0 ≤ b.to ∧ 0 < t then metE G t a.to 1 else (2, false)
    else
      if isRed G.prods.length b then
        if a.kind = 3 ∧ a.to = 0 ∧ t = 0 then (0, false)
        else if a.kind = 1 ∧ 0 ≤ a.to ∧ 0 < t then metE G t b.to 0 else (2, false)
      else (2, false)
  else (2, false)
theorem pick22_is (G : Gram) (t : Int) (a b : Ent) : pick22 G t a b = pickE G t a b := by
  obtain ⟨ak, av⟩ := a
  obtain ⟨bk, bv⟩ := b
  unfold pick22 pickE
  by_cases hg : rightG G = true ∧ 0 ≤ t ∧ t < G.terms
  · rw [if_pos hg]
    have hm : ∀ x y : Ent, mayE G.prods.length t [x, y] = true ↔ (okE G.prods.length t x = true ∧ okE G.prods.length t y = true ∧ (x.kind = 2 ∨ y.kind = 2)) := fun x y => by
      refine ⟨fun h => mayE_true h, fun h => ?_⟩
      unfold mayE cntK
      simp only [List.all_cons, List.all_nil, Bool.and_true, h.1, h.2.1, Bool.true_and, decide_eq_true_eq]
      rcases h.2.2 with h | h <;> by_cases h2 : y.kind = 2 <;> by_cases h3 : x.kind = 2 <;> simp_all
    have hm' := hm ⟨ak, av⟩ ⟨bk, bv⟩
    rw [okE_iff, okE_iff] at hm'
    simp only at hm'
    simp only [isRed, firstE]
    by_cases ha : ak = 2 ∧ 1 ≤ av ∧ av < (G.prods.length : Int)
    · rw [if_pos ha]
      by_cases hb : bk = 2 ∧ 1 ≤ bv ∧ bv < (G.prods.length : Int)
      · rw [if_pos hb, if_pos (show rightG G = true ∧ 0 ≤ t ∧ t < G.terms ∧ mayE G.prods.length t [⟨ak, av⟩, ⟨bk, bv⟩] = true from ⟨hg.1, hg.2.1, hg.2.2, hm'.2 (by omega)⟩), if_neg (show ¬ ak = 1 by omega), if_neg (show ¬ bk = 1 by omega)]
        by_cases hc : bv < av
        · have h1 : ¬ av ≤ bv := by omega
          simp [hc, h1, ha.1]
        · have h1 : av ≤ bv := by omega
          simp [hc, h1, hb.1]
      · rw [if_neg hb]
        by_cases hc : bk = 3 ∧ bv = 0 ∧ t = 0
        · rw [if_pos hc, if_pos (show rightG G = true ∧ 0 ≤ t ∧ t < G.terms ∧ mayE G.prods.length t [⟨ak, av⟩, ⟨bk, bv⟩] = true from ⟨hg.1, hg.2.1, hg.2.2, hm'.2 (by omega)⟩), if_neg (show ¬ ak = 1 by omega), if_neg (show ¬ bk = 1 by omega)]
          simp [ha.1, hc.1]
        · rw [if_neg hc]
          by_cases hd : bk = 1 ∧ 0 ≤ bv ∧ 0 < t
          · rw [if_pos hd, if_pos (show rightG G = true ∧ 0 ≤ t ∧ t < G.terms ∧ mayE G.prods.length t [⟨ak, av⟩, ⟨bk, bv⟩] = true from ⟨hg.1, hg.2.1, hg.2.2, hm'.2 (by omega)⟩), if_neg (show ¬ ak = 1 by omega), if_pos hd.1]
          · rw [if_neg hd, if_neg (show ¬ (rightG G = true ∧ 0 ≤ t ∧ t < G.terms ∧ mayE G.prods.length t [⟨ak, av⟩, ⟨bk, bv⟩] = true) from fun h => by have := hm'.1 h.2.2.2; omega)]
    · rw [if_neg ha]
      by_cases hb : bk = 2 ∧ 1 ≤ bv ∧ bv < (G.prods.length : Int)
      · rw [if_pos hb]
        by_cases hc : ak = 3 ∧ av = 0 ∧ t = 0
        · rw [if_pos hc, if_pos (show rightG G = true ∧ 0 ≤ t ∧ t < G.terms ∧ mayE G.prods.length t [⟨ak, av⟩, ⟨bk, bv⟩] = true from ⟨hg.1, hg.2.1, hg.2.2, hm'.2 (by omega)⟩), if_neg (show ¬ ak = 1 by omega), if_neg (show ¬ bk = 1 by omega)]
          simp [hc.1]
        · rw [if_neg hc]
          by_cases hd : ak = 1 ∧ 0 ≤ av ∧ 0 < t
          · rw [if_pos hd, if_pos (show rightG G = true ∧ 0 ≤ t ∧ t < G.terms ∧ mayE G.prods.length t [⟨ak, av⟩, ⟨bk, bv⟩] = true from ⟨hg.1, hg.2.1, hg.2.2, hm'.2 (by omega)⟩), if_pos hd.1]
          · rw [if_neg hd, if_neg (show ¬ (rightG G = true ∧ 0 ≤ t ∧ t < G.terms ∧ mayE G.prods.length t [⟨ak, av⟩, ⟨bk, bv⟩] = true) from fun h => by have := hm'.1 h.2.2.2; omega)]
      · rw [if_neg hb, if_neg (show ¬ (rightG G = true ∧ 0 ≤ t ∧ t < G.terms ∧ mayE G.prods.length t [⟨ak, av⟩, ⟨bk, bv⟩] = true) from fun h => by have := hm'.1 h.2.2.2; omega)]
  · rw [if_neg hg, if_neg (fun h => hg ⟨h.1, h.2.1, h.2.2.1⟩)]
end Go.Proofs.Ytijdaihcogbliaa
