/-
  Plain facts: a set's words and a row of truths say the same. They speak of no program.
-/
import Derived.Test.YtfhleelechbdmaaDoorPop
import Derived.Test.YtfhleelechbdmaaDoorBits1
namespace Go.Proofs.YtfhleelechbdmaaDoor

theorem inSet_putIn (ws : List Nat) (i j : Nat) (h : i / 64 < ws.length) : inSet (putIn ws i) j = (inSet ws j || decide (j = i)) := by
  unfold inSet putIn
  rw [List.getElem?_set]
  by_cases e : i / 64 = j / 64
  · rw [if_pos e, if_pos h, Option.getD_some, Nat.testBit_or, Nat.testBit_two_pow, e]
    congr 1
    by_cases e2 : i % 64 = j % 64
    · rw [decide_eq_true e2, decide_eq_true (by omega)]
    · rw [decide_eq_false e2, decide_eq_false (by omega)]
  · rw [if_neg e, decide_eq_false (by omega), Bool.or_false]
/-- The words say of each number what the truths say. -/
def Rel (ws : List Nat) (bs : List Bool) : Prop := ∀ i, inSet ws i = bs[i]?.getD false
def trues (bs : List Bool) : List Nat := (List.range bs.length).filter fun i => bs[i]?.getD false
theorem Rel.elems {ws : List Nat} {bs : List Bool} (h : Rel ws bs) : elems ws = trues bs := by
  have h1 : ∀ m, bs.length ≤ m → elemsTo ws m = trues bs := fun m hm => by
    obtain ⟨d, rfl⟩ : ∃ d, m = bs.length + d := ⟨m - bs.length, by omega⟩
    unfold elemsTo trues
    rw [List.range_add, List.filter_append, List.filter_map]
    have e : (List.range d).filter (inSet ws ∘ fun x => bs.length + x) = [] := by
      rw [List.filter_eq_nil_iff]
      intro x _
      show ¬ inSet ws (bs.length + x) = true
      rw [h, List.getElem?_eq_none (by omega)]
      simp
    rw [e, List.map_nil, List.append_nil]
    exact List.filter_congr fun x _ => h x
  rcases Nat.le_total bs.length (64 * ws.length) with hle | hle
  · exact h1 _ hle
  · rw [← h1 bs.length (Nat.le_refl _)]
    unfold Go.Proofs.YtfhleelechbdmaaDoor.elems elemsTo
    obtain ⟨d, hd⟩ : ∃ d, bs.length = 64 * ws.length + d := ⟨_, (Nat.add_sub_cancel' hle).symm⟩
    rw [hd, List.range_add, List.filter_append, List.filter_map]
    have e : (List.range d).filter (inSet ws ∘ fun x => 64 * ws.length + x) = [] := by
      rw [List.filter_eq_nil_iff]
      intro x _
      show ¬ inSet ws (64 * ws.length + x) = true
      rw [inSet_out _ _ (by omega)]
      simp
    rw [e, List.map_nil, List.append_nil]
theorem Rel.zero (n k : Nat) : Rel (List.replicate k 0) (List.replicate n false) := fun i => by
  unfold inSet
  rw [List.getElem?_replicate, List.getElem?_replicate]
  split <;> split <;> simp
theorem Rel.put {ws : List Nat} {bs : List Bool} (h : Rel ws bs) (i : Nat) (hi : i < bs.length) (hw : i / 64 < ws.length) : Rel (putIn ws i) (bs.set i true) := fun j => by
  rw [inSet_putIn _ _ _ hw, h, List.getElem?_set]
  by_cases e : i = j
  · subst e; simp [hi]
  · rw [if_neg e, decide_eq_false (fun h => e h.symm), Bool.or_false]
theorem elems_len (ws : List Nat) : (elems ws).length = (ws.map pop).sum := by
  have : ∀ k, k ≤ ws.length → (elemsTo ws (64 * k)).length = ((ws.take k).map pop).sum := by
    intro k
    induction k with
    | zero => intro _; rfl
    | succ k ih =>
      intro hk
      have hlt : k < ws.length := by omega
      unfold elemsTo at ih ⊢
      rw [show 64 * (k + 1) = 64 * k + 64 by omega, List.range_add, List.filter_append, List.length_append, ih (by omega), List.take_add_one, List.getElem?_eq_getElem hlt, Option.toList_some, List.map_append, List.map_singleton, List.sum_append_nat, List.sum_singleton, List.filter_map, List.length_map]
      congr 1
      unfold pop
      congr 1
      refine List.filter_congr fun x hx => ?_
      rw [List.mem_range] at hx
      show inSet ws (64 * k + x) = _
      rw [inSet_at _ _ _ hx, List.getElem?_eq_getElem hlt]
      rfl
  have h := this ws.length (Nat.le_refl _)
  rw [List.take_length] at h
  exact h
def hasB (bs : List Bool) (x : Int) : Bool := decide (0 ≤ x) && (decide (x < bs.length) && bs[x.toNat]?.getD false)
def newB1 (bs : List Bool) (x : Int) : Bool := decide (0 ≤ x) && (decide (x < bs.length) && !bs[x.toNat]?.getD false)
def addB (bs : List Bool) (x : Int) : List Bool := if 0 ≤ x then bs.set x.toNat true else bs
theorem addB_len (bs : List Bool) (x : Int) : (addB bs x).length = bs.length := by unfold addB; split <;> simp
/-- What a set holds behind having been joined with numbers; was one of them new? -/
def orB (bs : List Bool) : List Nat → List Bool
  | [] => bs
  | x :: l => orB (addB bs x) l
def newB (bs : List Bool) : List Nat → Bool
  | [] => false
  | x :: l => newB (addB bs x) l || newB1 bs x
theorem orB_snoc (bs : List Bool) (l : List Nat) (x : Nat) : orB bs (l ++ [x]) = addB (orB bs l) x := by
  induction l generalizing bs with
  | nil => rfl
  | cons a l ih => exact ih _
theorem newB_snoc (bs : List Bool) (l : List Nat) (x : Nat) : newB bs (l ++ [x]) = (newB1 (orB bs l) x || newB bs l) := by
  induction l generalizing bs with
  | nil => simp [newB, orB]
  | cons a l ih =>
    show (newB (addB bs a) (l ++ [x]) || newB1 bs a) = _
    rw [ih]
    simp [newB, orB, Bool.or_assoc]
theorem orB_len (bs : List Bool) (l : List Nat) : (orB bs l).length = bs.length := by
  induction l generalizing bs with
  | nil => rfl
  | cons a l ih => rw [orB, ih, addB_len]
theorem addB_get (bs : List Bool) (x : Nat) (i : Nat) : (addB bs x)[i]?.getD false = (bs[i]?.getD false || (decide (i = x) && decide (i < bs.length))) := by
  unfold addB
  rw [if_pos (by omega), Int.toNat_natCast, List.getElem?_set]
  by_cases e : x = i
  · subst e
    by_cases h : x < bs.length
    · simp [h]
    · simp [h]
  · rw [if_neg e, decide_eq_false (fun h => e h.symm), Bool.false_and, Bool.or_false]
theorem orB_get (bs : List Bool) (l : List Nat) (i : Nat) : (orB bs l)[i]?.getD false = (bs[i]?.getD false || (l.contains i && decide (i < bs.length))) := by
  induction l generalizing bs with
  | nil => simp [orB]
  | cons a l ih =>
    rw [orB, ih, addB_get, addB_len, List.contains_cons, Bool.or_assoc]
    congr 1
    rw [show (i == a) = decide (i = a) from rfl, Bool.and_or_distrib_right]
theorem newB_some (bs : List Bool) (l : List Nat) : newB bs l = true ↔ ∃ x ∈ l, x < bs.length ∧ bs[x]?.getD false = false := by
  induction l generalizing bs with
  | nil => simp [newB]
  | cons a l ih =>
    rw [newB, Bool.or_eq_true, ih]
    constructor
    · rintro (⟨x, h1, h2, h3⟩ | h)
      · rw [addB_get] at h3
        rw [addB_len] at h2
        simp only [Bool.or_eq_false_iff] at h3
        exact ⟨x, by simp [h1], h2, h3.1⟩
      · simp only [newB1, Bool.and_eq_true, decide_eq_true_eq, Int.toNat_natCast, Bool.not_eq_true'] at h
        exact ⟨a, by simp, by omega, h.2.2⟩
    · rintro ⟨x, h1, h2, h3⟩
      by_cases e : x = a
      · right
        subst e
        simp only [newB1, Int.toNat_natCast, h3]
        simp [h2]
      · left
        rcases List.mem_cons.1 h1 with h1 | h1
        · exact absurd h1 e
        · exact ⟨x, h1, by rw [addB_len]; exact h2, by rw [addB_get, h3, decide_eq_false e]; rfl⟩
theorem trues_mem (bs : List Bool) (x : Nat) : x ∈ trues bs ↔ bs[x]?.getD false = true := by
  unfold trues
  rw [List.mem_filter, List.mem_range]
  constructor
  · exact fun h => h.2
  · intro h
    refine ⟨?_, h⟩
    rcases Nat.lt_or_ge x bs.length with hl | hl
    · exact hl
    · rw [List.getElem?_eq_none hl] at h
      cases h
theorem newB_self (bs : List Bool) : newB bs (trues bs) = false := by
  rcases h : newB bs (trues bs) with _ | _
  · rfl
  · obtain ⟨x, h1, _, h3⟩ := (newB_some _ _).1 h
    rw [(trues_mem _ _).1 h1] at h3
    cases h3
theorem addB_old (bs : List Bool) (x : Int) (h : newB1 bs x = false) : addB bs x = bs := by
  unfold addB
  split
  · rename_i h0
    refine List.ext_getElem (by simp) fun i h1 h2 => ?_
    rw [List.getElem_set]
    split
    · rename_i e
      simp only [newB1, decide_eq_true h0, Bool.true_and, Bool.and_eq_false_iff, decide_eq_false_iff_not, Bool.not_eq_false'] at h
      subst e
      rw [List.getElem?_eq_getElem h2] at h
      rcases h with h | h
      · omega
      · exact h.symm
    · rfl
  · rfl
theorem trues_lt (bs : List Bool) : ∀ x ∈ trues bs, x < bs.length := fun x h => by
  unfold trues at h
  exact List.mem_range.1 (List.mem_filter.1 h).1
theorem trues_len (bs : List Bool) : (trues bs).length ≤ bs.length := by
  have := List.length_filter_le (fun i => bs[i]?.getD false) (List.range bs.length)
  simpa [trues] using this
end Go.Proofs.YtfhleelechbdmaaDoor
