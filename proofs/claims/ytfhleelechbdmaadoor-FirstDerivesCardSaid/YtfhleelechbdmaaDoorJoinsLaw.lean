/-
  Plain facts: sets that join one another have what one of them has. They speak of no program.
-/
import Derived.Test.YtfhleelechbdmaaDoorBitsRel
namespace Go.Proofs.YtfhleelechbdmaaDoor

def pickN (n : Nat) (x : Int) : Nat := (x % (n : Int)).toNat
theorem pickN_lt (n : Nat) (x : Int) (h : 0 < n) : pickN n x < n := by
  unfold pickN
  have h1 := Int.emod_nonneg x (b := (n : Int)) (by omega)
  have h2 := Int.emod_lt_of_pos x (b := (n : Int)) (by omega)
  omega
theorem pickN_int (n : Nat) (x : Int) (h : 0 < n) : ((pickN n x : Nat) : Int) = x % (n : Int) := by
  unfold pickN
  have h1 := Int.emod_nonneg x (b := (n : Int)) (by omega)
  omega
def zeros (n : Nat) : List Bool := List.replicate n false
theorem zeros_get (n i : Nat) : (zeros n)[i]?.getD false = false := by
  unfold zeros
  rw [List.getElem?_replicate]
  split <;> rfl
theorem zeros_len (n : Nat) : (zeros n).length = n := List.length_replicate ..
theorem zeros_count (n : Nat) : (zeros n).countP id = 0 := by simp [zeros, List.countP_replicate]
/-- What a row of numbers makes of a set of 300. -/
def rowB (r : List Int) : List Bool := orB (zeros 300) (r.map (pickN 300))
theorem rowB_len (r : List Int) : (rowB r).length = 300 := by rw [rowB, orB_len, zeros_len]
theorem rowB_snoc (r : List Int) (x : Int) : rowB (r ++ [x]) = addB (rowB r) (pickN 300 x : Nat) := by rw [rowB, List.map_append, List.map_singleton, orB_snoc]; rfl
/-- What all rows have. -/
def isB (rows : List (List Int)) : List Bool := orB (zeros 300) (rows.flatten.map (pickN 300))
theorem isB_len (r : List (List Int)) : (isB r).length = 300 := by rw [isB, orB_len, zeros_len]
theorem isB_snoc (rows : List (List Int)) (r : List Int) (x : Int) : isB (rows ++ [r ++ [x]]) = (isB (rows ++ [r])).set (pickN 300 x) true := by
  have e : (rows ++ [r ++ [x]]).flatten.map (pickN 300) = (rows ++ [r]).flatten.map (pickN 300) ++ [pickN 300 x] := by simp
  rw [isB, e, orB_snoc, ← isB, addB, if_pos (by omega), Int.toNat_natCast]
theorem isB_nil (rows : List (List Int)) : isB (rows ++ [[]]) = isB rows := by simp [isB]

theorem rowB_get (r : List Int) (i : Nat) : (rowB r)[i]?.getD false = (r.map (pickN 300)).contains i := by
  rw [rowB, orB_get, zeros_get, Bool.false_or]
  rcases h : (r.map (pickN 300)).contains i with _ | _
  · rfl
  · obtain ⟨x, _, rfl⟩ := List.mem_map.1 (List.contains_iff_mem.1 h)
    rw [zeros_len, decide_eq_true (pickN_lt 300 x (by omega)), Bool.and_true]
theorem isB_get (rows : List (List Int)) (i : Nat) : (isB rows)[i]?.getD false = true ↔ ∃ r ∈ rows, (rowB r)[i]?.getD false = true := by
  have e : (isB rows)[i]?.getD false = (rowB rows.flatten)[i]?.getD false := rfl
  rw [e, rowB_get]
  constructor
  · intro h
    obtain ⟨x, hx, rfl⟩ := List.mem_map.1 (List.contains_iff_mem.1 h)
    obtain ⟨r, hr, hxr⟩ := List.mem_flatten.1 hx
    exact ⟨r, hr, by rw [rowB_get]; exact List.contains_iff_mem.2 (List.mem_map_of_mem hxr)⟩
  · rintro ⟨r, hr, h⟩
    rw [rowB_get] at h
    obtain ⟨x, hx, rfl⟩ := List.mem_map.1 (List.contains_iff_mem.1 h)
    exact List.contains_iff_mem.2 (List.mem_map_of_mem (List.mem_flatten.2 ⟨r, hr, hx⟩))
/-- The first has what the second has, or less. -/
def Sub (a b : List Bool) : Prop := ∀ i : Nat, a[i]?.getD false = true → b[i]?.getD false = true
theorem Sub.refl (a : List Bool) : Sub a a := fun _ h => h
theorem Sub.trans {a b c : List Bool} (h : Sub a b) (k : Sub b c) : Sub a c := fun i e => k i (h i e)
theorem sub_zeros (n : Nat) (a : List Bool) : Sub (zeros n) a := fun i h => by rw [zeros_get] at h; cases h
theorem join_get (a s : List Bool) (h : s.length ≤ a.length) (i : Nat) : (orB a (trues s))[i]?.getD false = (a[i]?.getD false || s[i]?.getD false) := by
  rw [orB_get]
  congr 1
  rcases e : s[i]?.getD false with _ | _
  · rw [show (trues s).contains i = false from ?_, Bool.false_and]
    rcases e2 : (trues s).contains i with _ | _
    · rfl
    · rw [(trues_mem _ _).1 (List.contains_iff_mem.1 e2)] at e; cases e
  · have hi := trues_lt s i ((trues_mem _ _).2 e)
    rw [show (trues s).contains i = true from List.contains_iff_mem.2 ((trues_mem _ _).2 e), decide_eq_true (by omega)]; rfl
theorem sub_join {a s c : List Bool} (h : s.length ≤ a.length) (ha : Sub a c) (hs : Sub s c) : Sub (orB a (trues s)) c := fun i e => by
  rw [join_get a s h] at e
  rcases Bool.or_eq_true_iff.1 e with e | e
  · exact ha i e
  · exact hs i e
theorem join_old {a s : List Bool} (h : s.length ≤ a.length) : Sub a (orB a (trues s)) := fun i e => by rw [join_get a s h, e]; rfl
theorem join_new {a s : List Bool} (h : s.length ≤ a.length) : Sub s (orB a (trues s)) := fun i e => by rw [join_get a s h, e, Bool.or_true]
theorem sub_eq {a b : List Bool} (hl : a.length = b.length) (h : Sub a b) (k : Sub b a) : a = b := by
  refine List.ext_getElem hl fun i h1 h2 => ?_
  have hi := h i
  have ki := k i
  rw [List.getElem?_eq_getElem h1, List.getElem?_eq_getElem h2] at hi ki
  simp only [Option.getD_some] at hi ki
  cases ha : a[i] <;> cases hb : b[i] <;> simp_all
theorem newB_sub {a s : List Bool} (h : Sub s a) : newB a (trues s) = false := by
  rcases e : newB a (trues s) with _ | _
  · rfl
  · obtain ⟨x, h1, _, h3⟩ := (newB_some _ _).1 e
    rw [h x ((trues_mem _ _).1 h1)] at h3
    cases h3
theorem rowB_sub {rows : List (List Int)} {r : List Int} (h : r ∈ rows) : Sub (rowB r) (isB rows) := fun i e => (isB_get rows i).2 ⟨r, h, e⟩
theorem isB_sub {rows : List (List Int)} {a : List Bool} (h : ∀ r ∈ rows, Sub (rowB r) a) : Sub (isB rows) a := fun i e => by
  obtain ⟨r, hr, e⟩ := (isB_get rows i).1 e
  exact h r hr i e
theorem trues_count (bs : List Bool) : (trues bs).length = bs.countP id := by
  have e : bs = (List.range bs.length).map fun i => bs[i]?.getD false := by
    refine List.ext_getElem (by simp) fun i h1 h2 => ?_
    simp [List.getElem?_eq_getElem h1]
  have h : (trues bs).length = (List.range bs.length).countP fun i => bs[i]?.getD false := by rw [trues, List.countP_eq_length_filter]
  rw [h]
  conv => rhs; rw [e, List.countP_map]
  rfl
theorem addB_count (bs : List Bool) (x : Nat) : (addB bs (x : Int)).countP id ≤ bs.countP id + 1 := by
  unfold addB
  rw [if_pos (by omega), Int.toNat_natCast]
  rcases Nat.lt_or_ge x bs.length with h | h
  · rw [List.countP_set h]
    simp only [id, if_true]
    omega
  · rw [List.set_eq_of_length_le h]; omega
theorem orB_count (l : List Nat) (bs : List Bool) : (orB bs l).countP id ≤ bs.countP id + l.length := by
  induction l generalizing bs with
  | nil => simp [orB]
  | cons a l ih =>
    have h1 := ih (addB bs a)
    have h2 := addB_count bs a
    rw [orB, List.length_cons]
    omega
theorem rowB_count (r : List Int) : (trues (rowB r)).length ≤ r.length := by
  rw [trues_count, rowB]
  have h := orB_count (r.map (pickN 300)) (zeros 300)
  rw [List.length_map] at h
  have h0 := zeros_count 300
  omega
/-- What is appended in a loop over all numbers. -/
def wantTo (bs : List Bool) (k : Nat) : List Nat := (List.range k).filter fun i => bs[i]?.getD false
theorem wantTo_succ (bs : List Bool) (k : Nat) : wantTo bs (k + 1) = if bs[k]?.getD false then wantTo bs k ++ [k] else wantTo bs k := by
  unfold wantTo
  rw [List.range_succ, List.filter_append]
  by_cases h : bs[k]?.getD false = true
  · rw [if_pos h]; simp [h]
  · rw [if_neg h]; simp [h]
theorem wantTo_all (bs : List Bool) : wantTo bs bs.length = trues bs := rfl
theorem wantTo_len (bs : List Bool) (k : Nat) : (wantTo bs k).length ≤ k := by
  have := List.length_filter_le (fun i => bs[i]?.getD false) (List.range k)
  simpa [wantTo] using this
end Go.Proofs.YtfhleelechbdmaaDoor
