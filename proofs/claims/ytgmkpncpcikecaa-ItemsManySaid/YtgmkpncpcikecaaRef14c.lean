/-
  The document's answer on symbols: is a grammar right? It is what package symbols says.
-/
import Derived.Test.YtgmkpncpcikecaaRef14b
namespace Go.Proofs.Ytgmkpncpcikecaa
open Go.RowKit
set_option maxHeartbeats 400000

/-- What is asked of each symbol, but for the two that are fixed. -/
def sym14 (terms : Int) (seen : List ByteArray) (i : Nat) (s : Sym) : Bool :=
  !(decide (s.name = nNone) || (hasName seen s.name || (!decide (s.type = nNone) && !typedG s.type))) &&
  (!(decide (s.level < 0) || (decide (3 < s.assoc) || (decide (s.level = 0) != decide (s.assoc = 0)))) &&
  !(decide (terms ≤ (i : Int)) && decide (0 < s.level)))
def endG (s : Sym) : Bool := decide (s.name = nEnd) && bareG s
def acceptG (s : Sym) : Bool := decide (s.name = nAccept) && bareG s
theorem symOk_split (terms : Int) (seen : List ByteArray) (i : Nat) (s : Sym) :
    symOk terms seen i s = (sym14 terms seen i s && ((!decide ((i : Int) = 0) || endG s) && (!decide ((i : Int) = terms) || acceptG s))) := by
  unfold symOk sym14 endG acceptG
  generalize bareG s = b1
  generalize decide (s.name = nNone) = b2
  generalize hasName seen s.name = b3
  generalize (!decide (s.type = nNone) && !typedG s.type) = b4
  generalize (decide (s.level < 0) || (decide (3 < s.assoc) || (decide (s.level = 0) != decide (s.assoc = 0)))) = b5
  generalize (decide (terms ≤ (i : Int)) && decide (0 < s.level)) = b6
  generalize decide ((i : Int) = 0) = b7
  generalize decide (s.name = nEnd) = b8
  generalize decide ((i : Int) = terms) = b9
  generalize decide (s.name = nAccept) = b10
  cases b1 <;> cases b2 <;> cases b3 <;> cases b4 <;> cases b5 <;> cases b6 <;> cases b7 <;> cases b8 <;> cases b9 <;> cases b10 <;> rfl

theorem first14_is {terms n : Int} (h : 1 ≤ terms) (p : Prd) : first14 terms n p = firstG terms n p := by
  unfold first14 firstG
  by_cases h1 : p.left = terms
  · by_cases h2 : p.right.length = 1
    · obtain ⟨x, hx⟩ := List.length_eq_one_iff.1 h2
      rw [hx]
      have e : rightSide terms n [x] = (decide (1 ≤ x) && (decide (x < n) && !decide (x = terms))) := by
        unfold rightSide rightRow
        simp only [List.all_cons, List.all_nil, Bool.and_true, List.length_singleton]
        by_cases c1 : x < 1 <;> by_cases c2 : n ≤ x <;> by_cases c3 : x = terms <;> simp [c1, c2, c3] <;> omega
      rw [e, show ([x] : List Int).headD 0 = x from rfl]
      by_cases c1 : terms < x
      · have c2 : 1 ≤ x := by omega
        have c3 : ¬ x = terms := by omega
        simp [h1, c1, c2, c3]
      · simp [c1]
    · simp [h2]
  · simp [h1]
theorem bad14_is {terms n : Int} (p : Prd) : (!bad14 terms n p && rightRow terms n p.right) = prodG terms n p := by
  unfold bad14 prodG rightSide
  have e : decide (10 < p.right.length) = !decide (p.right.length ≤ 10) := by
    by_cases h : p.right.length ≤ 10
    · simp [h]
    · have : 10 < p.right.length := by omega
      simp [h, this]
  rw [e]
  generalize decide (p.left ≤ terms) = b1
  generalize decide (n ≤ p.left) = b2
  generalize decide (p.right.length ≤ 10) = b3
  generalize (!decide (p.prec = -1) && (decide (p.prec < 1) || decide (terms ≤ p.prec))) = b4
  generalize decide (p.whr < 0) = b5
  generalize p.has = b6
  generalize decide (p.action = nNone) = b7
  generalize decide (p.whr = 0) = b8
  generalize rightRow terms n p.right = b9
  cases b1 <;> cases b2 <;> cases b3 <;> cases b4 <;> cases b5 <;> cases b6 <;> cases b7 <;> cases b8 <;> cases b9 <;> rfl

def prodAt (terms n : Int) (l : List Prd) (k : Nat) : Bool := match l[k]? with | some p => prod14 terms n (k : Int) p | none => true
def prods14 (terms n : Int) (l : List Prd) : Bool := (List.range l.length).all (prodAt terms n l)
def prodsTo (terms n : Int) (l : List Prd) (k : Nat) : Bool := (List.range k).all (prodAt terms n l)
theorem prodsTo_succ (terms n : Int) (l : List Prd) (k : Nat) (h : k < l.length) : prodsTo terms n l (k + 1) = (prodsTo terms n l k && prod14 terms n k l[k]) := by
  simp [prodsTo, List.range_succ, prodAt, List.getElem?_eq_getElem h]
theorem prods14_false (terms n : Int) (l : List Prd) (k : Nat) (h : k < l.length) (hf : prod14 terms n k l[k] = false) : prods14 terms n l = false := by
  cases e : prods14 terms n l
  · rfl
  · rw [prods14, List.all_eq_true] at e
    have := e k (List.mem_range.2 h)
    rw [prodAt, List.getElem?_eq_getElem h] at this
    have this' : prod14 terms n k l[k] = true := this
    rw [hf] at this'
    cases this'
theorem prods14_is {terms n : Int} (h : 1 ≤ terms) : ∀ (l : List Prd), 1 ≤ l.length → prods14 terms n l = prodsG terms n l
  | [], hl => by simp at hl
  | p :: r, _ => by
    unfold prods14 prodsG
    rw [List.length_cons, List.range_succ_eq_map, List.all_cons, List.all_map]
    have h1 : prodAt terms n (p :: r) 0 = firstG terms n p := by
      unfold prodAt
      simp only [List.getElem?_cons_zero]
      unfold prod14
      rw [if_pos (show ((0 : Nat) : Int) = 0 from rfl), first14_is h]
    have h2 : (List.range r.length).all (prodAt terms n (p :: r) ∘ Nat.succ) = r.all (prodG terms n) := by
      rw [Bool.eq_iff_iff, List.all_eq_true, List.all_eq_true]
      have h3 : ∀ k (hk : k < r.length), prodAt terms n (p :: r) (k + 1) = prodG terms n r[k] := fun k hk => by
        unfold prodAt
        rw [List.getElem?_cons_succ, List.getElem?_eq_getElem hk]
        simp only
        unfold prod14
        rw [if_neg (by omega), bad14_is]
      constructor
      · intro hh x hx
        obtain ⟨k, hk, rfl⟩ := List.mem_iff_getElem.1 hx
        rw [← h3 k hk]
        exact hh k (List.mem_range.2 hk)
      · intro hh k hk
        have hk' := List.mem_range.1 hk
        show prodAt terms n (p :: r) (k + 1) = true
        rw [h3 k hk']
        exact hh _ (List.getElem_mem hk')
    rw [h1, h2]

def sym14At (terms : Int) (l : List Sym) (j : Nat) : Bool := match l[j]? with | some s => sym14 terms (namesTo l j) j s | none => true
def syms14To (terms : Int) (l : List Sym) (k : Nat) : Bool := (List.range k).all (sym14At terms l)
theorem syms14To_succ (terms : Int) (l : List Sym) (k : Nat) (h : k < l.length) : syms14To terms l (k + 1) = (syms14To terms l k && sym14 terms (namesTo l k) k l[k]) := by
  simp [syms14To, List.range_succ, sym14At, List.getElem?_eq_getElem h]
theorem sym14_false {terms : Int} {l : List Sym} {k : Nat} (h : k < l.length) (hf : sym14 terms (namesTo l k) k l[k] = false) : symsG terms l = false :=
  symsG_false terms l k h (by rw [symOk_split, hf]; rfl)
theorem end_false {terms : Int} {l : List Sym} (h : 0 < l.length) (hf : endG l[0] = false) : symsG terms l = false :=
  symsG_false terms l 0 h (by rw [symOk_split, hf]; simp)
theorem accept_false {terms : Int} {l : List Sym} {t : Nat} (ht : terms = (t : Int)) (h : t < l.length) (hf : acceptG l[t] = false) : symsG terms l = false :=
  symsG_false terms l t h (by rw [symOk_split, hf]; simp [ht])
theorem syms14_true {terms : Int} {l : List Sym} {t : Nat} (ht : terms = (t : Int)) (h0 : 0 < l.length) (h : t < l.length) (ha : syms14To terms l l.length = true) (he : endG l[0] = true) (hc : acceptG l[t] = true) : symsG terms l = true := by
  rw [symsG, List.all_eq_true]
  intro k hk
  have hk' := List.mem_range.1 hk
  rw [syms14To, List.all_eq_true] at ha
  have h1 := ha k hk
  rw [sym14At, List.getElem?_eq_getElem hk'] at h1
  simp only at h1
  rw [symAtOk, List.getElem?_eq_getElem hk']
  simp only
  rw [symOk_split, h1]
  by_cases c0 : k = 0
  · subst c0
    by_cases c1 : t = 0
    · subst c1
      simp [he, hc]
    · have : ¬ (0 : Int) = terms := by omega
      simp [he, this]
  · by_cases c1 : k = t
    · subst c1
      simp [c0, hc]
    · have : ¬ (k : Int) = terms := by omega
      simp [c0, this]
end Go.Proofs.Ytgmkpncpcikecaa
