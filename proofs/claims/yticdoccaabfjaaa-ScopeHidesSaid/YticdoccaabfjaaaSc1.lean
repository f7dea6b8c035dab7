/-
  Package scope: types as trees, in memory.
-/
import Derived.Test.YticdoccaabfjaaaFlat
import Derived.Test.YticdoccaabfjaaaMap2
namespace Go.Proofs.Yticdoccaabfjaaa
open Go.RowKit
set_option maxHeartbeats 400000

/-- A type of the program's. -/
inductive Ty where
  | mk (kind : Int) (name : ByteArray) (elem : List Ty)
def part : Value → Nat → Value
  | .agg cs, i => cs.getD i undef
  | _, _ => undef
def tyCells (v : Value) : List Value := [part v 0, part v 1, part v 2]
theorem tyCells_len (v : Value) : (tyCells v).length = 3 := rfl
theorem tyCells_agg (a b c : Value) : tyCells (.agg #[a, b, c]) = [a, b, c] := rfl
/-- v is that type; the blocks of the lists within it are of S. -/
inductive IsTy (w : World) (S : Nat → Prop) : Ty → Value → Prop
  | mk {k : Int} {n : ByteArray} {el : List Ty} {a : Option Addr} {cap b o : Nat} (vs : Nat → Value) (hk : 0 ≤ k ∧ k < 256) (hl : el.length * 48 ≤ 140737488351232) (hc : el.length ≤ cap) (hm : cap ≤ maxLen) (ha : el = [] ∨ (a = some ⟨b, o, none⟩ ∧ S b))
      (hcs : ∀ i, i < el.length → Cells w b (o + i * 3) (tyCells (vs i))) (hel : ∀ i (h : i < el.length), IsTy w S el[i] (vs i)) : IsTy w S (.mk k n el) (.agg #[.int .u8 k, .string n, .slice a el.length cap])
theorem IsTy.fr {w w' : World} {S S' ch : Nat → Prop} {t : Ty} {v : Value} (h : IsTy w S t v) (k : Fr ch w w') (hS : ∀ g, S g → ¬ ch g ∧ S' g) : IsTy w' S' t v := by
  induction h with
  | mk vs hk hl hc hm ha hcs hel ih =>
    refine .mk vs hk hl hc hm (ha.imp id fun ⟨e, s⟩ => ⟨e, (hS _ s).2⟩) (fun i hi => ?_) ih
    rcases ha with rfl | ⟨_, s⟩
    · simp at hi
    · exact (hcs i hi).fr k (hS _ s).1
theorem IsTy.parts {w : World} {S : Nat → Prop} {t : Ty} {v : Value} (h : IsTy w S t v) : ∃ k n a len cap, v = .agg #[.int .u8 k, .string n, .slice a len cap] ∧ 0 ≤ k ∧ k < 256 := by
  cases h with
  | mk vs hk hl hc hm ha hcs hel => exact ⟨_, _, _, _, _, rfl, hk⟩
/-- A type without parts. -/
def leaf (k : Int) : Ty := .mk k ⟨#[]⟩ []
theorem isTy_leaf (w : World) (S : Nat → Prop) (k : Int) (hk : 0 ≤ k ∧ k < 256) : IsTy w S (leaf k) (.agg #[.int .u8 k, .string ⟨#[]⟩, .slice none 0 0]) :=
  .mk (b := 0) (o := 0) (fun _ => undef) hk (by simp) (Nat.le_refl _) (by unfold maxLen; omega) (.inl rfl) (fun i hi => by simp at hi) fun i hi => by simp at hi
theorem tyCells_one {w : World} {S : Nat → Prop} {t : Ty} {v : Value} (h : IsTy w S t v) : ∀ u ∈ tyCells v, u.oneCell' = true := by
  obtain ⟨k, n, a, len, cap, rfl, _⟩ := h.parts
  intro u hu
  rw [tyCells_agg] at hu
  simp only [List.mem_cons, List.not_mem_nil, or_false] at hu
  rcases hu with rfl | rfl | rfl <;> rfl
def rowCells (rs : Nat → Value) (n : Nat) : List Value := (List.range n).flatMap fun i => tyCells (rs i)
theorem rowCells_zero (rs : Nat → Value) : rowCells rs 0 = [] := rfl
theorem rowCells_congr {rs rs' : Nat → Value} {n : Nat} (h : ∀ i, i < n → rs i = rs' i) : rowCells rs n = rowCells rs' n := by
  unfold rowCells
  rw [List.flatMap_def, List.flatMap_def]
  congr 1
  exact List.map_congr_left fun i hi => by rw [h i (by simpa using hi)]
theorem rowCells_snoc {rs rs' : Nat → Value} {n : Nat} {x : Value} (h : ∀ i, i < n → rs' i = rs i) (hx : rs' n = x) : rowCells rs' (n + 1) = rowCells rs n ++ tyCells x := by
  rw [← rowCells_congr h]
  unfold rowCells
  rw [List.range_succ, List.flatMap_append, List.flatMap_singleton, hx]
/-- v is that type, in lists of its own, all of S, no two of which are one. -/
inductive OwnTy (w : World) : (Nat → Prop) → Ty → Value → Prop
  | mk {S : Nat → Prop} {k : Int} {n : ByteArray} {el : List Ty} {a : Option Addr} {cap : Nat} (vs : Nat → Value) (Ss : Nat → Nat → Prop) (hk : 0 ≤ k ∧ k < 256) (hl : el.length * 48 ≤ 140737488351232)
      (hown : w.ownsRow 0 37 3 (.slice a el.length cap) el.length (rowCells vs el.length)) (hb : ∀ g, (Value.slice a el.length cap).ownBlock = some g → S g ∧ ∀ i, i < el.length → ¬ Ss i g)
      (hsub : ∀ i, i < el.length → ∀ g, Ss i g → S g) (hdis : ∀ i j, i < j → j < el.length → ∀ g, Ss i g → ¬ Ss j g) (hel : ∀ i (h : i < el.length), OwnTy w (Ss i) el[i] (vs i)) : OwnTy w S (.mk k n el) (.agg #[.int .u8 k, .string n, .slice a el.length cap])
theorem OwnTy.fr {w w' : World} {S S' ch : Nat → Prop} {t : Ty} {v : Value} (h : OwnTy w S t v) (k : Fr ch w w') (hS : ∀ g, S g → ¬ ch g ∧ S' g) : OwnTy w' S' t v := by
  induction h generalizing S' with
  | mk vs Ss hk hl hown hb hsub hdis hel ih =>
    refine .mk vs Ss hk hl (own_fr hown k fun g hg => (hS g (hb g hg).1).1) (fun g hg => ⟨(hS g (hb g hg).1).2, (hb g hg).2⟩) (fun i hi g hg => (hS g (hsub i hi g hg)).2) hdis fun i hi => ih i hi fun g hg => ⟨(hS g (hsub i hi g hg)).1, hg⟩
theorem OwnTy.new {w w' : World} {S : Nat → Prop} {t : Ty} {v : Value} (h : OwnTy w S t v) (k : Fr nothing w w') : OwnTy w' S t v := h.fr k fun _ s => ⟨fun e => e, s⟩
theorem OwnTy.wide {w : World} {S S' : Nat → Prop} {t : Ty} {v : Value} (h : OwnTy w S t v) (hS : ∀ g, S g → S' g) : OwnTy w S' t v := h.fr (Fr.refl nothing w) fun g s => ⟨fun e => e, hS g s⟩
theorem OwnTy.parts {w : World} {S : Nat → Prop} {t : Ty} {v : Value} (h : OwnTy w S t v) : ∃ k n a len cap, v = .agg #[.int .u8 k, .string n, .slice a len cap] ∧ 0 ≤ k ∧ k < 256 := by
  cases h with
  | mk vs Ss hk => exact ⟨_, _, _, _, _, rfl, hk⟩
theorem OwnTy.is {w : World} {S : Nat → Prop} {t : Ty} {v : Value} (h : OwnTy w S t v) : IsTy w S t v := by
  induction h with
  | @mk S k n el a cap vs Ss hk hl hown hb hsub hdis hel ih =>
    obtain ⟨a', cap', hv, h1, h2, h3⟩ := own_cells hown
    simp only [Value.slice.injEq] at hv
    obtain ⟨rfl, -, rfl⟩ := hv
    have hel' : ∀ i (h : i < el.length), IsTy w S el[i] (vs i) := fun i hi => (ih i hi).fr (Fr.refl nothing w) fun g hg => ⟨fun e => e, hsub i hi g hg⟩
    rcases h3 with h3 | ⟨g, rfl, _, hc⟩
    · have h0 : el = [] := by
        have := flat_len (fun i => tyCells (vs i)) 3 (fun _ => rfl) (List.range el.length)
        rw [show (List.range el.length).flatMap (fun i => tyCells (vs i)) = [] from h3] at this
        simp at this
        exact List.eq_nil_of_length_eq_zero (by omega)
      subst h0
      exact .mk (b := 0) (o := 0) vs hk hl h1 h2 (.inl rfl) (fun i hi => by simp at hi) hel'
    · refine .mk (b := g) (o := 0) vs hk hl h1 h2 (.inr ⟨rfl, (hb g rfl).1⟩) (fun i hi => ?_) hel'
      have := flat_cells (m := 3) (f := fun i => tyCells (vs i)) (fun _ => rfl) hc i (by simpa using hi)
      simpa using this
theorem Try.infoTy : (Try.prog.info? 37).map (fun i => (i.zero, i.size, i.bytes)) = some (some (.agg #[.int .u8 0, .string ⟨#[]⟩, .slice none 0 0]), 3, 48) := by kernel_rfl
end Go.Proofs.Yticdoccaabfjaaa
