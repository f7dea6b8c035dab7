/-
  Tables of truths in memory: a slice of rows, each in a block of its own.
-/
import Derived.Test.YtpnihegmhalcfaaRunG18
import Derived.Test.YtpnihegmhalcfaaRunG08
import Derived.Test.YtpnihegmhalcfaaRunG10
namespace Go.Proofs.Ytpnihegmhalcfaa
open Go.RowKit
set_option maxHeartbeats 400000

def rowV (m : Nat) (bs : List Nat) : List Value := bs.map fun b => Value.slice (some ⟨b, 0, none⟩) m m
/-- A table of truths, whose rows lie in the blocks bs. -/
structure TabM (w : World) (B : Nat) (v : Value) (m : Nat) (bs : List Nat) (A : List (List Bool)) : Prop where
  own : w.ownsRow B 118 1 v bs.length (rowV m bs)
  fits : fitsT bs.length m A
  row : ∀ i (h : i < bs.length), w.heap[bs[i]]? = some (boolsObj (A.getD i []))
  apart : bs.Nodup
  low : ∀ b ∈ bs, B ≤ b
theorem TabM.fr {ch : Nat → Prop} {w w' : World} {B : Nat} {v : Value} {m : Nat} {bs : List Nat} {A : List (List Bool)} (h : TabM w B v m bs A) (k : Fr ch w w') (hc : ∀ g, B ≤ g → ¬ ch g) : TabM w' B v m bs A :=
  ⟨own_fr h.own k fun g hg => hc g (ownObj h.own g hg).1, h.fits, fun i hi => k.obj (h.row i hi) (hc _ (h.low _ (List.getElem_mem hi))), h.apart, h.low⟩
theorem TabM.keep {w w' : World} {B : Nat} {v : Value} {m : Nat} {bs : List Nat} {A : List (List Bool)} (h : TabM w B v m bs A) (k : Fr nothing w w') : TabM w' B v m bs A := h.fr k fun _ _ => id
theorem TabM.off {ch : Nat → Prop} {w w' : World} {B : Nat} {v : Value} {m : Nat} {bs : List Nat} {A : List (List Bool)} (h : TabM w B v m bs A) (k : Fr ch w w') (h1 : ∀ g, v.ownBlock = some g → ¬ ch g) (h2 : ∀ b ∈ bs, ¬ ch b) : TabM w' B v m bs A :=
  ⟨own_fr h.own k h1, h.fits, fun i hi => k.obj (h.row i hi) (h2 _ (List.getElem_mem hi)), h.apart, h.low⟩
theorem TabM.lt {w : World} {B : Nat} {v : Value} {m : Nat} {bs : List Nat} {A : List (List Bool)} (h : TabM w B v m bs A) : (∀ g, v.ownBlock = some g → g < w.heap.size) ∧ ∀ b ∈ bs, b < w.heap.size := by
  refine ⟨fun g hg => ?_, fun b hb => ?_⟩
  · obtain ⟨_, cs, hc⟩ := ownObj h.own g hg
    exact (Array.getElem?_eq_some_iff.1 hc).1
  · obtain ⟨i, hi, rfl⟩ := List.getElem_of_mem hb
    exact (Array.getElem?_eq_some_iff.1 (h.row i hi)).1
theorem TabM.at {w : World} {B : Nat} {v : Value} {m : Nat} {bs : List Nat} {A : List (List Bool)} (h : TabM w B v m bs A) {i : Nat} (hi : i < bs.length) :
    ∃ g c, v = .slice (some ⟨g, 0, none⟩) bs.length c ∧ w.cell? ⟨g, i, none⟩ = some (.slice (some ⟨bs[i], 0, none⟩) m m) ∧ bs.length ≤ c ∧ c ≤ maxLen := by
  obtain ⟨a, c, hv, h1, h2, h3⟩ := own_as_cells h.own
  rcases h3 with h3 | ⟨g, rfl, -, hc⟩
  · have e : bs = [] := by simpa [rowV] using h3
    subst e
    simp at hi
  · refine ⟨g, c, hv, ?_, h1, h2⟩
    have := hc i (by simpa [rowV] using hi)
    simpa [rowV] using this
theorem TabM.bit {w : World} {B : Nat} {v : Value} {m : Nat} {bs : List Nat} {A : List (List Bool)} (h : TabM w B v m bs A) {i j : Nat} (hi : i < bs.length) (hj : j < m) : w.cell? ⟨bs[i], j, none⟩ = some (.bool (tt A i j)) := by
  have hl : j < (A.getD i []).length := by rw [h.fits.row hi]; exact hj
  have := bools_cell (h.row i hi) j hl
  rw [this]
  unfold tt
  rw [List.getD_eq_getElem?_getD (l := A.getD i []), List.getElem?_eq_getElem hl]
  rfl
theorem TabM.frozen {w : World} {B : Nat} {v : Value} {m : Nat} {bs : List Nat} {A : List (List Bool)} (h : TabM w B v m bs A) {i : Nat} (hi : i < bs.length) (j : Nat) : w.frozen? ⟨bs[i], j, none⟩ = false := obj_frozen (h.row i hi) j
theorem TabM.put {w : World} {B : Nat} {v : Value} {m : Nat} {bs : List Nat} {A : List (List Bool)} (h : TabM w B v m bs A) {i : Nat} (hi : i < bs.length) (j : Nat) : TabM (w.setCell ⟨bs[i], j, none⟩ (.bool true)) B v m bs (setT A i j) := by
  have hiA : i < A.length := by rw [h.fits.1]; exact hi
  refine ⟨own_fr h.own (Fr.setCell _ _ _) fun g hg e => ?_, h.fits.set hi j, fun k hk => ?_, h.apart, h.low⟩
  · have e' : g = bs[i] := e
    subst e'
    exact own_ne h.own (h.row i hi) (by decide) hg
  · by_cases e : i = k
    · subst e
      have := bools_set (h.row i hi) j true
      unfold setT
      rw [List.getD_eq_getElem?_getD (l := A.set _ _), List.getElem?_set_self hiA]
      exact this
    · have hne : bs[k] ≠ bs[i] := fun e' => e ((List.getElem_inj h.apart).1 e'.symm)
      unfold setT
      rw [List.getD_eq_getElem?_getD (l := A.set _ _), List.getElem?_set_ne e, ← List.getD_eq_getElem?_getD]
      exact (Fr.setCell w ⟨bs[i], j, none⟩ (.bool true)).obj (h.row k hk) hne
theorem TabM.nil (w : World) (B m : Nat) : TabM w B (.slice none 0 0) m [] [] := ⟨World.ownsRow_nil _ _ _ _, ⟨rfl, fun _ h => by cases h⟩, fun _ h => by simp at h, List.nodup_nil, fun _ h => by cases h⟩
/-- A row has been appended. -/
theorem TabM.snoc {w w' : World} {B : Nat} {v v' : Value} {m g : Nat} {bs : List Nat} {A : List (List Bool)} {r : List Bool} (h : TabM w B v m bs A) (hg : w.heap[g]? = some (boolsObj r)) (hr : r.length = m) (hB : B ≤ g) (hn : g ∉ bs)
    (hown : w'.ownsRow B 118 1 v' (bs.length + 1) (rowV m bs ++ [.slice (some ⟨g, 0, none⟩) m m])) (k : Fr (fun b => v.ownBlock = some b) w w') : TabM w' B v' m (bs ++ [g]) (A ++ [r]) := by
  have hb : ∀ b cs, w.heap[b]? = some (.cells cs 4 (0, 0)) → v.ownBlock ≠ some b := fun b cs hc => own_ne h.own hc (by decide)
  refine ⟨by simpa [rowV] using hown, ⟨by simp [h.fits.1], fun x hx => ?_⟩, fun i hi => ?_, ?_, fun b hb => ?_⟩
  · rcases List.mem_append.1 hx with hx | hx
    · exact h.fits.2 x hx
    · rw [List.mem_singleton.1 hx]; exact hr
  · simp only [List.length_append, List.length_singleton] at hi
    by_cases e : i < bs.length
    · rw [List.getElem_append_left e, List.getD_eq_getElem?_getD, List.getElem?_append_left (by rw [h.fits.1]; exact e), ← List.getD_eq_getElem?_getD]
      exact k.obj (h.row i e) (hb _ _ (h.row i e))
    · have : i = bs.length := by omega
      subst this
      rw [List.getElem_concat_length rfl, List.getD_eq_getElem?_getD, ← h.fits.1, List.getElem?_concat_length]
      exact k.obj hg (hb _ _ hg)
  · rw [List.nodup_append]
    refine ⟨h.apart, by simp, fun a ha b hb => ?_⟩
    rw [List.mem_singleton.1 hb]
    exact fun e => hn (e ▸ ha)
  · rcases List.mem_append.1 hb with hb | hb
    · exact h.low b hb
    · rw [List.mem_singleton.1 hb]; exact hB
/-- How many truths of a table in memory are out. -/
def outT (w : World) (bs : List Nat) : Nat := (bs.map (outW w)).sum
theorem TabM.out {w : World} {B : Nat} {v : Value} {m : Nat} {bs : List Nat} {A : List (List Bool)} (h : TabM w B v m bs A) : outT w bs = missT A := by
  unfold outT missT
  have : bs.map (outW w) = A.map fun r => r.count false := by
    refine List.ext_getElem (by simp [h.fits.1]) fun i h1 h2 => ?_
    rw [List.getElem_map, List.getElem_map]
    have hi : i < bs.length := by simpa using h1
    have hr := h.row i hi
    rw [List.getD_eq_getElem?_getD, List.getElem?_eq_getElem (by simpa using h2)] at hr
    exact outW_bools hr
  rw [this]
end Go.Proofs.Ytpnihegmhalcfaa
