/-
  Chapter 06's statements: ScopeHides.
-/
import Derived.Test.YticdoccaabfjaaaSc22
import Derived.Deep.CutBlock
namespace Go.Proofs.Yticdoccaabfjaaa
open Go.RowKit Go.MapKept Go.ChangeMaps
set_option maxHeartbeats 400000

/-- A step that is handed in. -/
structure DoV where
  op : Int
  s : ByteArray
  t : Ty
def doCells (d : DoV) (tv : Value) : List Value := [.int .i64 d.op, .string d.s, part tv 0, part tv 1, part tv 2]
def IsDo (w : World) (n0 b o : Nat) (d : DoV) : Prop := (-9223372036854775808 ≤ d.op ∧ d.op ≤ 9223372036854775807) ∧ ∃ tv, IsTy w (fun g => g < n0) d.t tv ∧ Cells w b o (doCells d tv)
def IsDos (w : World) (n0 : Nat) (v : Value) (l : List DoV) : Prop :=
  l.length ≤ 17592186044416 ∧ ∃ a cap, v = .slice a l.length cap ∧ l.length ≤ cap ∧ cap ≤ maxLen ∧ (l = [] ∨ ∃ b o, a = some ⟨b, o, none⟩ ∧ ∀ i, (h : i < l.length) → IsDo w n0 b (o + i * 5) l[i])
/-- How much a scope holds. -/
def FitN (σ : List (List Nm)) (n : Nat) : Prop := σ.length ≤ n ∧ ∀ l ∈ σ, l.length ≤ n
theorem FitN.mono {σ : List (List Nm)} {n m : Nat} (h : FitN σ n) (hm : n ≤ m) : FitN σ m := ⟨Nat.le_trans h.1 hm, fun l hl => Nat.le_trans (h.2 l hl) hm⟩
theorem FitN.fit {σ : List (List Nm)} {n : Nat} (h : FitN σ n) (hn : n ≤ 1000000000000) : Fit σ := ⟨Nat.le_trans h.1 hn, fun l hl => Nat.le_trans (h.2 l hl) hn⟩
theorem fitN_snoc {σ : List (List Nm)} {l : List Nm} {n : Nat} (h1 : σ.length + 1 ≤ n) (h2 : ∀ l ∈ σ, l.length ≤ n) (h3 : l.length ≤ n) : FitN (σ ++ [l]) n :=
  ⟨by simpa using h1, fun x hx => by
    rcases List.mem_append.1 hx with hx | hx
    · exact h2 x hx
    · simp only [List.mem_singleton] at hx
      subst hx
      exact h3⟩
theorem useR_len (s : ByteArray) (n : Nat) : ∀ R : List (List Nm), (∀ l ∈ R, l.length ≤ n) → (useR s R).length = R.length ∧ ∀ l ∈ useR s R, l.length ≤ n
  | [], _ => ⟨rfl, fun l h => by simp [useR] at h⟩
  | l :: R, h => by
    obtain ⟨h1, h2⟩ := useR_len s n R fun x hx => h x (List.mem_cons_of_mem _ hx)
    unfold useR
    split
    · refine ⟨by simp, fun x hx => ?_⟩
      rcases List.mem_cons.1 hx with rfl | hx
      · simpa [useBlk] using h l (by simp)
      · exact h x (List.mem_cons_of_mem _ hx)
    · refine ⟨by simp [h1], fun x hx => ?_⟩
      rcases List.mem_cons.1 hx with rfl | hx
      · exact h x (by simp)
      · exact h2 x hx
theorem FitN.use {σ : List (List Nm)} {n : Nat} (h : FitN σ n) (s : ByteArray) : FitN (useS σ s) n := by
  obtain ⟨h1, h2⟩ := useR_len s n σ.reverse fun l hl => h.2 l (by simpa using hl)
  unfold useS
  exact ⟨by rw [List.length_reverse, h1, List.length_reverse]; exact h.1, fun l hl => h2 l (by simpa using hl)⟩
theorem FitN.step {σ : List (List Nm)} {n : Nat} (h : FitN σ n) (k : Nat) (s : ByteArray) (t : Ty) : FitN (doS σ k s t).1 (n + 1) := by
  have h' := h.mono (Nat.le_succ n)
  unfold doS
  split
  · exact fitN_snoc (by have := h.1; omega) h'.2 (by simp)
  · split
    · unfold closeS
      split
      · exact ⟨by simp, by simp⟩
      · exact ⟨by simp; have := h.1; omega, fun l hl => h'.2 l ((List.dropLast_sublist σ).subset hl)⟩
    · split
      · rcases List.eq_nil_or_concat σ with rfl | ⟨σ0, l, e⟩
        · exact h'
        · rw [List.concat_eq_append] at e
          subst e
          rw [declS_snoc]
          split
          · exact h'
          · refine fitN_snoc (by have := h'.1; simpa using this) (fun x hx => h'.2 x (List.mem_append_left _ hx)) ?_
            have := h.2 l (by simp)
            simp
            exact this
      · split
        · exact h'.use s
        · exact h'

/-- The scope at p, of so many names, stands in memory from n0 on; what lay below stands still. -/
def Held (w : World) (n0 p n : Nat) (wx : World) : Prop := (∃ σ F, Sc wx F p σ ∧ FitN σ n ∧ ∀ g, F g → n0 ≤ g) ∧ Below n0 w wx
theorem IsDos.get {w : World} {n0 : Nat} {a : Option Addr} {l : List DoV} (h : l = [] ∨ ∃ b o, a = some ⟨b, o, none⟩ ∧ ∀ i, (h : i < l.length) → IsDo w n0 b (o + i * 5) l[i]) {k : Nat} (hk : k < l.length) :
    ∃ b o ki n a' c' len, a = some ⟨b, o, none⟩ ∧ (-9223372036854775808 ≤ l[k].op ∧ l[k].op ≤ 9223372036854775807) ∧ IsTy w (fun g => g < n0) l[k].t (.agg #[.int .u8 ki, .string n, .slice a' len c']) ∧
      w.cell? ⟨b, o + k * 5, none⟩ = some (.int .i64 l[k].op) ∧ w.cell? ⟨b, o + k * 5 + 1, none⟩ = some (.string l[k].s) ∧ w.cell? ⟨b, o + k * 5 + 2, none⟩ = some (.int .u8 ki) ∧ w.cell? ⟨b, o + k * 5 + 3, none⟩ = some (.string n) ∧ w.cell? ⟨b, o + k * 5 + 4, none⟩ = some (.slice a' len c') := by
  rcases h with rfl | ⟨b, o, rfl, h⟩
  · simp at hk
  · obtain ⟨h1, tv, h2, h3⟩ := h k hk
    obtain ⟨ki, n, a', len, c', rfl, _⟩ := h2.parts
    exact ⟨b, o, ki, n, a', c', len, rfl, h1, h2, h3 0 (by simp [doCells]), h3 1 (by simp [doCells]), h3 2 (by simp [doCells]), h3 3 (by simp [doCells]), h3 4 (by simp [doCells])⟩

theorem Held.mono {w : World} {n0 p n m : Nat} {wx : World} (h : Held w n0 p n wx) (hm : n ≤ m) : Held w n0 p m wx := by
  obtain ⟨⟨σ, F, h1, h2, h3⟩, h4⟩ := h
  exact ⟨⟨σ, F, h1, h2.mono hm, h3⟩, h4⟩
theorem Held.new {w : World} {n0 p n : Nat} {wx w' : World} (h : Held w n0 p n wx) (k : Below wx.heap.size wx w') (hn : n0 ≤ w.heap.size) : Held w n0 p n w' := by
  obtain ⟨⟨σ, F, h1, h2, h3⟩, h4⟩ := h
  exact ⟨⟨σ, F, h1.new (Fr.new k), h2, h3⟩, h4.trans (k.mono (Nat.le_trans hn h4.size))⟩
theorem typesOf_at {w : World} {S : Nat → Prop} {t : Ty} {v : Value} (h : IsTy w S t v) (most : Int) : Calls Try.prog 15 #[v, .int .i64 most] w fun e w' => (∃ n : Int, e = .returned (.int .i64 n)) ∧ Below w.heap.size w w' := typesOf_any h w (Fr.refl _ _) most
/-- A step keeps a scope. -/
theorem held_do {w wr : World} {n0 p n : Nat} (hh : Held w n0 p n wr) (hn0 : n0 ≤ w.heap.size) (hn : n ≤ 1000) {op : Int} (hop : -9223372036854775808 ≤ op ∧ op ≤ 9223372036854775807) (s : ByteArray) {t : Ty} {k : Int} {l c : Nat} {nn : ByteArray} {a : Option Addr} (ht : IsTy wr (fun g => g < n0) t (.agg #[.int .u8 k, .string nn, .slice a l c])) :
    Calls Try.prog 16 #[.pointer (some ⟨p, 0, none⟩), .agg #[.int .i64 op, .string s, .int .u8 k, .string nn, .slice a l c]] wr fun e w' => (∃ z : Int, e = .returned (.int .i64 z)) ∧ Held w n0 p (n + 1) w' := by
  obtain ⟨⟨σ, F, hsc, hfit, hF⟩, hB⟩ := hh
  refine (do_any hsc (hfit.fit (by omega)) op hop s ht fun g hg e => by have := hF g e; omega).mono ?_
  rintro e w' ⟨he, hs, hf⟩
  refine ⟨⟨_, he⟩, ⟨_, _, hs, hfit.step _ _ _, fun g hg => ?_⟩, hB.trans (hf.below (Nat.le_trans hn0 hB.size) hF)⟩
  rcases hg with hg | hg
  · exact hF g hg
  · have := hB.size
    omega

end Go.Proofs.Yticdoccaabfjaaa
