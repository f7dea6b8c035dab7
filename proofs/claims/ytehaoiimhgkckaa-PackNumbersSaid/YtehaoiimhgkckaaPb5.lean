/-
  Chapter 24's statements: what the chapter's examples are packed from and into, in whatever order.
-/
import Derived.Test.YtehaoiimhgkckaaPb4
import Derived.Test.YtehaoiimhgkckaaAnyT
namespace Go.Proofs.Ytehaoiimhgkckaa
open Go.RowKit
set_option maxHeartbeats 400000

theorem PkO.fr {ch : Nat → Prop} {w w' : World} {dv bv cv nv gb gc gn : Value} (h : PkO w dv bv cv nv gb gc gn) (k : Fr ch w w') (hc : ∀ g, ch g → ∃ cs z, w.heap[g]? = some (.cells cs 25 z)) : PkO w' dv bv cv nv gb gc gn := by
  have key : ∀ {e size n : Nat} {v : Value} {xs : List Value}, w.ownsRow 0 e size v n xs → e ≠ 25 → w'.ownsRow 0 e size v n xs := fun ho hne => own_fr ho k fun g hg e => by
    obtain ⟨cs, z, hh⟩ := hc g e
    exact own_ne ho hh hne hg
  exact ⟨key h.dv (by decide), key h.bv (by decide), key h.cv (by decide), key h.nv (by decide), key h.gb (by decide), key h.gc (by decide), key h.gn (by decide)⟩
/-- The facts on what the operations of awake's second statement yield, as long as nothing is stored. -/
def RA (k : Nat) (v : Value) (w : World) : Prop := match k with
  | 0 => ∃ sa sc qa qc, v = .agg #[.int .i64 3, .slice sa 5 sc, .slice qa 3 qc] ∧ IsGram w v oneG
  | 1 => v = vR
  | 2 => v = vR
  | 3 => v = vZ
  | 4 => ∃ b, v = .slice (some ⟨b, 0, none⟩) 3 3 ∧ Cells w b 0 [.int .u8 2, .int .i64 1, .int .u8 2, .int .i64 1, .int .u8 0, .int .i64 0]
  | 5 => ∃ g b, v = .slice (some ⟨g, 0, none⟩) 1 1 ∧ w.cell? ⟨g, 0, none⟩ = some (.slice (some ⟨b, 0, none⟩) 3 3) ∧ Cells w b 0 [.int .u8 2, .int .i64 1, .int .u8 2, .int .i64 1, .int .u8 0, .int .i64 0]
  | 6 => ∃ b, v = .slice (some ⟨b, 0, none⟩) 2 2 ∧ Cells w b 0 [.int .i64 (-1), .int .i64 0]
  | 7 => ∃ g b, v = .slice (some ⟨g, 0, none⟩) 1 1 ∧ w.cell? ⟨g, 0, none⟩ = some (.slice (some ⟨b, 0, none⟩) 2 2) ∧ Cells w b 0 [.int .i64 (-1), .int .i64 0]
  | 8 => ∃ ga gg rb ib, v = .agg #[.slice (some ⟨ga, 0, none⟩) 1 1, .slice (some ⟨gg, 0, none⟩) 1 1] ∧ TabC w ga 1 gg 1 rb 3 ib 2
  | 9 => ∃ dv bv cv nv gb gc gn, v = .tuple #[.agg #[dv, bv, cv, nv, gb, gc, gn], .int .i64 0] ∧ PkO w dv bv cv nv gb gc gn
  | 10 => ∃ dv bv cv nv gb gc gn, v = .tuple #[.agg #[dv, bv, cv, nv, gb, gc, gn], .int .i64 0] ∧ PkO w dv bv cv nv gb gc gn
  | _ => True
theorem RA.fr {k : Nat} {v : Value} {w w' : World} (h : RA k v w) (f : Fr nothing w w') : RA k v w' := by
  unfold RA at h ⊢
  split at h
  · obtain ⟨sa, sc, qa, qc, h1, h2⟩ := h; exact ⟨sa, sc, qa, qc, h1, h2.fr f⟩
  · exact h
  · exact h
  · exact h
  · obtain ⟨b, h1, h2⟩ := h; exact ⟨b, h1, h2.fr f fun e => e⟩
  · obtain ⟨g, b, h1, h2, h3⟩ := h; exact ⟨g, b, h1, f.cell h2 fun e => e, h3.fr f fun e => e⟩
  · obtain ⟨b, h1, h2⟩ := h; exact ⟨b, h1, h2.fr f fun e => e⟩
  · obtain ⟨g, b, h1, h2, h3⟩ := h; exact ⟨g, b, h1, f.cell h2 fun e => e, h3.fr f fun e => e⟩
  · obtain ⟨ga, gg, rb, ib, h1, h2⟩ := h; exact ⟨ga, gg, rb, ib, h1, h2.fr (ca := 1) (cg := 1) f (fun e => e) (fun e => e) (fun e => e) (fun e => e)⟩
  · obtain ⟨dv, bv, cv, nv, gb, gc, gn, h1, h2⟩ := h; exact ⟨dv, bv, cv, nv, gb, gc, gn, h1, h2.fr f fun _ e => e.elim⟩
  · obtain ⟨dv, bv, cv, nv, gb, gc, gn, h1, h2⟩ := h; exact ⟨dv, bv, cv, nv, gb, gc, gn, h1, h2.fr f fun _ e => e.elim⟩
  · trivial
/-- What is extracted. -/
def RX (v : Value) (w : World) : Prop := ∃ dv bv cv nv gb gc gn, v = .agg #[dv, bv, cv, nv, gb, gc, gn] ∧ PkO w dv bv cv nv gb gc gn
/-- The invariant of awake's second statement. -/
structure InvA (w1 : World) (σ : Nat → Option Value) (w : World) : Prop where
  late : σ 14 = none ∨ ∀ k, k < 12 ∨ k = 13 → σ k ≠ none
  all : σ 14 = none → ∀ k v, σ k = some v → RA k v w
  p10 : ∀ v, σ 10 = some v → ∃ x, v = .tuple #[x, .int .i64 0]
  p11 : ∀ v, σ 11 = some v → RX v w
  p12 : ∀ v, σ 12 = some v → v = .int .i64 0
  p15 : ∀ v, σ 15 = some v → v = .int .i64 0
  p13 : ∀ v, σ 13 = some v → ∃ b, v = .pointer (some ⟨b, 0, none⟩) ∧ w1.heap.size ≤ b ∧ ((σ 14 = none ∧ w.heap[b]? = some (outO nilS nilS nilS nilS nilS nilS nilS)) ∨ (σ 14 ≠ none ∧ ∃ dv bv cv nv gb gc gn, σ 11 = some (.agg #[dv, bv, cv, nv, gb, gc, gn]) ∧ w.heap[b]? = some (outO dv bv cv nv gb gc gn)))
  old : Fr nothing w1 w
theorem updS_same (σ : Nat → Option Value) (j : Nat) (v : Value) : updS σ j v j = some v := if_pos rfl
theorem updS_other {σ : Nat → Option Value} {j k : Nat} {v : Value} (h : k ≠ j) : updS σ j v k = σ k := if_neg h
/-- A step that stores nothing. -/
theorem InvA.step {w1 : World} {σ : Nat → Option Value} {w w' : World} (h : InvA w1 σ w) (f : Fr nothing w w') (j : Nat) (v : Value) (hn : σ j = none) (h13 : j ≠ 13) (h14 : j ≠ 14) (hR : σ 14 = none → RA j v w') (h10 : j = 10 → ∃ x, v = .tuple #[x, .int .i64 0]) (h11 : j = 11 → RX v w') (h12 : j = 12 ∨ j = 15 → v = .int .i64 0) : InvA w1 (updS σ j v) w' := by
  have e14 : updS σ j v 14 = σ 14 := updS_other (fun e => h14 e.symm)
  have e13 : updS σ j v 13 = σ 13 := updS_other (fun e => h13 e.symm)
  have hl : updS σ j v 14 = none ∨ ∀ k, k < 12 ∨ k = 13 → updS σ j v k ≠ none := by
    rw [e14]
    refine h.late.imp id fun hk k hkk => ?_
    by_cases e : k = j
    · subst e
      exact absurd hn (hk k hkk)
    · rw [updS_other e]
      exact hk k hkk
  refine ⟨hl, fun h0 k u hk => ?_, fun u hu => ?_, fun u hu => ?_, fun u hu => ?_, fun u hu => ?_, fun u hu => ?_, h.old.trans f⟩
  · rw [e14] at h0
    by_cases e : k = j
    · subst e
      rw [updS_same] at hk
      obtain rfl := Option.some.inj hk
      exact hR h0
    · rw [updS_other e] at hk
      exact (h.all h0 k u hk).fr f
  · by_cases e : 10 = j
    · subst e
      rw [updS_same] at hu
      obtain rfl := Option.some.inj hu
      exact h10 rfl
    · rw [updS_other e] at hu
      exact h.p10 u hu
  · by_cases e : 11 = j
    · subst e
      rw [updS_same] at hu
      obtain rfl := Option.some.inj hu
      exact h11 rfl
    · rw [updS_other e] at hu
      obtain ⟨dv, bv, cv, nv, gb, gc, gn, h1, h2⟩ := h.p11 u hu
      exact ⟨dv, bv, cv, nv, gb, gc, gn, h1, h2.fr f fun _ e => e.elim⟩
  · by_cases e : 12 = j
    · subst e
      rw [updS_same] at hu
      obtain rfl := Option.some.inj hu
      exact h12 (.inl rfl)
    · rw [updS_other e] at hu
      exact h.p12 u hu
  · by_cases e : 15 = j
    · subst e
      rw [updS_same] at hu
      obtain rfl := Option.some.inj hu
      exact h12 (.inr rfl)
    · rw [updS_other e] at hu
      exact h.p15 u hu
  · rw [e13] at hu
    obtain ⟨b, h1, h2, h3⟩ := h.p13 u hu
    refine ⟨b, h1, h2, ?_⟩
    rw [e14]
    rcases h3 with ⟨h3, h4⟩ | ⟨h3, dv, bv, cv, nv, gb, gc, gn, h4, h5⟩
    · exact .inl ⟨h3, f.obj h4 fun e => e⟩
    · refine .inr ⟨h3, dv, bv, cv, nv, gb, gc, gn, ?_, f.obj h5 fun e => e⟩
      have : (11 : Nat) ≠ j := fun e => by subst e; rw [hn] at h4; cases h4
      rw [updS_other this]
      exact h4
end Go.Proofs.Ytehaoiimhgkckaa
