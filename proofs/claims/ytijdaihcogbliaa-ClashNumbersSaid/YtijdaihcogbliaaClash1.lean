/-
  Package clash: entries; who is first; the level of a symbol.
-/
import Derived.Test.YtijdaihcogbliaaGram
namespace Go.Proofs.Ytijdaihcogbliaa
open Go.RowKit
set_option maxHeartbeats 400000

/-- An entry of a table. -/
structure Ent where
  kind : Int
  to : Int
def entVal (a : Ent) : Value := .agg #[.int .u8 a.kind, .int .i64 a.to]
structure EntOk (a : Ent) : Prop where
  kind : 0 ≤ a.kind ∧ a.kind ≤ 255
  to : i64 a.to

def firstE (a b : Ent) : Bool := decide (a.kind = 3) || (decide (b.kind = 2) && decide (a.to ≤ b.to))
set_option maxRecDepth 100000 in
theorem firstE_any (a b : Ent) (w : World) :
    Calls Try.prog 35 #[entVal a, entVal b] w fun e w' => e = .returned (.bool (firstE a b)) ∧ Below w.heap.size w w' := by
  obtain ⟨ak, at_⟩ := a
  obtain ⟨bk, bt⟩ := b
  unfold entVal firstE
  have hw1 := two_boxes w (.cells #[.int .u8 ak, .int .i64 at_] 28 (0, 0)) (.cells #[.int .u8 bk, .int .i64 bt] 28 (0, 0))
  have HB := Lib.hid hw1.2.2
  clear hw1
  generalize e1 : decide (ak = 3) = B1
  generalize e2 : decide (bk = 2) = B2
  generalize e3 : decide (at_ ≤ bt) = B3
  have t1 : (ak == 3) = B1 := by rw [← e1]; rfl
  have t2 : (bk == 2) = B2 := by rw [← e2]; rfl
  clear e1 e2
  cases B1 <;> cases B2 <;> cases B3
  all_goals
    go_enter Try.func35, Try.ntmps35
    go_wp2
    go_ret
    exact ⟨rfl, HB.out⟩

def binds : List Int := [2, 1, 0, 2]
theorem binds_any (w : World) : Calls Try.prog 65 #[] w fun e w' => e = .returned (.agg #[.int .i64 2, .int .i64 1, .int .i64 0, .int .i64 2]) ∧ Below w.heap.size w w' := by
  go_enter Try.func65, Try.ntmps65
  go_wp2
  go_returns
  exact ⟨rfl, (Below.refl _ _).alloc (Nat.le_refl _) _⟩

theorem IsSyms.get {w : World} {b : Option Addr} {n cap : Nat} {l : List Sym} (h : IsSyms w (.slice b n cap) l) (k : Nat) (hk : k < l.length) :
    ∃ g o, b = some ⟨g, o, none⟩ ∧ SymOk l[k] ∧ Cells w g (o + k * 4) (symCells l[k]) := by
  obtain ⟨h1, a, c, hv, hc, hm, hx⟩ := h
  simp only [Value.slice.injEq] at hv
  obtain ⟨rfl, rfl, rfl⟩ := hv
  rcases hx with rfl | ⟨g, o, rfl, hx⟩
  · simp at hk
  · exact ⟨g, o, rfl, (hx k hk).1, (hx k hk).2⟩
/-- A symbol's level; 0: none. -/
def levelE (G : Gram) (s : Int) : Int := if s < 0 then 0 else match G.syms[s.toNat]? with | some x => x.level | none => 0
theorem levelE_any (terms term : Int) (vs vp : Value) (l : List Sym) (pl : List Prd) (w : World) (h : IsSyms w vs l) (s : Int) (hs : s < (l.length : Int)) :
    Calls Try.prog 64 #[.agg #[.int .i64 terms, vs, vp, .int .i64 term], .int .i64 s] w fun e w' => e = .returned (.int .i64 (levelE ⟨terms, l, pl⟩ s)) ∧ Below w.heap.size w w' := by
  obtain ⟨hlen, b, c, rfl, _, _, _⟩ := id h
  by_cases h0 : s < 0
  · have e : levelE ⟨terms, l, pl⟩ s = 0 := by simp [levelE, h0]
    rw [e]
    clear e
    go_enter Try.func64, Try.ntmps64
    go_wp2
    go_ret
    exact ⟨rfl, (Below.refl _ _).alloc (Nat.le_refl _) _⟩
  · obtain ⟨k, rfl⟩ : ∃ k : Nat, s = (k : Int) := ⟨s.toNat, by omega⟩
    have hk : k < l.length := by omega
    obtain ⟨g, o, rfl, ok, hc⟩ := h.get k hk
    have e : levelE ⟨terms, l, pl⟩ (k : Int) = l[k].level := by simp [levelE, h0, List.getElem?_eq_getElem hk]
    rw [e]
    clear e
    have c2 := (Fr.alloc (ch := nothing) w (.cells #[.int .i64 terms, .slice (some ⟨g, o, none⟩) l.length c, vp, .int .i64 term] 73 (0, 0))).cell (hc 2 (by simp [symCells])) fun e => e
    simp only [symCells, List.getElem_cons_zero, List.getElem_cons_succ] at c2
    generalize l[k].level = x at *
    clear hc ok
    go_enter Try.func64, Try.ntmps64
    go_wp2
    go_ret
    exact ⟨rfl, (Below.refl _ _).alloc (Nat.le_refl _) _⟩
end Go.Proofs.Ytijdaihcogbliaa
