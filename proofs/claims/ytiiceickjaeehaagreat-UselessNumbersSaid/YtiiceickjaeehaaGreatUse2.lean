/-
  Package useless: one step of a spread.
-/
import Derived.Test.YtiiceickjaeehaaGreatUse1
namespace Go.Proofs.YtiiceickjaeehaaGreat
open Go.RowKit
set_option maxHeartbeats 400000

theorem run_makeFunc_ (P : Program) (fn : Fn) (first cap : Array Value) (w : World) : (Instr.makeFunc fn first cap).run P w = .ok (.func fn first cap) w := rfl
/-- A variable of type []bool that holds a row of truths. -/
def boxB (b n : Nat) : Obj := .cells #[.slice (some ⟨b, 0, none⟩) n n] 29 (0, 0)
def mkStep (p : Prd) (L : List Bool) : Bool × List Bool :=
  let c := !L.getD p.left.toNat false && allE L p.right
  (c, L.set p.left.toNat (L.getD p.left.toNat false || c))
/-- Numbers of a production that fit a row of truths. -/
def InN (n : Nat) (p : Prd) : Prop := (0 ≤ p.left ∧ p.left < n) ∧ ∀ x ∈ p.right, 0 ≤ x ∧ x < (n : Int)

set_option maxRecDepth 100000 in
theorem mkStep_any (L : List Bool) (p : Prd) (b s : Nat) (v : Value) (w : World) (hs : w.heap[s]? = some (boxB b L.length)) (hb : w.heap[b]? = some (boolsObj L)) (hv : IsPrd w v p) (hin : InN L.length p) :
    Calls Tryz.prog 42 #[v, .pointer (some ⟨s, 0, none⟩)] w fun e w' => e = .returned (.bool (mkStep p L).1) ∧ w'.heap[b]? = some (boolsObj (mkStep p L).2) ∧ Fr (only b) w w' := by
  obtain ⟨_, r, hr, rfl⟩ := hv
  obtain ⟨⟨hl0, hl1⟩, hR⟩ := hin
  obtain ⟨left, right, prec, has, action, whr⟩ := p
  simp only at hr hl0 hl1 hR
  obtain ⟨l, rfl⟩ : ∃ n : Nat, left = (n : Int) := ⟨left.toNat, by omega⟩
  have hll : l < L.length := by omega
  unfold prdVal
  generalize hO : Obj.cells #[.int .i64 l, r, .int .i64 prec, .bool has, .string action, .int .i64 whr] 44 (0, 0) = ob
  have HA := Lib.hid (all_any L right b r (w.alloc ob) (alloc_older hb) (hr.fr (Fr.alloc _ _)) hR)
  have c0 := obj_cell (alloc_older (o := ob) hs) 0 rfl
  have cb := bools_cell (alloc_older (o := ob) hb) l hll
  have hF := Lib.hid (obj_frozen (alloc_older (o := ob) hb) l)
  have HB := Lib.hid (alloc_older (o := ob) hb)
  have HS : Hid (mkStep ⟨l, right, prec, has, action, whr⟩ L = (!L[l] && allE L right, L.set l (L[l] || (!L[l] && allE L right)))) := Lib.hid (by simp [mkStep, hll])
  rw [HS.out]
  clear HS hs hb hr hR hl0 hl1
  have fb := hF.out
  subst hO
  generalize allE L right = d at *
  generalize hc : L[l] = c at *
  clear hF hc
  cases c
  · cases d
    all_goals
      go_enter Tryz.func42, Tryz.ntmps42
      go_wp2_with (go_at_call 26; refine HA.out.mono ?_; rintro e w' ⟨rfl, rfl⟩)
      go_region
      all_goals (try go_wp2)
      go_ret
      exact ⟨rfl, bools_set HB.out _ _, (Fr.alloc _ _).trans ((Fr.setCell _ ⟨b, l, none⟩ _).trans (Fr.drew _))⟩
  · clear HA
    go_enter Tryz.func42, Tryz.ntmps42
    go_wp2
    go_region
    all_goals (try go_wp2)
    go_ret
    exact ⟨rfl, bools_set HB.out _ _, (Fr.alloc _ _).trans ((Fr.setCell _ ⟨b, l, none⟩ _).trans (Fr.drew _))⟩

/-- What Find's test takes: whether all of a production are among some. -/
theorem may_all_any (M : List Bool) (p : Prd) (b s : Nat) (v : Value) (w : World) (hs : w.heap[s]? = some (boxB b M.length)) (hb : w.heap[b]? = some (boolsObj M)) (hv : IsPrd w v p) (hin : InN M.length p) :
    Calls Tryz.prog 25 #[v, .pointer (some ⟨s, 0, none⟩)] w fun e w' => e = .returned (.bool (allE M p.right)) ∧ Below w.heap.size w w' := by
  obtain ⟨_, r, hr, rfl⟩ := hv
  obtain ⟨_, hR⟩ := hin
  obtain ⟨left, right, prec, has, action, whr⟩ := p
  simp only at hr hR
  unfold prdVal
  generalize hO : Obj.cells #[.int .i64 left, r, .int .i64 prec, .bool has, .string action, .int .i64 whr] 44 (0, 0) = ob
  have HA := Lib.hid (all_any M right b r (w.alloc ob) (alloc_older hb) (hr.fr (Fr.alloc _ _)) hR)
  have c0 := obj_cell (alloc_older (o := ob) hs) 0 rfl
  subst hO
  clear hs hb hr hR
  go_enter Tryz.func25, Tryz.ntmps25
  go_wp2_with (go_at_call 26; refine HA.out.mono ?_; rintro e w' ⟨rfl, rfl⟩)
  go_ret
  exact ⟨rfl, (Below.refl _ w).alloc (Nat.le_refl _) _⟩
theorem may_true_any (p : Prd) (v : Value) (w : World) (hv : IsPrd w v p) :
    Calls Tryz.prog 24 #[v] w fun e w' => e = .returned (.bool true) ∧ Below w.heap.size w w' := by
  obtain ⟨_, r, hr, rfl⟩ := hv
  unfold prdVal
  go_enter Tryz.func24, Tryz.ntmps24
  go_wp2
  go_ret
  exact ⟨rfl, (Below.refl _ w).alloc (Nat.le_refl _) _⟩
end Go.Proofs.YtiiceickjaeehaaGreat
