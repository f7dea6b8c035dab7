/-
  Package symbols: what Make defers.
-/
import Derived.Test.YtehaoiimhgkckaaMake6
import Derived.Defers
import Derived.Recover
import Derived.Laws.Pointers
namespace Go.Proofs.Ytehaoiimhgkckaa
open Go.RowKit Go.MapKept Go.ChangeMaps
set_option maxHeartbeats 400000

theorem make1_idle (p q : Addr) (w : World) :
    CallsD Try.prog 47 #[.pointer (some p), .pointer (some q)] .returning w fun e u' w' => e = .returned (.tuple #[]) ∧ u' = .returning ∧ w' = w := by
  refine callsD_of_wpS Try.func47 rfl fun c₀ cs hu => ?_
  apply wpS_seq
  apply wpS_region
  simp [wpOpsS, go_sem, recoverD, hu, Try.ntmps47, Exit.thenS]
  apply wpS_seq
  apply wpS_region
  simp [wpOpsS, go_sem, Exit.thenS]
  refine wpS_cond (t := false) (by simp [Act.eval, Array.replicate]) ?_
  simp only [Bool.false_eq_true, if_false]
  refine wpS_of_wp (wp_skip ?_)
  cases c₀
  simp_all [bodyPostS, results, Try.results47]

theorem run_assert_fault (v : Value) (xT : TypeId) (w : World) : (Instr.typeAssert (.iface 51 v) xT 51 true).run Try.prog w = .ok (.tuple #[v, .bool true]) w := by
  simp [Instr.typeAssert, Sem.run_bind, run_underlying Try.underlying51, Result.andThen, Sem.run_pure]
theorem make1_panic (b1 b2 : Nat) (k at_ : Int) (a0 a1 c0 c1 c2 : Value) (older : List PanicEntry) (w : World) (h0 : w.cell? ⟨b1, 0, none⟩ = some a0) (h1 : w.cell? ⟨b1, 1, none⟩ = some a1) (g0 : w.cell? ⟨b2, 0, none⟩ = some c0) (g1 : w.cell? ⟨b2, 1, none⟩ = some c1) (g2 : w.cell? ⟨b2, 2, none⟩ = some c2)
    (f0 : w.frozen? ⟨b1, 0, none⟩ = false) (f1 : w.frozen? ⟨b1, 1, none⟩ = false) (z0 : w.frozen? ⟨b2, 0, none⟩ = false) (z1 : w.frozen? ⟨b2, 1, none⟩ = false) (z2 : w.frozen? ⟨b2, 2, none⟩ = false) (hne : b1 ≠ b2) :
    CallsD Try.prog 47 #[.pointer (some ⟨b1, 0, none⟩), .pointer (some ⟨b2, 0, none⟩)] (.panicking ({ v := faultV k at_, recovered := false } :: older)) w fun e u' w' =>
      e = .returned (.tuple #[]) ∧ u' = .panicking ({ v := faultV k at_, recovered := true } :: older) ∧
        w' = ((((w.setCell ⟨b1, 0, none⟩ (.int .i64 k)).setCell ⟨b1, 1, none⟩ (.int .i64 at_)).setCell ⟨b2, 0, none⟩ (.int .i64 0)).setCell ⟨b2, 1, none⟩ (.slice none 0 0)).setCell ⟨b2, 2, none⟩ (.slice none 0 0) := by
  unfold faultV
  refine callsD_of_wpS Try.func47 rfl fun c₀ cs hu => ?_
  apply wpS_seq
  apply wpS_region
  simp [wpOpsS, go_sem, recoverD, hu, Try.ntmps47, Exit.thenS]
  apply wpS_seq
  apply wpS_region
  simp [wpOpsS, go_sem, Exit.thenS]
  refine wpS_cond (t := true) (by simp [Act.eval, Array.replicate]) ?_
  simp only [if_true]
  apply wpS_seq
  apply wpS_region
  simp [wpOpsS, go_sem, Exit.thenS]
  apply wpS_seq
  apply wpS_seq
  apply wpS_region
  simp [wpOpsS, go_sem, Exit.thenS, h0, h1, f0, f1, run_assert_fault]
  apply wpS_seq
  apply wpS_region
  simp [wpOpsS, go_sem, Exit.thenS]
  refine wpS_cond (t := false) (by simp [Act.eval, Array.replicate]) ?_
  simp only [Bool.false_eq_true, if_false]
  refine wpS_of_wp (wp_skip ?_)
  simp only [Exit.thenS]
  apply wpS_region
  simp [wpOpsS, go_sem, g0, g1, g2, z0, z1, z2, bodyPostS, results, Try.results47]
end Go.Proofs.Ytehaoiimhgkckaa
