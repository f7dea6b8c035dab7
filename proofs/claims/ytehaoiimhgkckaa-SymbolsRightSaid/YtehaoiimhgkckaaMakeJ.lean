/-
  Package symbols: Make of no text: the fault.
-/
import Derived.Test.YtehaoiimhgkckaaMakeI
import Derived.Test.YtehaoiimhgkckaaMakeF
namespace Go.Proofs.Ytehaoiimhgkckaa
open Go.RowKit Go.MapKept Go.ChangeMaps
set_option maxHeartbeats 400000

set_option maxRecDepth 100000 in
set_option maxHeartbeats 2000000 in
theorem make_empty (w : World) : Calls Try.prog 22 #[.agg #[.slice none 0 0, .slice none 0 0]] w fun e w' => e = .returned (.tuple #[.agg #[.int .i64 0, .slice none 0 0, .slice none 0 0], .agg #[.int .i64 300, .int .i64 0]]) ∧ Below w.heap.size w w' := by
  have hmf : ∀ (fn : Fn) (first cap : Array Value) (w : World), (Instr.makeFunc fn first cap).run Try.prog w = .ok (.func fn first cap) w := fun _ _ _ _ => rfl
  have hmm := @run_makeMap Try.prog
  go_enter_defers Try.func22, Try.ntmps22
  go_upto_region 3 with fail
  refine wp_atW (F := fun W => Fr nothing w W ∧ W.heap[w.heap.size]? = some (.cells #[.slice none 0 0, .slice none 0 0] 47 (0, 0)) ∧ W.heap[w.heap.size + 1]? = some (.cells #[.int .i64 0, .slice none 0 0, .slice none 0 0] 39 (0, 0)) ∧ W.heap[w.heap.size + 1 + 1]? = some (.cells #[.int .i64 0, .int .i64 0] 51 (0, 0)) ∧
      W.heap[w.heap.size + 1 + 1 + 1 + 1 + 1]? = some (.cells #[.int .i64 0, .slice none 0 0, .slice none 0 0, .map (some (w.heap.size + 1 + 1 + 1)), .map (some (w.heap.size + 1 + 1 + 1 + 1)), .slice none 0 0, .int .i64 0, .string ⟨#[]⟩] 106 (0, 0))) ⟨?_, ?_, ?_, ?_, ?_⟩ ?_
  · exact (((((Fr.alloc _ _).trans (Fr.alloc _ _)).trans (Fr.alloc _ _)).trans (Fr.alloc _ _)).trans (Fr.alloc _ _)).trans (Fr.alloc _ _)
  · exact alloc_older (alloc_older (alloc_older (alloc_older (alloc_older (laid_at rfl)))))
  · exact alloc_older (alloc_older (alloc_older (alloc_older (laid_at (by simp)))))
  · exact alloc_older (alloc_older (alloc_older (laid_at (by simp))))
  · exact laid_at (by simp)
  rintro W ⟨hW, o0, o1, o2, om⟩
  have hx : w.heap.size ≠ w.heap.size + 1 ∧ w.heap.size < w.heap.size + 1 := by omega
  obtain ⟨gb, hgb⟩ : ∃ gb, gb = w.heap.size + 1 := ⟨_, rfl⟩
  rw [← hgb] at o1 o2 om ⊢
  obtain ⟨fb, hfb⟩ : ∃ fb, fb = gb + 1 := ⟨_, rfl⟩
  rw [← hfb] at o2 om ⊢
  obtain ⟨tb, htb⟩ : ∃ tb, tb = fb + 1 := ⟨_, rfl⟩
  rw [← htb] at om ⊢
  obtain ⟨rb, hrb⟩ : ∃ rb, rb = tb + 1 := ⟨_, rfl⟩
  rw [← hrb] at om ⊢
  obtain ⟨mb, hmb⟩ : ∃ mb, mb = rb + 1 := ⟨_, rfl⟩
  rw [← hmb] at om ⊢
  have hne : fb ≠ gb ∧ gb ≠ mb ∧ fb ≠ mb ∧ w.heap.size < gb ∧ w.heap.size < fb ∧ w.heap.size < mb := by omega
  have b0 : W.cell? ⟨w.heap.size, 0, none⟩ = some (.slice none 0 0) := obj_cell o0 0 rfl
  have b1 : W.cell? ⟨w.heap.size, 1, none⟩ = some (.slice none 0 0) := obj_cell o0 1 rfl
  have HE := Lib.hid (all_empty W mb _ (obj_cell om 1 rfl) (obj_frozen om 1))
  have HO := Lib.hid (And.intro hW (And.intro o1 o2))
  clear hW o0 o1 o2 om hgb hfb htb hrb hmb hx hmm
  go_wp2_with (go_at_call 48; refine HE.out.mono ?_; rintro e w2 ⟨rfl, hF⟩)
  have q1 := hF.obj HO.out.2.1 (fun e => hne.2.1 e)
  have q2 := hF.obj HO.out.2.2 (fun e => hne.2.2.1 e)
  refine leaves_cons (f := 47) (args := #[.pointer (some ⟨fb, 0, none⟩), .pointer (some ⟨gb, 0, none⟩)]) (by simp) (by simp [go_sem]) ?_
  refine (make1_panic fb gb 300 0 _ _ _ _ _ [] w2 (obj_cell q2 0 rfl) (obj_cell q2 1 rfl) (obj_cell q1 0 rfl) (obj_cell q1 1 rfl) (obj_cell q1 2 rfl) (obj_frozen q2 0) (obj_frozen q2 1) (obj_frozen q1 0) (obj_frozen q1 1) (obj_frozen q1 2) hne.1).mono ?_
  rintro e u' w3 ⟨rfl, rfl, rfl⟩
  have hne1 : ∀ (X : World) (i : Nat) (x : Value) {o : Obj}, X.heap[gb]? = some o → (X.setCell ⟨fb, i, none⟩ x).heap[gb]? = some o := fun X i x o h => (Fr.setCell X ⟨fb, i, none⟩ x).obj h fun e => hne.1 (show fb = gb from (show gb = fb from e).symm)
  have hne2 : ∀ (X : World) (i : Nat) (x : Value) {o : Obj}, X.heap[fb]? = some o → (X.setCell ⟨gb, i, none⟩ x).heap[fb]? = some o := fun X i x o h => (Fr.setCell X ⟨gb, i, none⟩ x).obj h fun e => hne.1 (show fb = gb from e)
  have a1 : (w2.setCell ⟨fb, 0, none⟩ (.int .i64 300)).heap[fb]? = some (.cells #[.int .i64 300, .int .i64 0] 51 (0, 0)) := by simpa using setCell_obj q2 (i := 0) (.int .i64 300)
  have a2 : ((w2.setCell ⟨fb, 0, none⟩ (.int .i64 300)).setCell ⟨fb, 1, none⟩ (.int .i64 0)).heap[fb]? = some (.cells #[.int .i64 300, .int .i64 0] 51 (0, 0)) := by simpa using setCell_obj a1 (i := 1) (.int .i64 0)
  have c2 := hne1 _ 1 (.int .i64 0) (hne1 _ 0 (.int .i64 300) q1)
  have k2 : Fr (fun g => w.heap.size ≤ g) w ((w2.setCell ⟨fb, 0, none⟩ (.int .i64 300)).setCell ⟨fb, 1, none⟩ (.int .i64 0)) := ((HO.out.1.wide.trans (hF.mono fun g _ e => by have e' : g = mb := e; omega)).trans ((Fr.setCell w2 ⟨fb, 0, none⟩ (.int .i64 300)).mono fun g _ e => by have e' : g = fb := e; omega)).trans ((Fr.setCell _ ⟨fb, 1, none⟩ (.int .i64 0)).mono fun g _ e => by have e' : g = fb := e; omega)
  generalize (w2.setCell ⟨fb, 0, none⟩ (.int .i64 300)).setCell ⟨fb, 1, none⟩ (.int .i64 0) = Y at *
  have c3 : (Y.setCell ⟨gb, 0, none⟩ (.int .i64 0)).heap[gb]? = some (.cells #[.int .i64 0, .slice none 0 0, .slice none 0 0] 39 (0, 0)) := by simpa using setCell_obj c2 (i := 0) (.int .i64 0)
  have c4 : ((Y.setCell ⟨gb, 0, none⟩ (.int .i64 0)).setCell ⟨gb, 1, none⟩ (.slice none 0 0)).heap[gb]? = some (.cells #[.int .i64 0, .slice none 0 0, .slice none 0 0] 39 (0, 0)) := by simpa using setCell_obj c3 (i := 1) (.slice none 0 0)
  have c5 : (((Y.setCell ⟨gb, 0, none⟩ (.int .i64 0)).setCell ⟨gb, 1, none⟩ (.slice none 0 0)).setCell ⟨gb, 2, none⟩ (.slice none 0 0)).heap[gb]? = some (.cells #[.int .i64 0, .slice none 0 0, .slice none 0 0] 39 (0, 0)) := by simpa using setCell_obj c4 (i := 2) (.slice none 0 0)
  have a5 := hne2 _ 2 (.slice none 0 0) (hne2 _ 1 (.slice none 0 0) (hne2 _ 0 (.int .i64 0) a2))
  have k5 : Fr (fun g => w.heap.size ≤ g) w (((Y.setCell ⟨gb, 0, none⟩ (.int .i64 0)).setCell ⟨gb, 1, none⟩ (.slice none 0 0)).setCell ⟨gb, 2, none⟩ (.slice none 0 0)) := ((k2.trans ((Fr.setCell Y ⟨gb, 0, none⟩ (.int .i64 0)).mono fun g _ e => by have e' : g = gb := e; omega)).trans ((Fr.setCell _ ⟨gb, 1, none⟩ (.slice none 0 0)).mono fun g _ e => by have e' : g = gb := e; omega)).trans ((Fr.setCell _ ⟨gb, 2, none⟩ (.slice none 0 0)).mono fun g _ e => by have e' : g = gb := e; omega)
  generalize ((Y.setCell ⟨gb, 0, none⟩ (.int .i64 0)).setCell ⟨gb, 1, none⟩ (.slice none 0 0)).setCell ⟨gb, 2, none⟩ (.slice none 0 0) = Z at *
  have r0 : Z.cell? ⟨gb, 0, none⟩ = some (.int .i64 0) := obj_cell c5 0 rfl
  have r1 : Z.cell? ⟨gb, 1, none⟩ = some (.slice none 0 0) := obj_cell c5 1 rfl
  have r2 : Z.cell? ⟨gb, 2, none⟩ = some (.slice none 0 0) := obj_cell c5 2 rfl
  have s0 : Z.cell? ⟨fb, 0, none⟩ = some (.int .i64 300) := obj_cell a5 0 rfl
  have s1 : Z.cell? ⟨fb, 1, none⟩ = some (.int .i64 0) := obj_cell a5 1 rfl
  have hBf : Below w.heap.size w Z := k5.below (Nat.le_refl _) fun g e => e
  simp [Leaves, settle, results, Try.results22, go_sem, r0, r1, r2, s0, s1, hBf]
end Go.Proofs.Ytehaoiimhgkckaa
