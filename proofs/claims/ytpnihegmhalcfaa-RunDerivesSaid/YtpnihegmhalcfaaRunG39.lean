/-
  Chapter 25's statements: the example is as it must be.
-/
import Derived.Test.YtpnihegmhalcfaaRunG36
import Derived.Test.YtpnihegmhalcfaaRunG34
import Derived.Test.YtpnihegmhalcfaaRunG38
import Derived.Test.YtpnihegmhalcfaaRunG01
import Derived.Test.YtpnihegmhalcfaaRunG03
namespace Go.Proofs.Ytpnihegmhalcfaa
open Go.RowKit Go.MapKept Go.ChangeMaps
set_option maxHeartbeats 400000

theorem tA_p : (treeOf 0 stA).p = 1 := by kernel_rfl
theorem tA_kids : (treeOf 0 stA).kids.len = 2 := by kernel_rfl
theorem tA_kid : ((treeOf 0 stA).kids.get 1).p = 1 := by kernel_rfl
theorem ex_made : madeG exG = some exT := by
  unfold madeG
  rw [if_pos ex_right, ex_col]
  simp only
  rw [if_pos ex_used]
  rfl
theorem updZ_same (σ : Nat → Option Value) (j : Nat) (v : Value) : updS σ j v j = some v := if_pos rfl
theorem updZ_other {σ : Nat → Option Value} {j k : Nat} {v : Value} (h : k ≠ j) : updS σ j v k = σ k := if_neg h
/-- Blocks other than the one that the result is put into. -/
def OffP (σ : Nat → Option Value) (c : Nat) : Prop := ∀ b, σ 8 = some (.pointer (some ⟨b, 0, none⟩)) → c ≠ b
def TreeV (w : World) (P : Nat → Prop) (v : Value) (t : Tr) : Prop := ∃ kv, v = .agg #[.int .i64 t.p, .int .i64 t.a, kv] ∧ KidsV w P t.kids kv
theorem TreeV.fr {ch P Q : Nat → Prop} {w w' : World} {v : Value} {t : Tr} (h : TreeV w P v t) (k : Fr ch w w') (hP : ∀ b, b < w.heap.size → P b → ¬ ch b) (hQ : ∀ b, b < w.heap.size → P b → Q b) : TreeV w' Q v t := by
  obtain ⟨kv, e, h⟩ := h
  exact ⟨kv, e, h.fr k hP hQ⟩
/-- What is known of each operation's value. -/
def RP (tv : Value) (ts : List Int) (pos err : Int) (tr : Tr) (σ : Nat → Option Value) (W : World) : Nat → Value → Prop
  | 0, v => IsGram W v exG
  | 1, v => v = tv
  | 2, v => (∃ b, v = .slice (some ⟨b, 0, none⟩) 2 2) ∧ Ints W v ts
  | 3, v => ∃ xv, v = .tuple #[xv, .int .i64 pos, .int .i64 err] ∧ TreeV W (OffP σ) xv tr
  | 4, v => ∃ xv, v = .tuple #[xv, .int .i64 pos, .int .i64 err] ∧ TreeV W (OffP σ) xv tr
  | 5, v => TreeV W (OffP σ) v tr
  | 6, v => v = .int .i64 pos
  | 7, v => v = .int .i64 err
  | 10, v => v = .int .i64 pos
  | 11, v => v = .int .i64 err
  | _, _ => True
theorem RP.fr {ch : Nat → Prop} {tv : Value} {ts : List Int} {pos err : Int} {tr : Tr} {σ σ' : Nat → Option Value} {W W' : World} (k : Fr ch W W') (h8 : ∀ b, b < W.heap.size → OffP σ b → OffP σ' b) (hc : ∀ b, b < W.heap.size → OffP σ b → ¬ ch b) {j : Nat} {v : Value} (hn : (j = 0 ∨ j = 2) → Fr nothing W W') (h : RP tv ts pos err tr σ W j v) : RP tv ts pos err tr σ' W' j v := by
  match j, hn, h with
  | 0, hn, h => exact IsGram.fr h (hn (.inl rfl))
  | 1, _, h => exact h
  | 2, hn, h => exact ⟨h.1, h.2.fr (hn (.inr rfl))⟩
  | 3, _, h => obtain ⟨xv, e, h⟩ := h; exact ⟨xv, e, h.fr k hc h8⟩
  | 4, _, h => obtain ⟨xv, e, h⟩ := h; exact ⟨xv, e, h.fr k hc h8⟩
  | 5, _, h => exact TreeV.fr h k hc h8
  | 6, _, h => exact h
  | 7, _, h => exact h
  | 8, _, _ => trivial
  | 9, _, _ => trivial
  | 10, _, h => exact h
  | 11, _, h => exact h
  | n + 12, _, _ => trivial
structure InvP (w1 : World) (tv : Value) (ts : List Int) (pos err : Int) (tr : Tr) (σ : Nat → Option Value) (W : World) : Prop where
  old : Fr nothing w1 W
  all : ∀ j v, (σ 3 = none ∨ (j ≠ 0 ∧ j ≠ 2)) → σ j = some v → RP tv ts pos err tr σ W j v
  late : σ 8 = none → σ 9 = none
  box : ∀ v, σ 8 = some v → ∃ b, v = .pointer (some ⟨b, 0, none⟩) ∧ w1.heap.size ≤ b ∧ ((σ 9 = none ∧ W.heap[b]? = some (.cells #[.int .i64 0, .int .i64 0, .slice none 0 0] 40 (0, 0))) ∨ (σ 9 ≠ none ∧ ∃ kv, W.heap[b]? = some (.cells #[.int .i64 tr.p, .int .i64 tr.a, kv] 40 (0, 0)) ∧ KidsV W (OffP σ) tr.kids kv))
section
variable {w1 W W' : World} {tv : Value} {ts : List Int} {pos err : Int} {tr : Tr} {σ : Nat → Option Value}
theorem InvP.start : InvP w1 tv ts pos err tr (fun _ => none) w1 := ⟨Fr.refl _ _, fun _ _ _ h => (by cases h), fun _ => rfl, fun _ h => (by cases h)⟩
theorem off_same {j : Nat} {v : Value} (h : j ≠ 8) {c : Nat} (hc : OffP σ c) : OffP (updS σ j v) c := fun b hb => hc b (by rw [updZ_other (fun e => h e.symm)] at hb; exact hb)
theorem InvP.step (h : InvP w1 tv ts pos err tr σ W) (k : Fr nothing W W') {j : Nat} {v : Value} (h8 : j ≠ 8) (h9 : j ≠ 9) (hv : RP tv ts pos err tr (updS σ j v) W' j v) : InvP w1 tv ts pos err tr (updS σ j v) W' := by
  refine ⟨h.old.trans k, fun i u hi hu => ?_, fun e => ?_, fun u hu => ?_⟩
  · have hi : σ 3 = none ∨ (i ≠ 0 ∧ i ≠ 2) := hi.imp (fun e => by
      by_cases e3 : (3 : Nat) = j
      · subst e3
        rw [updZ_same] at e
        cases e
      · rw [updZ_other e3] at e
        exact e) id
    by_cases e : i = j
    · subst e
      rw [updZ_same] at hu
      obtain rfl := Option.some.inj hu
      exact hv
    · rw [updZ_other e] at hu
      exact (h.all i u hi hu).fr k (fun b _ hb => off_same h8 hb) (fun _ _ _ => id) fun _ => k
  · rw [updZ_other (fun e => h8 e.symm)] at e
    rw [updZ_other (fun e => h9 e.symm)]
    exact h.late e
  · rw [updZ_other (fun e => h8 e.symm)] at hu
    obtain ⟨b, e1, e2, e3⟩ := h.box u hu
    refine ⟨b, e1, e2, ?_⟩
    rw [updZ_other (fun e => h9 e.symm)]
    rcases e3 with ⟨a1, a2⟩ | ⟨a1, kv, a2, a3⟩
    · exact .inl ⟨a1, k.obj a2 id⟩
    · exact .inr ⟨a1, kv, k.obj a2 id, a3.fr k (fun _ _ _ => id) fun b _ hb => off_same h8 hb⟩
theorem InvP.alloc (h : InvP w1 tv ts pos err tr σ W) (hn : σ 8 = none) : InvP w1 tv ts pos err tr (updS σ 8 (.pointer (some ⟨W.heap.size, 0, none⟩))) (W.alloc (.cells #[.int .i64 0, .int .i64 0, .slice none 0 0] 40 (0, 0))) := by
  have h9 := h.late hn
  have k := Fr.alloc (ch := nothing) W (.cells #[.int .i64 0, .int .i64 0, .slice none 0 0] 40 (0, 0))
  refine ⟨h.old.trans k, fun i u hi hu => ?_, fun e => ?_, fun u hu => ?_⟩
  · by_cases e : i = 8
    · subst e
      trivial
    · rw [updZ_other e] at hu
      rw [updZ_other (by decide)] at hi
      refine (h.all i u hi hu).fr k (fun b hb _ c hc => ?_) (fun _ _ _ => id) fun _ => k
      rw [updZ_same] at hc
      simp only [Option.some.injEq, Value.pointer.injEq, Addr.mk.injEq, and_true] at hc
      omega
  · rw [updZ_same] at e
    cases e
  · rw [updZ_same] at hu
    obtain rfl := Option.some.inj hu
    exact ⟨_, rfl, h.old.size, .inl ⟨by rw [updZ_other (by decide)]; exact h9, alloc_obj _ _⟩⟩
theorem InvP.store (h : InvP w1 tv ts pos err tr σ W) (h3 : σ 3 ≠ none) {b : Nat} (hb : σ 8 = some (.pointer (some ⟨b, 0, none⟩))) (h9 : σ 9 = none) {kv : Value} (h5 : σ 5 = some (.agg #[.int .i64 tr.p, .int .i64 tr.a, kv])) (u : Value) :
    InvP w1 tv ts pos err tr (updS σ 9 u) (((W.setCell ⟨b, 0, none⟩ (.int .i64 tr.p)).setCell ⟨b, 1, none⟩ (.int .i64 tr.a)).setCell ⟨b, 2, none⟩ kv) := by
  obtain ⟨b', e1, e2, e3⟩ := h.box _ hb
  simp only [Value.pointer.injEq, Option.some.injEq, Addr.mk.injEq, and_true] at e1
  subst e1
  rcases e3 with ⟨-, a2⟩ | ⟨a1, -⟩
  rotate_left
  · exact absurd h9 a1
  have o3 := setCell_obj (setCell_obj (setCell_obj a2 (i := 0) (.int .i64 tr.p)) (i := 1) (.int .i64 tr.a)) (i := 2) kv
  have kk : Fr (only b) W (((W.setCell ⟨b, 0, none⟩ (.int .i64 tr.p)).setCell ⟨b, 1, none⟩ (.int .i64 tr.a)).setCell ⟨b, 2, none⟩ kv) := ((Fr.setCell W ⟨b, 0, none⟩ _).trans (Fr.setCell _ ⟨b, 1, none⟩ _)).trans (Fr.setCell _ ⟨b, 2, none⟩ _)
  have hoff : ∀ c, c < W.heap.size → OffP σ c → ¬ only b c := fun c _ hc e => hc b hb e
  refine ⟨⟨kk.os.trans h.old.os, kk.tape.trans h.old.tape, kk.output.trans h.old.output, Nat.le_trans h.old.size kk.size, fun i hi hn => (kk.block i (Nat.lt_of_lt_of_le hi h.old.size) (fun e => by have e' : i = b := e; omega)).trans (h.old.block i hi hn)⟩, fun i v hi hv => ?_, fun e => ?_, fun v hv => ?_⟩
  · rw [updZ_other (by decide)] at hi
    have hi2 := hi.resolve_left h3
    by_cases e : i = 9
    · subst e
      trivial
    · rw [updZ_other e] at hv
      exact (h.all i v hi hv).fr kk (fun c _ hc => off_same (by decide) hc) hoff fun e => absurd e (by omega)
  · rw [updZ_other (by decide), hb] at e
    cases e
  · rw [updZ_other (by decide), hb] at hv
    obtain rfl := Option.some.inj hv
    refine ⟨b, rfl, e2, .inr ⟨by rw [updZ_same]; simp, kv, by simpa using o3, ?_⟩⟩
    obtain ⟨kv', e4, hk⟩ : TreeV W (OffP σ) _ tr := h.all 5 _ (.inr ⟨by decide, by decide⟩) h5
    simp only [Value.agg.injEq, Array.mk.injEq, List.cons.injEq, and_true, true_and] at e4
    subst e4
    exact hk.fr kk hoff fun c _ hc => off_same (by decide) hc
end

def RR (tv : Value) (W : World) : Nat → Value → Prop
  | 0, v => IsGram W v exG
  | 1, v => v = tv
  | 2, v => Ints W v [1, 1]
  | 3, v => Ints W v [2, 1, 1]
  | 4, v => Ints W v [2, 1, 1]
  | _, _ => True
structure InvR (w1 : World) (tv : Value) (σ : Nat → Option Value) (W : World) : Prop where
  old : Fr nothing w1 W
  all : ∀ j v, σ j = some v → RR tv W j v
theorem InvR.start {w1 : World} {tv : Value} : InvR w1 tv (fun _ => none) w1 := ⟨Fr.refl _ _, fun _ _ h => (by cases h)⟩
theorem InvR.step {w1 W W' : World} {tv : Value} {σ : Nat → Option Value} (h : InvR w1 tv σ W) (k : Fr nothing W W') {j : Nat} {v : Value} (hv : RR tv W' j v) : InvR w1 tv (updS σ j v) W' := by
  refine ⟨h.old.trans k, fun i u hu => ?_⟩
  by_cases e : i = j
  · subst e
    rw [updZ_same] at hu
    obtain rfl := Option.some.inj hu
    exact hv
  · rw [updZ_other e] at hu
    have h1 := h.all i u hu
    match i, h1 with
    | 0, h1 => exact IsGram.fr h1 k
    | 1, h1 => exact h1
    | 2, h1 => exact Ints.fr h1 k
    | 3, h1 => exact Ints.fr h1 k
    | 4, h1 => exact Ints.fr h1 k
    | n + 5, _ => trivial

set_option maxRecDepth 100000 in
set_option maxHeartbeats 16000000 in
theorem awake25_any (w : World) : Calls Try.prog 7 #[] w fun e w' => e = .returned (.bool true) ∧ Below w.heap.size w w' := by
  go_enter Try.func7, Try.ntmps7
  go_upto_region 2 with (first
    | (go_at_call 18; refine (example_any _).mono ?_; rintro e w1 ⟨gv, rfl, hg1, hb1⟩)
    | (go_at_call 11; refine (made_any exG _ _ hg1).mono ?_; rintro e w2 ⟨hb2, hm2⟩; rw [ex_made] at hm2; obtain ⟨tv, rfl, htb⟩ := hm2; obtain ⟨tva, tvg, rfl, hta, htg⟩ := id htb; obtain ⟨tpa, tpc, rfl, -, -, -⟩ := Rows'.parts hta; obtain ⟨tga, tgc, rfl, -, -, -⟩ := Rows'.parts htg))
  have hka := Fr.alloc (ch := nothing) w2 (Obj.cells #[.slice tpa exT.acts.length tpc, .slice tga exT.gotos.length tgc] 29 (0, 0))
  have hob := alloc_obj w2 (Obj.cells #[.slice tpa exT.acts.length tpc, .slice tga exT.gotos.length tgc] 29 (0, 0))
  have htb2 := htb.fr hka
  have hbA := hb1.trans ((hb2.mono hb1.size).trans (hka.below_new.mono (by have := hb1.size; have := hb2.size; omega)))
  clear hta htg htb hb1 hb2 hg1
  generalize exT.acts.length = an at *
  generalize exT.gotos.length = gn at *
  have HBA := Lib.hid hbA
  clear hbA hka
  generalize hW2 : w2.alloc (Obj.cells #[.slice tpa an tpc, .slice tga gn tgc] 29 (0, 0)) = W2 at *
  clear hW2
  obtain ⟨tb, htbe⟩ : ∃ tb, w2.heap.size = tb := ⟨_, rfl⟩
  rw [htbe] at hob ⊢
  clear htbe
  have HTB := Lib.hid fun (W : World) (k : Fr nothing W2 W) => show W.cell? ⟨tb, 0, none⟩ = some (.slice tpa an tpc) ∧ W.cell? ⟨tb, 1, none⟩ = some (.slice tga gn tgc) ∧ IsTbl W (.agg #[.slice tpa an tpc, .slice tga gn tgc]) exT from ⟨obj_cell (k.obj hob id) 0 rfl, obj_cell (k.obj hob id) 1 rfl, htb2.fr k⟩
  have HK := Lib.hid (Fr.drew (ch := nothing) W2)
  clear hob htb2
  refine wp_region_any (by kernel_rfl) (region_invA (InvP W2.drew (.agg #[.slice tpa an tpc, .slice tga gn tgc]) [1, 1] (stA.pos : Int) 0 (treeOf 0 stA)) (by kernel_rfl) (by kernel_rfl) InvP.start ?_ ?_)
  · intro j o hj σ W Z hJ hnj hdep hdf hA1 hA2
    have a1 := hA1 1 (by kernel_rfl)
    simp only [List.getElem?_toArray, List.getElem?_cons_succ, List.getElem?_cons_zero, Option.getD_some] at a1
    obtain ⟨c0, c1, htb⟩ := HTB.out W (HK.out.trans hJ.old)
    match j with
    | 0 =>
      obtain rfl := Option.some.inj hj
      go_simp
      refine (example_any W).mono ?_
      rintro e W2 ⟨v, rfl, hg, hb⟩
      dsimp only
      exact ⟨_, rfl, hJ.step (Fr.new hb) (by decide) (by decide) hg⟩
    | 1 =>
      obtain rfl := Option.some.inj hj
      go_simp
      exact ⟨_, rfl, hJ.step (Fr.refl _ _) (by decide) (by decide) rfl⟩
    | 2 =>
      obtain rfl := Option.some.inj hj
      go_simp
      exact ⟨_, rfl, hJ.step (Fr.alloc _ _) (by decide) (by decide) ⟨⟨_, rfl⟩, ints_obj (xs := [1, 1]) (alloc_obj _ _) rfl (by decide) rfl (by decide)⟩⟩
    | 3 =>
      obtain rfl := Option.some.inj hj
      obtain ⟨v0, e0⟩ := hdep 0 (by kernel_rfl)
      have a0 := hA2 0 16 v0 (by kernel_rfl) (Nat.le_of_ble_eq_true (by kernel_rfl)) e0
      obtain ⟨v1, e1⟩ := hdep 1 (by kernel_rfl)
      have a1 := hA2 1 17 v1 (by kernel_rfl) (Nat.le_of_ble_eq_true (by kernel_rfl)) e1
      obtain ⟨v2, e2⟩ := hdep 2 (by kernel_rfl)
      have a2 := hA2 2 18 v2 (by kernel_rfl) (Nat.le_of_ble_eq_true (by kernel_rfl)) e2
      have g0 : IsGram W v0 exG := hJ.all 0 v0 (.inl hnj) e0
      obtain rfl : v1 = _ := hJ.all 1 v1 (.inr ⟨by decide, by decide⟩) e1
      obtain ⟨-, g2⟩ : (∃ b, v2 = .slice (some ⟨b, 0, none⟩) 2 2) ∧ Ints W v2 [1, 1] := hJ.all 2 v2 (.inl hnj) e2
      go_simp
      refine (parse_any exG exT [1, 1] v0 _ v2 W g0 htb g2 (by decide)).mono ?_
      rintro e W2 ⟨xv, er, st, rfl, hto, -, ⟨kv, rfl, hk⟩, hb⟩
      have hone := hto.one run_A
      simp only [Prod.mk.injEq] at hone
      obtain ⟨rfl, rfl⟩ := hone
      dsimp only
      refine ⟨_, rfl, hJ.step (Fr.new hb) (by decide) (by decide) ⟨_, rfl, kv, rfl, hk.fr (Fr.refl (ch := nothing) _) (fun _ _ _ => id) fun c _ hc b hb8 => ?_⟩⟩
      rw [updZ_other (by decide)] at hb8
      obtain ⟨b', e1', -, e3'⟩ := hJ.box _ hb8
      simp only [Value.pointer.injEq, Option.some.injEq, Addr.mk.injEq, and_true] at e1'
      subst e1'
      have hlt : b < W.heap.size := by
        rcases e3' with ⟨-, h⟩ | ⟨-, _, h, -⟩ <;> exact (Array.getElem?_eq_some_iff.1 h).1
      have hc' : W.heap.size ≤ c := hc
      omega
    | 4 =>
      obtain rfl := Option.some.inj hj
      obtain ⟨v3, e3⟩ := hdep 3 (by kernel_rfl)
      have a3 := hA2 3 19 v3 (by kernel_rfl) (Nat.le_of_ble_eq_true (by kernel_rfl)) e3
      obtain ⟨xv, rfl, hx⟩ : ∃ xv, v3 = .tuple #[xv, .int .i64 (stA.pos : Int), .int .i64 0] ∧ TreeV W (OffP σ) xv (treeOf 0 stA) := hJ.all 3 v3 (.inr ⟨by decide, by decide⟩) e3
      go_simp
      exact ⟨_, rfl, hJ.step (Fr.refl _ _) (by decide) (by decide) ⟨xv, rfl, hx.fr (Fr.refl (ch := nothing) _) (fun _ _ _ => id) fun c _ hc => off_same (by decide) hc⟩⟩
    | 5 =>
      obtain rfl := Option.some.inj hj
      obtain ⟨v4, e4⟩ := hdep 4 (by kernel_rfl)
      have a4 := hA2 4 15 v4 (by kernel_rfl) (Nat.le_of_ble_eq_true (by kernel_rfl)) e4
      obtain ⟨xv, rfl, hx⟩ : ∃ xv, v4 = .tuple #[xv, .int .i64 (stA.pos : Int), .int .i64 0] ∧ TreeV W (OffP σ) xv (treeOf 0 stA) := hJ.all 4 v4 (.inr ⟨by decide, by decide⟩) e4
      go_simp
      exact ⟨_, rfl, hJ.step (Fr.refl _ _) (by decide) (by decide) (hx.fr (Fr.refl (ch := nothing) _) (fun _ _ _ => id) fun c _ hc => off_same (by decide) hc)⟩
    | 6 =>
      obtain rfl := Option.some.inj hj
      obtain ⟨v4, e4⟩ := hdep 4 (by kernel_rfl)
      have a4 := hA2 4 15 v4 (by kernel_rfl) (Nat.le_of_ble_eq_true (by kernel_rfl)) e4
      obtain ⟨xv, rfl, hx⟩ : ∃ xv, v4 = .tuple #[xv, .int .i64 (stA.pos : Int), .int .i64 0] ∧ TreeV W (OffP σ) xv (treeOf 0 stA) := hJ.all 4 v4 (.inr ⟨by decide, by decide⟩) e4
      go_simp
      exact ⟨_, rfl, hJ.step (Fr.refl _ _) (by decide) (by decide) rfl⟩
    | 7 =>
      obtain rfl := Option.some.inj hj
      obtain ⟨v4, e4⟩ := hdep 4 (by kernel_rfl)
      have a4 := hA2 4 15 v4 (by kernel_rfl) (Nat.le_of_ble_eq_true (by kernel_rfl)) e4
      obtain ⟨xv, rfl, hx⟩ : ∃ xv, v4 = .tuple #[xv, .int .i64 (stA.pos : Int), .int .i64 0] ∧ TreeV W (OffP σ) xv (treeOf 0 stA) := hJ.all 4 v4 (.inr ⟨by decide, by decide⟩) e4
      go_simp
      exact ⟨_, rfl, hJ.step (Fr.refl _ _) (by decide) (by decide) rfl⟩
    | 8 =>
      obtain rfl := Option.some.inj hj
      go_simp
      exact ⟨_, rfl, hJ.alloc hnj⟩
    | 9 =>
      obtain rfl := Option.some.inj hj
      obtain ⟨v8, e8⟩ := hdep 8 (by kernel_rfl)
      have a8 := hA2 8 3 v8 (by kernel_rfl) (Nat.le_of_ble_eq_true (by kernel_rfl)) e8
      obtain ⟨v5, e5⟩ := hdep 5 (by kernel_rfl)
      have a5 := hA2 5 20 v5 (by kernel_rfl) (Nat.le_of_ble_eq_true (by kernel_rfl)) e5
      obtain ⟨v3, e3⟩ := hdep 3 (by kernel_rfl)
      obtain ⟨kv, rfl, hk⟩ : TreeV W (OffP σ) v5 (treeOf 0 stA) := hJ.all 5 v5 (.inr ⟨by decide, by decide⟩) e5
      obtain ⟨ka, kc, rfl, -, -, -⟩ := id hk
      obtain ⟨b, rfl, hb1, hb2⟩ := hJ.box v8 e8
      have hb2 := (hb2.resolve_right fun h => h.1 hnj).2
      have b0 := obj_cell hb2 0 (v := .int .i64 0) rfl
      have b1 := obj_cell hb2 1 (v := .int .i64 0) rfl
      have b2 := obj_cell hb2 2 (v := .slice none 0 0) rfl
      have f0 := obj_frozen hb2 0
      have f1 := obj_frozen hb2 1
      have f2 := obj_frozen hb2 2
      have HS := Lib.hid (hJ.store (by rw [e3]; simp) e8 hnj e5 undef)
      clear hk
      go_simp
      exact ⟨undef, HS.out⟩
    | 10 =>
      obtain rfl := Option.some.inj hj
      obtain ⟨v6, e6⟩ := hdep 6 (by kernel_rfl)
      have a6 := hA2 6 21 v6 (by kernel_rfl) (Nat.le_of_ble_eq_true (by kernel_rfl)) e6
      obtain rfl : v6 = .int .i64 (stA.pos : Int) := hJ.all 6 v6 (.inr ⟨by decide, by decide⟩) e6
      go_simp
      exact ⟨_, rfl, hJ.step (Fr.refl _ _) (by decide) (by decide) rfl⟩
    | 11 =>
      obtain rfl := Option.some.inj hj
      obtain ⟨v7, e7⟩ := hdep 7 (by kernel_rfl)
      have a7 := hA2 7 22 v7 (by kernel_rfl) (Nat.le_of_ble_eq_true (by kernel_rfl)) e7
      obtain rfl : v7 = .int .i64 0 := hJ.all 7 v7 (.inr ⟨by decide, by decide⟩) e7
      go_simp
      exact ⟨_, rfl, hJ.step (Fr.refl _ _) (by decide) (by decide) rfl⟩
    | n + 12 => exact absurd hj (by simp)
  · intro σ W3 hJ hall
    obtain ⟨u0, h0⟩ := hall 0 (Nat.le_of_ble_eq_true (by kernel_rfl))
    obtain ⟨u1, h1⟩ := hall 1 (Nat.le_of_ble_eq_true (by kernel_rfl))
    obtain ⟨u2, h2⟩ := hall 2 (Nat.le_of_ble_eq_true (by kernel_rfl))
    obtain ⟨u3, h3⟩ := hall 3 (Nat.le_of_ble_eq_true (by kernel_rfl))
    obtain ⟨u4, h4⟩ := hall 4 (Nat.le_of_ble_eq_true (by kernel_rfl))
    obtain ⟨u5, h5⟩ := hall 5 (Nat.le_of_ble_eq_true (by kernel_rfl))
    obtain ⟨u6, h6⟩ := hall 6 (Nat.le_of_ble_eq_true (by kernel_rfl))
    obtain ⟨u7, h7⟩ := hall 7 (Nat.le_of_ble_eq_true (by kernel_rfl))
    obtain ⟨u8, h8⟩ := hall 8 (Nat.le_of_ble_eq_true (by kernel_rfl))
    obtain ⟨u9, h9⟩ := hall 9 (Nat.le_of_ble_eq_true (by kernel_rfl))
    obtain ⟨u10, h10⟩ := hall 10 (Nat.le_of_ble_eq_true (by kernel_rfl))
    obtain ⟨u11, h11⟩ := hall 11 (Nat.le_of_ble_eq_true (by kernel_rfl))
    obtain rfl : u6 = .int .i64 (stA.pos : Int) := hJ.all 6 u6 (.inr ⟨by decide, by decide⟩) h6
    obtain rfl : u7 = .int .i64 0 := hJ.all 7 u7 (.inr ⟨by decide, by decide⟩) h7
    obtain rfl : u10 = .int .i64 (stA.pos : Int) := hJ.all 10 u10 (.inr ⟨by decide, by decide⟩) h10
    obtain rfl : u11 = .int .i64 0 := hJ.all 11 u11 (.inr ⟨by decide, by decide⟩) h11
    obtain ⟨bA, rfl, hb1, hb2⟩ := hJ.box u8 h8
    obtain ⟨-, kv, hb3, hb4⟩ := hb2.resolve_left fun h => by rw [h9] at h; cases h.1
    have hold := HK.out.trans hJ.old
    simp only [dstL, fillL, List.map_cons, List.map_nil, Nat.zero_add, Nat.reduceAdd, h0, h1, h2, h3, h4, h5, h6, h7, h8, h9, h10, h11, Act.put, List.setIfInBounds_toArray, List.set_cons_zero, List.set_cons_succ]
    have HBbA := Lib.hid (And.intro hb3 (And.intro hb4.any (And.intro hold hJ.old)))
    clear h0 h1 h2 h3 h4 h5 h6 h7 h8 h9 h10 h11 hall hJ hb1 hb2 hb3 hb4 hold
    have HK := Lib.hid (HBbA.out.2.2.1.trans (Fr.drew (ch := nothing) W3))
    go_upto_region 3 with fail
    refine wp_region_any (by kernel_rfl) (region_invA (InvP W3.drew (.agg #[.slice tpa an tpc, .slice tga gn tgc]) [1, 2] (stB.pos : Int) 309 (treeOf 309 stB)) (by kernel_rfl) (by kernel_rfl) InvP.start ?_ ?_)
    · intro j o hj σ W Z hJ hnj hdep hdf hA1 hA2
      have a1 := hA1 1 (by kernel_rfl)
      simp only [List.getElem?_toArray, List.getElem?_cons_succ, List.getElem?_cons_zero, Option.getD_some] at a1
      obtain ⟨c0, c1, htb⟩ := HTB.out W (HK.out.trans hJ.old)
      match j with
      | 0 =>
        obtain rfl := Option.some.inj hj
        go_simp
        refine (example_any W).mono ?_
        rintro e W2 ⟨v, rfl, hg, hb⟩
        dsimp only
        exact ⟨_, rfl, hJ.step (Fr.new hb) (by decide) (by decide) hg⟩
      | 1 =>
        obtain rfl := Option.some.inj hj
        go_simp
        exact ⟨_, rfl, hJ.step (Fr.refl _ _) (by decide) (by decide) rfl⟩
      | 2 =>
        obtain rfl := Option.some.inj hj
        go_simp
        exact ⟨_, rfl, hJ.step (Fr.alloc _ _) (by decide) (by decide) ⟨⟨_, rfl⟩, ints_obj (xs := [1, 2]) (alloc_obj _ _) rfl (by decide) rfl (by decide)⟩⟩
      | 3 =>
        obtain rfl := Option.some.inj hj
        obtain ⟨v0, e0⟩ := hdep 0 (by kernel_rfl)
        have a0 := hA2 0 24 v0 (by kernel_rfl) (Nat.le_of_ble_eq_true (by kernel_rfl)) e0
        obtain ⟨v1, e1⟩ := hdep 1 (by kernel_rfl)
        have a1 := hA2 1 25 v1 (by kernel_rfl) (Nat.le_of_ble_eq_true (by kernel_rfl)) e1
        obtain ⟨v2, e2⟩ := hdep 2 (by kernel_rfl)
        have a2 := hA2 2 26 v2 (by kernel_rfl) (Nat.le_of_ble_eq_true (by kernel_rfl)) e2
        have g0 : IsGram W v0 exG := hJ.all 0 v0 (.inl hnj) e0
        obtain rfl : v1 = _ := hJ.all 1 v1 (.inr ⟨by decide, by decide⟩) e1
        obtain ⟨-, g2⟩ : (∃ b, v2 = .slice (some ⟨b, 0, none⟩) 2 2) ∧ Ints W v2 [1, 2] := hJ.all 2 v2 (.inl hnj) e2
        go_simp
        refine (parse_any exG exT [1, 2] v0 _ v2 W g0 htb g2 (by decide)).mono ?_
        rintro e W2 ⟨xv, er, st, rfl, hto, -, ⟨kv, rfl, hk⟩, hb⟩
        have hone := hto.one run_B
        simp only [Prod.mk.injEq] at hone
        obtain ⟨rfl, rfl⟩ := hone
        dsimp only
        refine ⟨_, rfl, hJ.step (Fr.new hb) (by decide) (by decide) ⟨_, rfl, kv, rfl, hk.fr (Fr.refl (ch := nothing) _) (fun _ _ _ => id) fun c _ hc b hb8 => ?_⟩⟩
        rw [updZ_other (by decide)] at hb8
        obtain ⟨b', e1', -, e3'⟩ := hJ.box _ hb8
        simp only [Value.pointer.injEq, Option.some.injEq, Addr.mk.injEq, and_true] at e1'
        subst e1'
        have hlt : b < W.heap.size := by
          rcases e3' with ⟨-, h⟩ | ⟨-, _, h, -⟩ <;> exact (Array.getElem?_eq_some_iff.1 h).1
        have hc' : W.heap.size ≤ c := hc
        omega
      | 4 =>
        obtain rfl := Option.some.inj hj
        obtain ⟨v3, e3⟩ := hdep 3 (by kernel_rfl)
        have a3 := hA2 3 27 v3 (by kernel_rfl) (Nat.le_of_ble_eq_true (by kernel_rfl)) e3
        obtain ⟨xv, rfl, hx⟩ : ∃ xv, v3 = .tuple #[xv, .int .i64 (stB.pos : Int), .int .i64 309] ∧ TreeV W (OffP σ) xv (treeOf 309 stB) := hJ.all 3 v3 (.inr ⟨by decide, by decide⟩) e3
        go_simp
        exact ⟨_, rfl, hJ.step (Fr.refl _ _) (by decide) (by decide) ⟨xv, rfl, hx.fr (Fr.refl (ch := nothing) _) (fun _ _ _ => id) fun c _ hc => off_same (by decide) hc⟩⟩
      | 5 =>
        obtain rfl := Option.some.inj hj
        obtain ⟨v4, e4⟩ := hdep 4 (by kernel_rfl)
        have a4 := hA2 4 23 v4 (by kernel_rfl) (Nat.le_of_ble_eq_true (by kernel_rfl)) e4
        obtain ⟨xv, rfl, hx⟩ : ∃ xv, v4 = .tuple #[xv, .int .i64 (stB.pos : Int), .int .i64 309] ∧ TreeV W (OffP σ) xv (treeOf 309 stB) := hJ.all 4 v4 (.inr ⟨by decide, by decide⟩) e4
        go_simp
        exact ⟨_, rfl, hJ.step (Fr.refl _ _) (by decide) (by decide) (hx.fr (Fr.refl (ch := nothing) _) (fun _ _ _ => id) fun c _ hc => off_same (by decide) hc)⟩
      | 6 =>
        obtain rfl := Option.some.inj hj
        obtain ⟨v4, e4⟩ := hdep 4 (by kernel_rfl)
        have a4 := hA2 4 23 v4 (by kernel_rfl) (Nat.le_of_ble_eq_true (by kernel_rfl)) e4
        obtain ⟨xv, rfl, hx⟩ : ∃ xv, v4 = .tuple #[xv, .int .i64 (stB.pos : Int), .int .i64 309] ∧ TreeV W (OffP σ) xv (treeOf 309 stB) := hJ.all 4 v4 (.inr ⟨by decide, by decide⟩) e4
        go_simp
        exact ⟨_, rfl, hJ.step (Fr.refl _ _) (by decide) (by decide) rfl⟩
      | 7 =>
        obtain rfl := Option.some.inj hj
        obtain ⟨v4, e4⟩ := hdep 4 (by kernel_rfl)
        have a4 := hA2 4 23 v4 (by kernel_rfl) (Nat.le_of_ble_eq_true (by kernel_rfl)) e4
        obtain ⟨xv, rfl, hx⟩ : ∃ xv, v4 = .tuple #[xv, .int .i64 (stB.pos : Int), .int .i64 309] ∧ TreeV W (OffP σ) xv (treeOf 309 stB) := hJ.all 4 v4 (.inr ⟨by decide, by decide⟩) e4
        go_simp
        exact ⟨_, rfl, hJ.step (Fr.refl _ _) (by decide) (by decide) rfl⟩
      | 8 =>
        obtain rfl := Option.some.inj hj
        go_simp
        exact ⟨_, rfl, hJ.alloc hnj⟩
      | 9 =>
        obtain rfl := Option.some.inj hj
        obtain ⟨v8, e8⟩ := hdep 8 (by kernel_rfl)
        have a8 := hA2 8 6 v8 (by kernel_rfl) (Nat.le_of_ble_eq_true (by kernel_rfl)) e8
        obtain ⟨v5, e5⟩ := hdep 5 (by kernel_rfl)
        have a5 := hA2 5 28 v5 (by kernel_rfl) (Nat.le_of_ble_eq_true (by kernel_rfl)) e5
        obtain ⟨v3, e3⟩ := hdep 3 (by kernel_rfl)
        obtain ⟨kv, rfl, hk⟩ : TreeV W (OffP σ) v5 (treeOf 309 stB) := hJ.all 5 v5 (.inr ⟨by decide, by decide⟩) e5
        obtain ⟨ka, kc, rfl, -, -, -⟩ := id hk
        obtain ⟨b, rfl, hb1, hb2⟩ := hJ.box v8 e8
        have hb2 := (hb2.resolve_right fun h => h.1 hnj).2
        have b0 := obj_cell hb2 0 (v := .int .i64 0) rfl
        have b1 := obj_cell hb2 1 (v := .int .i64 0) rfl
        have b2 := obj_cell hb2 2 (v := .slice none 0 0) rfl
        have f0 := obj_frozen hb2 0
        have f1 := obj_frozen hb2 1
        have f2 := obj_frozen hb2 2
        have HS := Lib.hid (hJ.store (by rw [e3]; simp) e8 hnj e5 undef)
        clear hk
        go_simp
        exact ⟨undef, HS.out⟩
      | 10 =>
        obtain rfl := Option.some.inj hj
        obtain ⟨v6, e6⟩ := hdep 6 (by kernel_rfl)
        have a6 := hA2 6 29 v6 (by kernel_rfl) (Nat.le_of_ble_eq_true (by kernel_rfl)) e6
        obtain rfl : v6 = .int .i64 (stB.pos : Int) := hJ.all 6 v6 (.inr ⟨by decide, by decide⟩) e6
        go_simp
        exact ⟨_, rfl, hJ.step (Fr.refl _ _) (by decide) (by decide) rfl⟩
      | 11 =>
        obtain rfl := Option.some.inj hj
        obtain ⟨v7, e7⟩ := hdep 7 (by kernel_rfl)
        have a7 := hA2 7 30 v7 (by kernel_rfl) (Nat.le_of_ble_eq_true (by kernel_rfl)) e7
        obtain rfl : v7 = .int .i64 309 := hJ.all 7 v7 (.inr ⟨by decide, by decide⟩) e7
        go_simp
        exact ⟨_, rfl, hJ.step (Fr.refl _ _) (by decide) (by decide) rfl⟩
      | n + 12 => exact absurd hj (by simp)
    · intro σ W4 hJ hall
      obtain ⟨u0, h0⟩ := hall 0 (Nat.le_of_ble_eq_true (by kernel_rfl))
      obtain ⟨u1, h1⟩ := hall 1 (Nat.le_of_ble_eq_true (by kernel_rfl))
      obtain ⟨u2, h2⟩ := hall 2 (Nat.le_of_ble_eq_true (by kernel_rfl))
      obtain ⟨u3, h3⟩ := hall 3 (Nat.le_of_ble_eq_true (by kernel_rfl))
      obtain ⟨u4, h4⟩ := hall 4 (Nat.le_of_ble_eq_true (by kernel_rfl))
      obtain ⟨u5, h5⟩ := hall 5 (Nat.le_of_ble_eq_true (by kernel_rfl))
      obtain ⟨u6, h6⟩ := hall 6 (Nat.le_of_ble_eq_true (by kernel_rfl))
      obtain ⟨u7, h7⟩ := hall 7 (Nat.le_of_ble_eq_true (by kernel_rfl))
      obtain ⟨u8, h8⟩ := hall 8 (Nat.le_of_ble_eq_true (by kernel_rfl))
      obtain ⟨u9, h9⟩ := hall 9 (Nat.le_of_ble_eq_true (by kernel_rfl))
      obtain ⟨u10, h10⟩ := hall 10 (Nat.le_of_ble_eq_true (by kernel_rfl))
      obtain ⟨u11, h11⟩ := hall 11 (Nat.le_of_ble_eq_true (by kernel_rfl))
      obtain rfl : u6 = .int .i64 (stB.pos : Int) := hJ.all 6 u6 (.inr ⟨by decide, by decide⟩) h6
      obtain rfl : u7 = .int .i64 309 := hJ.all 7 u7 (.inr ⟨by decide, by decide⟩) h7
      obtain rfl : u10 = .int .i64 (stB.pos : Int) := hJ.all 10 u10 (.inr ⟨by decide, by decide⟩) h10
      obtain rfl : u11 = .int .i64 309 := hJ.all 11 u11 (.inr ⟨by decide, by decide⟩) h11
      obtain ⟨bB, rfl, hb1, hb2⟩ := hJ.box u8 h8
      obtain ⟨-, kv, hb3, hb4⟩ := hb2.resolve_left fun h => by rw [h9] at h; cases h.1
      have hold := HK.out.trans hJ.old
      simp only [dstL, fillL, List.map_cons, List.map_nil, Nat.zero_add, Nat.reduceAdd, h0, h1, h2, h3, h4, h5, h6, h7, h8, h9, h10, h11, Act.put, List.setIfInBounds_toArray, List.set_cons_zero, List.set_cons_succ]
      have HBbB := Lib.hid (And.intro hb3 (And.intro hb4.any (And.intro hold hJ.old)))
      clear h0 h1 h2 h3 h4 h5 h6 h7 h8 h9 h10 h11 hall hJ hb1 hb2 hb3 hb4 hold
      have HK := Lib.hid (HBbB.out.2.2.1.trans (Fr.drew (ch := nothing) W4))
      go_upto_region 4 with fail
      refine wp_region_any (by kernel_rfl) (region_invA (InvR W4.drew (.agg #[.slice tpa an tpc, .slice tga gn tgc])) (by kernel_rfl) (by kernel_rfl) InvR.start ?_ ?_)
      · intro j o hj σ W Z hJ hnj hdep hdf hA1 hA2
        have a1 := hA1 1 (by kernel_rfl)
        simp only [List.getElem?_toArray, List.getElem?_cons_succ, List.getElem?_cons_zero, Option.getD_some] at a1
        obtain ⟨c0, c1, htb⟩ := HTB.out W (HK.out.trans hJ.old)
        match j with
        | 0 =>
          obtain rfl := Option.some.inj hj
          go_simp
          refine (example_any W).mono ?_
          rintro e W2 ⟨v, rfl, hg, hb⟩
          dsimp only
          exact ⟨_, rfl, hJ.step (Fr.new hb) hg⟩
        | 1 =>
          obtain rfl := Option.some.inj hj
          go_simp
          exact ⟨_, rfl, hJ.step (Fr.refl _ _) rfl⟩
        | 2 =>
          obtain rfl := Option.some.inj hj
          go_simp
          exact ⟨_, rfl, hJ.step (Fr.alloc _ _) (ints_obj (xs := [1, 1]) (alloc_obj _ _) rfl (by decide) rfl (by decide))⟩
        | 3 =>
          obtain rfl := Option.some.inj hj
          obtain ⟨v0, e0⟩ := hdep 0 (by kernel_rfl)
          have a0 := hA2 0 31 v0 (by kernel_rfl) (Nat.le_of_ble_eq_true (by kernel_rfl)) e0
          obtain ⟨v1, e1⟩ := hdep 1 (by kernel_rfl)
          have a1' := hA2 1 32 v1 (by kernel_rfl) (Nat.le_of_ble_eq_true (by kernel_rfl)) e1
          obtain ⟨v2, e2⟩ := hdep 2 (by kernel_rfl)
          have a2 := hA2 2 33 v2 (by kernel_rfl) (Nat.le_of_ble_eq_true (by kernel_rfl)) e2
          have g0 : IsGram W v0 exG := hJ.all 0 v0 e0
          obtain rfl : v1 = _ := hJ.all 1 v1 e1
          have g2 : Ints W v2 [1, 1] := hJ.all 2 v2 e2
          go_simp
          refine (reductions_any exG exT [1, 1] v0 _ v2 W g0 htb g2 (by decide)).mono ?_
          rintro e W2 ⟨rv, er, st, rfl, hto, hi, hb⟩
          have hone := hto.one run_A
          simp only [Prod.mk.injEq] at hone
          obtain ⟨rfl, rfl⟩ := hone
          rw [stA_prods] at hi
          dsimp only
          exact ⟨_, rfl, hJ.step (Fr.new hb) hi⟩
        | 4 =>
          obtain rfl := Option.some.inj hj
          obtain ⟨v3, e3⟩ := hdep 3 (by kernel_rfl)
          have a3 := hA2 3 34 v3 (by kernel_rfl) (Nat.le_of_ble_eq_true (by kernel_rfl)) e3
          have g3 : Ints W v3 [2, 1, 1] := hJ.all 3 v3 e3
          go_simp
          exact ⟨_, rfl, hJ.step (Fr.refl _ _) g3⟩
        | n + 5 => exact absurd hj (by simp)
      · intro σ W5 hJ hall
        obtain ⟨u0, h0⟩ := hall 0 (Nat.le_of_ble_eq_true (by kernel_rfl))
        obtain ⟨u1, h1⟩ := hall 1 (Nat.le_of_ble_eq_true (by kernel_rfl))
        obtain ⟨u2, h2⟩ := hall 2 (Nat.le_of_ble_eq_true (by kernel_rfl))
        obtain ⟨u3, h3⟩ := hall 3 (Nat.le_of_ble_eq_true (by kernel_rfl))
        obtain ⟨rv, h4⟩ := hall 4 (Nat.le_of_ble_eq_true (by kernel_rfl))
        have g4 : Ints W5 rv [2, 1, 1] := hJ.all 4 rv h4
        have hold := hJ.old
        simp only [dstL, fillL, List.map_cons, List.map_nil, Nat.zero_add, Nat.reduceAdd, h0, h1, h2, h3, h4, Act.put, List.setIfInBounds_toArray, List.set_cons_zero, List.set_cons_succ]
        clear h0 h1 h2 h3 h4 hall hJ
        have k3 : Fr nothing W3 W5 := (Fr.drew W3).trans (HBbB.out.2.2.2.trans ((Fr.drew W4).trans hold))
        have hW5 : Fr nothing W2 W5 := HBbA.out.2.2.1.trans k3
        have hoA := k3.obj HBbA.out.1 id
        obtain ⟨ka, kc, rfl, -, -, hx⟩ := HBbA.out.2.1.fr k3 (fun _ _ _ => id) (fun _ _ _ => trivial)
        have hne : (treeOf 0 stA).kids ≠ .nil := fun e => by have h := tA_kids; rw [e] at h; cases h
        obtain ⟨g, o, rfl, -, hfo⟩ := hx.resolve_left hne
        have hx1 := hfo.at (i := 1) (by rw [tA_kids]; decide)
        have y0 := obj_cell hoA 0 (v := .int .i64 (treeOf 0 stA).p) rfl
        have y2 := obj_cell hoA 2 (v := .slice (some ⟨g, o, none⟩) (treeOf 0 stA).kids.len kc) rfl
        have y3 := hx1.1
        rw [tA_p] at y0
        rw [tA_kids] at y2
        rw [tA_kid, Nat.one_mul] at y3
        have hbw : Below w.heap.size w W5 := HBA.out.trans (hW5.below_new.mono HBA.out.size)
        have HS := Lib.hid fun (V : World) (hV : Fr nothing W5 V) (u : Value) (hu : Ints V u [2, 1, 1]) => same_any rv u [2, 1, 1] [2, 1, 1] V (g4.fr hV) hu
        have HQ := Lib.hid (And.intro hbw g4)
        clear hoA hfo hx1 hx k3 hW5 hold hbw g4 hne
        rw [stA_pos, stB_pos]
        have hna := ints_obj (xs := [2, 1, 1]) (n := 3) (alloc_obj W5 (Obj.cells #[.int .i64 2, .int .i64 1, .int .i64 1] 3 (0, 0))) rfl (by decide) rfl (by decide)
        have HS1 := Lib.hid (HS.out _ (Fr.alloc W5 (Obj.cells #[.int .i64 2, .int .i64 1, .int .i64 1] 3 (0, 0))) _ hna)
        obtain ⟨-, -, rva, rvc, rfl, -, -, -⟩ := id HQ.out.2
        clear HS hna
        go_wp2_with (go_at_call 15; refine HS1.out.mono ?_; rintro e w' ⟨rfl, q, rfl⟩)
        have hsm : sameI [2, 1, 1] [2, 1, 1] = true := by kernel_rfl
        rw [hsm]
        go_ret
        exact ⟨rfl, below_drewN (HQ.out.1.trans ((Fr.alloc (ch := nothing) W5 _).below_new.mono HQ.out.1.size)) _⟩
end Go.Proofs.Ytpnihegmhalcfaa
