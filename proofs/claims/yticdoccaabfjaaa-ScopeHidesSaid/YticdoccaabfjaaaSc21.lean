/-
  Chapter 06's statements: do: a step of a scope.
-/
import Derived.Test.YticdoccaabfjaaaSc20
namespace Go.Proofs.Yticdoccaabfjaaa
open Go.RowKit
set_option maxHeartbeats 400000

def closeS (σ : List (List Nm)) : List (List Nm) × Int := if σ = [] then ([], 6) else (σ.dropLast, 0)
def declS (σ : List (List Nm)) (s : ByteArray) (t : Ty) : List (List Nm) × Int :=
  match σ.getLast? with
  | none => (σ, 6)
  | some l => if hasS l s then (σ, 110) else (σ.dropLast ++ [l ++ [⟨s, t, false⟩]], 0)
def doS (σ : List (List Nm)) (k : Nat) (s : ByteArray) (t : Ty) : List (List Nm) × Int :=
  if k ≤ 1 then (σ ++ [[]], 0) else if k = 2 then closeS σ else if k ≤ 4 then declS σ s t else if k = 5 then (useS σ s, 0) else (σ, 0)
theorem closeS_snoc (σ : List (List Nm)) (l : List Nm) : closeS (σ ++ [l]) = (σ, 0) := by simp [closeS]
theorem declS_snoc (σ : List (List Nm)) (l : List Nm) (s : ByteArray) (t : Ty) : declS (σ ++ [l]) s t = if hasS l s then (σ ++ [l], 110) else (σ ++ [l ++ [⟨s, t, false⟩]], 0) := by
  simp [declS]
theorem declS_nil (s : ByteArray) (t : Ty) : declS [] s t = ([], 6) := rfl
theorem grow_self (F : Nat → Prop) {w w' : World} (g : Nat) (h : F g) : grow F w w' g := .inl h
theorem cCloseAny {w : World} {F : Nat → Prop} {p : Nat} {σ : List (List Nm)} (h : Sc w F p σ) (hf : Fit σ) :
    Calls Try.prog 7 #[.pointer (some ⟨p, 0, none⟩)] w fun e w' => (∃ a n c, e = .returned (.tuple #[.slice a n c, .int .i64 (closeS σ).2])) ∧ Sc w' F p (closeS σ).1 ∧ Fr F w w' := by
  rcases List.eq_nil_or_concat σ with rfl | ⟨σ0, l, e⟩
  · refine (sClose_empty h).mono ?_
    rintro e w' ⟨rfl, rfl⟩
    exact ⟨⟨_, _, _, rfl⟩, h, Fr.refl _ _⟩
  · rw [List.concat_eq_append] at e
    subst e
    refine (sClose h hf).mono ?_
    rintro e w' ⟨⟨v, rfl, a, c, rfl, _⟩, h2, h3⟩
    rw [closeS_snoc]
    exact ⟨⟨_, _, _, rfl⟩, h2, h3⟩
theorem cDeclareAny {w : World} {F : Nat → Prop} {p : Nat} {σ : List (List Nm)} (h : Sc w F p σ) (hf : Fit σ) (s : ByteArray) {t : Ty} {v : Value} {S : Nat → Prop} (ht : IsTy w S t v) (hSF : ∀ g, S g → ¬ F g) :
    Calls Try.prog 12 #[.pointer (some ⟨p, 0, none⟩), .string s, v] w fun e w' => e = .returned (.int .i64 (declS σ s t).2) ∧ Sc w' (grow F w w') p (declS σ s t).1 ∧ Fr F w w' := by
  obtain ⟨k, n, a, l, c, rfl, _⟩ := ht.parts
  rcases List.eq_nil_or_concat σ with rfl | ⟨σ0, l, e⟩
  · refine (sDeclare_empty h _ _ _ _).mono ?_
    rintro e w' ⟨rfl, hb⟩
    exact ⟨rfl, (h.new (Fr.new hb)).wide fun g hg => .inl hg, (Fr.new hb).wide⟩
  · rw [List.concat_eq_append] at e
    subst e
    rw [declS_snoc]
    cases hs : hasS l s with
    | true =>
      refine (sDeclare_twice h hf s hs _ _ _).mono ?_
      rintro e w' ⟨rfl, hb⟩
      exact ⟨rfl, (h.new (Fr.new hb)).wide fun g hg => .inl hg, (Fr.new hb).wide⟩
    | false => exact sDeclare_ok h hf s hs ht hSF

theorem IsTy.keep {w w' : World} {S ch : Nat → Prop} {t : Ty} {v : Value} (h : IsTy w S t v) (k : Fr ch w w') (hS : ∀ g, S g → ¬ ch g) : IsTy w' S t v := h.fr k fun g s => ⟨hS g s, s⟩
set_option maxRecDepth 100000 in
set_option maxHeartbeats 4000000 in
theorem do_any {w : World} {F : Nat → Prop} {p : Nat} {σ : List (List Nm)} (h : Sc w F p σ) (hf : Fit σ) (op : Int) (hop : -9223372036854775808 ≤ op ∧ op ≤ 9223372036854775807) (s : ByteArray) {t : Ty} {k : Int} {l c : Nat} {n : ByteArray} {a : Option Addr} {S : Nat → Prop} (ht : IsTy w S t (.agg #[.int .u8 k, .string n, .slice a l c])) (hSF : ∀ g, S g → ¬ F g) :
    Calls Try.prog 16 #[.pointer (some ⟨p, 0, none⟩), .agg #[.int .i64 op, .string s, .int .u8 k, .string n, .slice a l c]] w fun e w' => e = .returned (.int .i64 (doS σ (pickN 8 op) s t).2) ∧ Sc w' (grow F w w') p (doS σ (pickN 8 op) s t).1 ∧ Fr F w w' := by
  obtain ⟨w1, hw1⟩ : ∃ w1, w1 = w.alloc (.cells #[.int .i64 op, .string s, .int .u8 k, .string n, .slice a l c] 49 (0, 0)) := ⟨_, rfl⟩
  have hfr : Fr nothing w w1 := by rw [hw1]; exact Fr.alloc _ _
  have hbx : w1.heap[w.heap.size]? = some (.cells #[.int .i64 op, .string s, .int .u8 k, .string n, .slice a l c] 49 (0, 0)) := by rw [hw1]; exact alloc_obj w _
  have hs1 : w1.heap.size = w.heap.size + 1 := by rw [hw1]; simp
  have hS1 : Sc w1 F p σ := h.new hfr
  have ht1 : IsTy w1 S t (.agg #[.int .u8 k, .string n, .slice a l c]) := ht.new hfr
  have c0 := obj_cell hbx 0 rfl
  have c1 := obj_cell hbx 1 rfl
  have c2 := obj_cell hbx 2 rfl
  have c3 := obj_cell hbx 3 rfl
  have c4 := obj_cell hbx 4 rfl
  have HP := Lib.hid (pick_any op 8 (by omega) (by omega) w1 hop)
  have HO := Lib.hid (sOpen hS1 hf)
  have HC := Lib.hid (cCloseAny hS1 hf)
  have HD := Lib.hid (cDeclareAny hS1 hf s ht1 hSF)
  have HU := Lib.hid (sUse hS1 s)
  have HL := Lib.hid (sLook hS1 s)
  have HW := Lib.hid hw1
  have HF := Lib.hid hfr
  have HZ := Lib.hid hs1
  have hlt := pickN_lt 8 op (by omega)
  clear h hw1 hfr hbx hs1 hS1 ht1 ht hop
  generalize pickN 8 op = q at *
  have hq : q = 0 ∨ q = 1 ∨ q = 2 ∨ q = 3 ∨ q = 4 ∨ q = 5 ∨ q = 6 ∨ q = 7 := by omega
  have hg1 : ∀ (w' : World) (g : Nat), grow F w1 w' g → grow F w w' g := fun w' g hg => hg.imp id fun e => ⟨by have := HZ.out; omega, e.2⟩
  go_enter Try.func16, Try.ntmps16
  go_upto_region 1 with fail
  rw [← HW.out]
  clear hlt
  rcases hq with rfl | rfl | rfl | rfl | rfl | rfl | rfl | rfl
  all_goals
    go_wp2_with (first
      | (go_at_call 18; refine HP.out.mono ?_; rintro e w' ⟨rfl, rfl⟩)
      | (go_at_call 6; refine HO.out.mono ?_; rintro e w2 ⟨rfl, hs2, hf2⟩)
      | (go_at_call 7; refine HC.out.mono ?_; rintro e w2 ⟨⟨a2, n2, c2, rfl⟩, hs2, hf2⟩)
      | (go_at_call 12; refine HD.out.mono ?_; rintro e w2 ⟨rfl, hs2, hf2⟩)
      | (go_at_call 9; refine HU.out.mono ?_; rintro e w2 ⟨⟨v2, rfl, _⟩, hs2, hf2⟩)
      | (go_at_call 8; refine HL.out.mono ?_; rintro e w2 ⟨⟨v2, rfl, _⟩, hs2, hf2⟩))
    go_ret
    refine ⟨rfl, ?_, HF.out.wide.trans hf2⟩
    first
      | exact hs2.wide (hg1 _)
      | exact hs2.wide fun g hg => .inl hg
end Go.Proofs.Yticdoccaabfjaaa
