/-
  Package scope: Use, Look.
-/
import Derived.Test.YticdoccaabfjaaaSc14
namespace Go.Proofs.Yticdoccaabfjaaa
open Go.RowKit
set_option maxHeartbeats 400000

/-- A call that hands on what look answers. -/
theorem AnsT.parts {w w' : World} {v : Value} {o : Option Ty} (h : AnsT w w' v o) : ∃ k n a l c b, v = .tuple #[.agg #[.int .u8 k, .string n, .slice a l c], .bool b] := by
  cases o with
  | none => exact ⟨0, _, _, _, _, _, h⟩
  | some t =>
    obtain ⟨u, rfl, hu⟩ := h
    obtain ⟨k, n, a, l, c, rfl, _⟩ := hu.parts
    exact ⟨k, n, a, l, c, _, rfl⟩
theorem AnsT.late {w w1 w2 w' : World} {v : Value} {o : Option Ty} {ch : Nat → Prop} (h : AnsT w1 w2 v o) (k : Fr ch w2 w') (h1 : w.heap.size ≤ w1.heap.size) (hc : ∀ g, w1.heap.size ≤ g → ¬ ch g) : AnsT w w' v o := by
  cases o with
  | none => exact h
  | some t =>
    obtain ⟨u, hv, hu⟩ := h
    exact ⟨u, hv, hu.fr k fun g hg => ⟨hc g hg.1, Nat.le_trans h1 hg.1, Nat.lt_of_lt_of_le hg.2 k.size⟩⟩
set_option maxRecDepth 100000 in
set_option maxHeartbeats 2000000 in
theorem use_in {w : World} {p : Option Addr} {s : Value} {R : World → World → Value → Prop} (hlook : ∀ w1, Fr nothing w w1 → w.heap.size < w1.heap.size → Calls Try.prog 23 #[.pointer p, s, .bool true] w1 fun e w' => ∃ v, e = .returned v ∧ (∃ k n a l c b, v = .tuple #[.agg #[.int .u8 k, .string n, .slice a l c], .bool b]) ∧ w'.heap[w.heap.size]? = w1.heap[w.heap.size]? ∧ R w1 w' v) :
    Calls Try.prog 9 #[.pointer p, s] w fun e w' => ∃ v w1 w2, e = .returned v ∧ R w1 w2 v ∧ Fr nothing w w1 ∧ w1.heap.size = w.heap.size + 1 ∧ Fr (only w.heap.size) w2 w' := by
  obtain ⟨w1, hw1⟩ : ∃ w1, w1 = w.alloc (.cells #[.int .u8 0, .string ⟨#[]⟩, .slice none 0 0] 37 (0, 0)) := ⟨_, rfl⟩
  have hfr : Fr nothing w w1 := by rw [hw1]; exact Fr.alloc _ _
  have hbx : w1.heap[w.heap.size]? = some (.cells #[.int .u8 0, .string ⟨#[]⟩, .slice none 0 0] 37 (0, 0)) := by rw [hw1]; exact alloc_obj w _
  have HL := Lib.hid (hlook w1 hfr (by rw [hw1]; simp))
  have HS : Hid (w1.heap.size = w.heap.size + 1) := Lib.hid (by rw [hw1]; simp)
  have HW := Lib.hid hw1
  have HBX := Lib.hid hbx
  have HF := Lib.hid hfr
  clear hlook hw1 hbx hfr
  go_enter Try.func9, Try.ntmps9
  go_upto_region 1 with fail
  rw [← HW.out]
  go_wp2_with (go_at_call 23; refine HL.out.mono ?_; rintro e w2 ⟨v, rfl, ⟨k, n, a, l, c, b, rfl⟩, ho, hR⟩; rw [HBX.out] at ho; have d0 := obj_cell ho 0 rfl; have d1 := obj_cell ho 1 rfl; have d2 := obj_cell ho 2 rfl; have f0 := obj_frozen ho 0; have f1 := obj_frozen ho 1; have f2 := obj_frozen ho 2)
  refine at_world (Q := bodyPost _ _ _ _ _) (F := fun W => W.cell? ⟨w.heap.size, 0, none⟩ = some (.int .u8 k) ∧ W.cell? ⟨w.heap.size, 1, none⟩ = some (.string n) ∧ W.cell? ⟨w.heap.size, 2, none⟩ = some (.slice a l c) ∧ Fr (only w.heap.size) w2 W) ?_ ?_
  · refine ⟨?_, ?_, ?_, ?_⟩
    · simp [go_sem, d0]
    · simp [go_sem, d1]
    · simp [go_sem, d2]
    · repeat (first | with_reducible exact Fr.refl _ _ | refine Fr.trans ?_ (Fr.setCell' _ _ rfl))
  · rintro W ⟨r0, r1, r2, hfW⟩
    exact bodyPost_ret (v := .tuple #[.agg #[.int .u8 k, .string n, .slice a l c], .bool b]) (by simp [results, Try.results9, go_sem, r0, r1, r2]) rfl ⟨_, w1, w2, rfl, hR, HF.out, HS.out, hfW⟩
set_option maxRecDepth 100000 in
set_option maxHeartbeats 2000000 in
theorem look_in {w : World} {p : Option Addr} {s : Value} {R : World → World → Value → Prop} (hlook : ∀ w1, Fr nothing w w1 → w.heap.size < w1.heap.size → Calls Try.prog 23 #[.pointer p, s, .bool false] w1 fun e w' => ∃ v, e = .returned v ∧ (∃ k n a l c b, v = .tuple #[.agg #[.int .u8 k, .string n, .slice a l c], .bool b]) ∧ w'.heap[w.heap.size]? = w1.heap[w.heap.size]? ∧ R w1 w' v) :
    Calls Try.prog 8 #[.pointer p, s] w fun e w' => ∃ v w1 w2, e = .returned v ∧ R w1 w2 v ∧ Fr nothing w w1 ∧ w1.heap.size = w.heap.size + 1 ∧ Fr (only w.heap.size) w2 w' := by
  obtain ⟨w1, hw1⟩ : ∃ w1, w1 = w.alloc (.cells #[.int .u8 0, .string ⟨#[]⟩, .slice none 0 0] 37 (0, 0)) := ⟨_, rfl⟩
  have hfr : Fr nothing w w1 := by rw [hw1]; exact Fr.alloc _ _
  have hbx : w1.heap[w.heap.size]? = some (.cells #[.int .u8 0, .string ⟨#[]⟩, .slice none 0 0] 37 (0, 0)) := by rw [hw1]; exact alloc_obj w _
  have HL := Lib.hid (hlook w1 hfr (by rw [hw1]; simp))
  have HS : Hid (w1.heap.size = w.heap.size + 1) := Lib.hid (by rw [hw1]; simp)
  have HW := Lib.hid hw1
  have HBX := Lib.hid hbx
  have HF := Lib.hid hfr
  clear hlook hw1 hbx hfr
  go_enter Try.func8, Try.ntmps8
  go_upto_region 1 with fail
  rw [← HW.out]
  go_wp2_with (go_at_call 23; refine HL.out.mono ?_; rintro e w2 ⟨v, rfl, ⟨k, n, a, l, c, b, rfl⟩, ho, hR⟩; rw [HBX.out] at ho; have d0 := obj_cell ho 0 rfl; have d1 := obj_cell ho 1 rfl; have d2 := obj_cell ho 2 rfl; have f0 := obj_frozen ho 0; have f1 := obj_frozen ho 1; have f2 := obj_frozen ho 2)
  refine at_world (Q := bodyPost _ _ _ _ _) (F := fun W => W.cell? ⟨w.heap.size, 0, none⟩ = some (.int .u8 k) ∧ W.cell? ⟨w.heap.size, 1, none⟩ = some (.string n) ∧ W.cell? ⟨w.heap.size, 2, none⟩ = some (.slice a l c) ∧ Fr (only w.heap.size) w2 W) ?_ ?_
  · refine ⟨?_, ?_, ?_, ?_⟩
    · simp [go_sem, d0]
    · simp [go_sem, d1]
    · simp [go_sem, d2]
    · repeat (first | with_reducible exact Fr.refl _ _ | refine Fr.trans ?_ (Fr.setCell' _ _ rfl))
  · rintro W ⟨r0, r1, r2, hfW⟩
    exact bodyPost_ret (v := .tuple #[.agg #[.int .u8 k, .string n, .slice a l c], .bool b]) (by simp [results, Try.results8, go_sem, r0, r1, r2]) rfl ⟨_, w1, w2, rfl, hR, HF.out, HS.out, hfW⟩
theorem Sc.restrict {w : World} {F : Nat → Prop} {p : Nat} {σ : List (List Nm)} (h : Sc w F p σ) : Sc w (fun g => F g ∧ g < w.heap.size) p σ := by
  obtain ⟨L, h1, h2⟩ := h
  exact ⟨L, h1.restrict, h2⟩
theorem Sc.wide {w : World} {F F' : Nat → Prop} {p : Nat} {σ : List (List Nm)} (h : Sc w F p σ) (hF : ∀ g, F g → F' g) : Sc w F' p σ := h.fr (Fr.refl nothing w) fun g hg => ⟨fun e => e, hF g hg⟩
theorem Fr.more {ch : Nat → Prop} {w w1 w2 w' : World} {b : Nat} (h1 : Fr nothing w w1) (h2 : Fr ch w1 w2) (h3 : Fr (only b) w2 w') (hb : w.heap.size ≤ b) : Fr ch w w' := by
  have h12 : Fr ch w w2 := h1.wide.trans h2
  exact ⟨h3.os.trans h12.os, h3.tape.trans h12.tape, h3.output.trans h12.output, Nat.le_trans h12.size h3.size, fun g hg hn => (h3.block g (Nat.lt_of_lt_of_le hg h12.size) fun e => by have e' : g = b := e; omega).trans (h12.block g hg hn)⟩
theorem sLook_at {w : World} {F : Nat → Prop} {p : Nat} {σ : List (List Nm)} (h : Sc w F p σ) (s : ByteArray) (u : Bool) : ∀ w1, Fr nothing w w1 → w.heap.size < w1.heap.size →
    Calls Try.prog 23 #[.pointer (some ⟨p, 0, none⟩), .string s, .bool u] w1 fun e w' => ∃ v, e = .returned v ∧ (∃ k n a l c b, v = .tuple #[.agg #[.int .u8 k, .string n, .slice a l c], .bool b]) ∧ w'.heap[w.heap.size]? = w1.heap[w.heap.size]? ∧
      (AnsT w1 w' v (findS σ s) ∧ Sc w' (fun g => F g ∧ g < w.heap.size) p (if u then useS σ s else σ) ∧ Fr (fun g => F g ∧ g < w.heap.size) w1 w') := by
  intro w1 hw1 hlt
  refine (sLook_in (h.restrict.new hw1) s u).mono ?_
  rintro e w' ⟨⟨v, he, hv⟩, hs, hf⟩
  exact ⟨v, he, hv.parts, hf.block _ hlt fun e => by omega, hv, hs, hf⟩
theorem sUse {w : World} {F : Nat → Prop} {p : Nat} {σ : List (List Nm)} (h : Sc w F p σ) (s : ByteArray) :
    Calls Try.prog 9 #[.pointer (some ⟨p, 0, none⟩), .string s] w fun e w' => (∃ v, e = .returned v ∧ AnsT w w' v (findS σ s)) ∧ Sc w' F p (useS σ s) ∧ Fr F w w' := by
  refine (use_in (sLook_at h s true)).mono ?_
  rintro e w' ⟨v, w1, w2, he, ⟨q1, q2, q3⟩, hf1, hs1, hf2⟩
  exact ⟨⟨v, he, q1.late hf2 (by omega) fun g hg e => by have e' : g = w.heap.size := e; omega⟩, (q2.fr hf2 fun g hg => ⟨fun e => by have e' : g = w.heap.size := e; omega, hg⟩).wide fun g hg => hg.1, (Fr.more hf1 q3 hf2 (Nat.le_refl _)).mono fun g _ hg => hg.1⟩
theorem sLook {w : World} {F : Nat → Prop} {p : Nat} {σ : List (List Nm)} (h : Sc w F p σ) (s : ByteArray) :
    Calls Try.prog 8 #[.pointer (some ⟨p, 0, none⟩), .string s] w fun e w' => (∃ v, e = .returned v ∧ AnsT w w' v (findS σ s)) ∧ Sc w' F p σ ∧ Fr F w w' := by
  refine (look_in (sLook_at h s false)).mono ?_
  rintro e w' ⟨v, w1, w2, he, ⟨q1, q2, q3⟩, hf1, hs1, hf2⟩
  exact ⟨⟨v, he, q1.late hf2 (by omega) fun g hg e => by have e' : g = w.heap.size := e; omega⟩, (q2.fr hf2 fun g hg => ⟨fun e => by have e' : g = w.heap.size := e; omega, hg⟩).wide fun g hg => hg.1, (Fr.more hf1 q3 hf2 (Nat.le_refl _)).mono fun g _ hg => hg.1⟩
/-- No scope, or one that nobody made. -/
def NoScope (w : World) : Option Addr → Prop
  | none => True
  | some a => ∃ p, a = ⟨p, 0, none⟩ ∧ p < w.heap.size ∧ w.cell? ⟨p, 1, none⟩ = some (.bool false)
theorem NoScope.new {w w' : World} {q : Option Addr} (h : NoScope w q) (k : Fr nothing w w') : NoScope w' q := by
  cases q with
  | none => exact h
  | some a =>
    obtain ⟨p, e, h1, h2⟩ := h
    exact ⟨p, e, Nat.lt_of_lt_of_le h1 k.size, k.cell h2 fun e => e⟩
theorem no_look {w : World} {q : Option Addr} (h : NoScope w q) (s : Value) (u : Bool) : ∀ w1, Fr nothing w w1 → w.heap.size < w1.heap.size →
    Calls Try.prog 23 #[.pointer q, s, .bool u] w1 fun e w' => ∃ v, e = .returned v ∧ (∃ k n a l c b, v = .tuple #[.agg #[.int .u8 k, .string n, .slice a l c], .bool b]) ∧ w'.heap[w.heap.size]? = w1.heap[w.heap.size]? ∧ (v = .tuple #[noType, .bool false] ∧ Fr nothing w1 w') := by
  intro w1 hw1 hlt
  cases q with
  | none =>
    refine (look_nil w1 s u).mono ?_
    rintro e w' ⟨he, hb⟩
    exact ⟨_, he, ⟨0, _, _, _, _, _, rfl⟩, hb.block _ hlt, rfl, Fr.new hb⟩
  | some a =>
    obtain ⟨p, rfl, _, hc⟩ := h
    refine (look_no w1 p (hw1.cell hc fun e => e) s u).mono ?_
    rintro e w' ⟨he, hb⟩
    exact ⟨_, he, ⟨0, _, _, _, _, _, rfl⟩, hb.block _ hlt, rfl, Fr.new hb⟩
theorem no_Use {w : World} {q : Option Addr} (h : NoScope w q) (s : Value) : Calls Try.prog 9 #[.pointer q, s] w fun e w' => e = .returned (.tuple #[noType, .bool false]) ∧ Fr nothing w w' := by
  refine (use_in (no_look h s true)).mono ?_
  rintro e w' ⟨v, w1, w2, he, ⟨rfl, q3⟩, hf1, hs1, hf2⟩
  exact ⟨he, Fr.more hf1 q3 hf2 (Nat.le_refl _)⟩
theorem no_Look {w : World} {q : Option Addr} (h : NoScope w q) (s : Value) : Calls Try.prog 8 #[.pointer q, s] w fun e w' => e = .returned (.tuple #[noType, .bool false]) ∧ Fr nothing w w' := by
  refine (look_in (no_look h s false)).mono ?_
  rintro e w' ⟨v, w1, w2, he, ⟨rfl, q3⟩, hf1, hs1, hf2⟩
  exact ⟨he, Fr.more hf1 q3 hf2 (Nat.le_refl _)⟩
theorem no_Open {w : World} {q : Option Addr} (h : NoScope w q) : Calls Try.prog 6 #[.pointer q] w fun e w' => e = .returned (.tuple #[]) ∧ Fr nothing w w' := by
  cases q with
  | none => exact (open_nil w).mono fun _ _ ⟨h1, h2⟩ => ⟨h1, h2 ▸ Fr.refl _ _⟩
  | some a =>
    obtain ⟨p, rfl, _, hc⟩ := h
    exact (open_no w p hc).mono fun _ _ ⟨h1, h2⟩ => ⟨h1, h2 ▸ Fr.refl _ _⟩
theorem no_Close {w : World} {q : Option Addr} (h : NoScope w q) : Calls Try.prog 7 #[.pointer q] w fun e w' => e = .returned (.tuple #[.slice none 0 0, .int .i64 1]) ∧ Fr nothing w w' := by
  cases q with
  | none => exact (close_nil w).mono fun _ _ ⟨h1, h2⟩ => ⟨h1, h2 ▸ Fr.refl _ _⟩
  | some a =>
    obtain ⟨p, rfl, _, hc⟩ := h
    exact (close_no w p hc).mono fun _ _ ⟨h1, h2⟩ => ⟨h1, h2 ▸ Fr.refl _ _⟩
theorem no_Deep {w : World} {q : Option Addr} (h : NoScope w q) : Calls Try.prog 10 #[.pointer q] w fun e w' => e = .returned (.int .i64 0) ∧ Fr nothing w w' := by
  cases q with
  | none => exact (deep_nil w).mono fun _ _ ⟨h1, h2⟩ => ⟨h1, h2 ▸ Fr.refl _ _⟩
  | some a =>
    obtain ⟨p, rfl, _, hc⟩ := h
    exact (deep_no w p hc).mono fun _ _ ⟨h1, h2⟩ => ⟨h1, h2 ▸ Fr.refl _ _⟩
theorem no_Declare {w : World} {q : Option Addr} (h : NoScope w q) (s k n a : Value) : Calls Try.prog 12 #[.pointer q, s, .agg #[k, n, a]] w fun e w' => e = .returned (.int .i64 1) ∧ Fr nothing w w' := by
  cases q with
  | none => exact (declare_nil w s k n a).mono fun _ _ ⟨h1, h2⟩ => ⟨h1, Fr.new h2⟩
  | some a =>
    obtain ⟨p, rfl, _, hc⟩ := h
    exact (declare_no w p hc s k n _).mono fun _ _ ⟨h1, h2⟩ => ⟨h1, Fr.new h2⟩
end Go.Proofs.Yticdoccaabfjaaa
