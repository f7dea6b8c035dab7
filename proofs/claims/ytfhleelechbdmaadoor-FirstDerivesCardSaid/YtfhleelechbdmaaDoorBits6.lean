/-
  Package bits: sets as rows of truths: New, Add, Has, All, Len.
-/
import Derived.Test.YtfhleelechbdmaaDoorBits5
import Derived.Test.YtfhleelechbdmaaDoorBitsRel
namespace Go.Proofs.YtfhleelechbdmaaDoor
open Go.RowKit Go.Shelf
set_option maxHeartbeats 400000

/-- Block p is a set that holds what the truths say. -/
def PSet (w : World) (B p : Nat) (v : Value) (bs : List Bool) : Prop := ∃ ws, IsSet w B p bs.length v ws ∧ Rel ws bs
theorem PSet.fr {w w' : World} {ch : Nat → Prop} {B p : Nat} {v : Value} {bs : List Bool} (h : PSet w B p v bs) (k : Fr ch w w') (h1 : ¬ ch p) (h2 : ∀ g, v.ownBlock = some g → ¬ ch g) : PSet w' B p v bs := by
  obtain ⟨ws, h, hr⟩ := h
  exact ⟨ws, h.fr k h1 h2, hr⟩
theorem PSet.fresh {w w' : World} {B p : Nat} {v : Value} {bs : List Bool} (h : PSet w B p v bs) (k : Fr nothing w w') : PSet w' B p v bs := h.fr k (fun e => e) fun _ _ e => e
theorem PSet.len {w : World} {B p : Nat} {v : Value} {bs : List Bool} (h : PSet w B p v bs) : bs.length ≤ 4096 := by
  obtain ⟨ws, h, _⟩ := h
  exact h.hn
theorem pNew (n : Nat) (w : World) (hn : n ≤ 4096) :
    Calls Tryd.prog 22 #[.int .i64 n] w fun e w' => ∃ p v, e = .returned (.pointer (some ⟨p, 0, none⟩)) ∧ PSet w' w.heap.size p v (List.replicate n false) ∧ Below w.heap.size w w' :=
  (new_yes n w hn).mono fun e w' ⟨p, v, he, hs, hb⟩ => ⟨p, v, he, ⟨_, by rw [List.length_replicate]; exact hs, Rel.zero _ _⟩, hb⟩
theorem pAdd (w : World) (B p : Nat) (v : Value) (bs : List Bool) (h : PSet w B p v bs) (x : Int) :
    Calls Tryd.prog 24 #[.pointer (some ⟨p, 0, none⟩), .int .i64 x] w fun e w' => e = .returned (.bool (newB1 bs x)) ∧ PSet w' B p v (addB bs x) ∧ Fr (fun k => newB1 bs x = true ∧ v.ownBlock = some k) w w' := by
  obtain ⟨ws, h, hr⟩ := h
  have old : newB1 bs x = false → ∀ e w', (e = Ending.returned (.bool false) ∧ w = w') → e = Ending.returned (.bool (newB1 bs x)) ∧ PSet w' B p v (addB bs x) ∧ Fr (fun k => newB1 bs x = true ∧ v.ownBlock = some k) w w' := by
    rintro hn e w' ⟨rfl, rfl⟩
    rw [hn, addB_old _ _ hn]
    exact ⟨rfl, ⟨ws, h, hr⟩, Fr.refl _ _⟩
  by_cases hx : 0 ≤ x ∧ x < bs.length
  · obtain ⟨i, rfl⟩ : ∃ i : Nat, x = i := ⟨x.toNat, by omega⟩
    have e : newB1 bs i = !bs[i]?.getD false := by
      unfold newB1
      rw [decide_eq_true hx.1, decide_eq_true hx.2, Bool.true_and, Bool.true_and, Int.toNat_natCast]
    cases hb : bs[i]?.getD false
    · rw [hb] at e
      refine (set_add_new w B p _ v ws h i (by omega) (by rw [hr, hb])).mono ?_
      rintro e' w' ⟨rfl, hS, hF⟩
      have ea : addB bs i = bs.set i true := by unfold addB; rw [if_pos hx.1, Int.toNat_natCast]
      rw [e, ea]
      exact ⟨rfl, ⟨_, by rw [List.length_set]; exact hS, hr.put i (by omega) (by have := h.len; omega)⟩, hF.mono fun _ _ e => ⟨rfl, e⟩⟩
    · rw [hb] at e
      exact (set_add_old w B p _ v ws h i (by omega) (by rw [hr, hb])).mono (old e)
  · have e : newB1 bs x = false := by
      unfold newB1
      by_cases h0 : 0 ≤ x
      · rw [decide_eq_false (show ¬ x < bs.length by omega), Bool.false_and, Bool.and_false]
      · rw [decide_eq_false h0, Bool.false_and]
    exact (set_add_out w B p _ v ws h x (by omega)).mono (old e)
theorem pAll (w : World) (B p : Nat) (v : Value) (bs : List Bool) (h : PSet w B p v bs) (hT : Tab w) :
    Calls Tryd.prog 20 #[.pointer (some ⟨p, 0, none⟩)] w fun e w' => ∃ r, e = .returned r ∧ Below w.heap.size w w' ∧
      w'.ownsRow w.heap.size 3 1 r (trues bs).length ((trues bs).map fun x : Nat => Value.int .i64 (x : Int)) := by
  obtain ⟨ws, h, hr⟩ := h
  rw [← hr.elems]
  exact set_all w B p _ v ws h hT (World.block_lt_of_cell? w _ (hT 0 (by omega)))

theorem and_u64 (m k : Nat) (K : Int) (hK : (k : Int) = K) (hm : m < 18446744073709551616) (hk : k < 18446744073709551616) : bits BinOp.and IntKind.u64 (m : Int) K = ((m &&& k : Nat) : Int) := by
  subst hK
  exact bits_and_u64_nat m k hm hk
theorem and_i64 (a b : Nat) (ha : a < 9223372036854775808) (hb : b < 9223372036854775808) : bits BinOp.and IntKind.i64 (a : Int) (b : Int) = ((a &&& b : Nat) : Int) := by
  have hx : a &&& b < 2 ^ 63 := Nat.and_lt_two_pow _ (by omega)
  have h1 : (BitVec.ofInt 64 (a : Int)).toNat = a := by
    rw [BitVec.ofInt_natCast, BitVec.toNat_ofNat]; exact Nat.mod_eq_of_lt (by omega)
  have h2 : (BitVec.ofInt 64 (b : Int)).toNat = b := by
    rw [BitVec.ofInt_natCast, BitVec.toNat_ofNat]; exact Nat.mod_eq_of_lt (by omega)
  show IntKind.i64.wrap ((BitVec.ofInt 64 (a : Int) &&& BitVec.ofInt 64 (b : Int)).toNat : Int) = _
  rw [BitVec.toNat_and, h1, h2, IntKind.wrap_i64]
  omega
theorem fold_u64 (x s p k : Nat) (P K : Int) (hp : p = 2 ^ s) (hP : (p : Int) = P) (hK : (k : Int) = K) (hx : x < 18446744073709551616) (hk : k < 18446744073709551616) (hb : foldB s x k < 18446744073709551616) :
    IntKind.u64.wrap (bits BinOp.and IntKind.u64 ((x : Int) / P) K + bits BinOp.and IntKind.u64 (x : Int) K) = ((foldB s x k : Nat) : Int) := by
  subst hp hP
  have e : (x : Int) / ((2 ^ s : Nat) : Int) = ((x / 2 ^ s : Nat) : Int) := by simp
  rw [e, and_u64 _ k K hK (Nat.lt_of_le_of_lt (Nat.div_le_self _ _) hx) hk, and_u64 x k K hK hx hk, ← Int.natCast_add]
  unfold foldB at hb ⊢
  rw [IntKind.wrap_u64]
  omega
theorem plus_u64 (y d : Nat) (D : Int) (hD : (d : Int) = D) (h : y + y / d < 18446744073709551616) : IntKind.u64.wrap ((y : Int) + (y : Int) / D) = ((y + y / d : Nat) : Int) := by
  subst hD
  have e : (y : Int) / (d : Int) = ((y / d : Nat) : Int) := by simp
  rw [e, ← Int.natCast_add, IntKind.wrap_u64]
  generalize y + y / d = t at *
  omega
theorem bytes_lt : ∀ l : List Nat, (∀ b ∈ l, b < 256) → bytes l < 256 ^ l.length
  | [], _ => by simp [bytes]
  | b :: l, h => by
    have h1 := bytes_lt l fun x hx => h x (by simp [hx])
    have h2 := h b (by simp)
    rw [bytes, List.length_cons, Nat.pow_succ]
    omega
theorem fold1_lt (x : Nat) (h : x < 18446744073709551616) : foldB 1 x (rep 85 8) < 18446744073709551616 := by
  have e := bytes_byteL 8 x (by simpa using h)
  have h1 := fold_bytes 1 85 (by omega) (by decide) (byteL 8 x) (byteL_lt 8 x)
  rw [e, byteL_len] at h1
  rw [h1]
  have h2 := bytes_lt ((byteL 8 x).map fun b => foldB 1 b 85) (by
    intro b hb
    obtain ⟨c, hc, rfl⟩ := List.mem_map.1 hb
    exact (nib_fin ⟨c, byteL_lt 8 x c hc⟩).2.2.2)
  rw [List.length_map, byteL_len] at h2
  simpa using h2
theorem sum_le64 (l : List Nat) : (l.map pop).sum ≤ 64 * l.length := by
  induction l with
  | nil => simp
  | cons a l ih => have := pop_le a; simp only [List.map_cons, List.sum_cons, List.length_cons]; omega
end Go.Proofs.YtfhleelechbdmaaDoor
