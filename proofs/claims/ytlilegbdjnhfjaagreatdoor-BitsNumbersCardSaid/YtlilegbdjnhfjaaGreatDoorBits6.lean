/-
  Package bits: sets as rows of truths: New, Add, Has, All, Len.
-/
import Derived.Test.YtlilegbdjnhfjaaGreatDoorBits5
import Derived.Test.YtlilegbdjnhfjaaGreatDoorBitsRel
namespace Go.Proofs.YtlilegbdjnhfjaaGreatDoor
open Go.RowKit Go.Shelf
set_option maxHeartbeats 400000

/-- Block p is a set that holds what the truths say. -/
def PSet (w : World) (B p : Nat) (v : Value) (bs : List Bool) : Prop := ∃ ws, IsSet w B p bs.length v ws ∧ Rel ws bs
theorem PSet.fr {w w' : World} {ch : Nat → Prop} {B p : Nat} {v : Value} {bs : List Bool} (h : PSet w B p v bs) (k : Fr ch w w') (h1 : ¬ ch p) (h2 : ∀ g, v.ownBlock = some g → ¬ ch g) : PSet w' B p v bs := by
  obtain ⟨ws, h, hr⟩ := h
  exact ⟨ws, h.fr k h1 h2, hr⟩
theorem PSet.fresh {w w' : World} {B p : Nat} {v : Value} {bs : List Bool} (h : PSet w B p v bs) (k : Fr nothing w w') : PSet w' B p v bs := h.fr k (fun e => e) fun _ _ e => e
theorem PSet.len {w : World} {B p : Nat} {v : Value} {bs : List Bool} (h : PSet w B p v bs) : bs.length ≤ 4096 := by
  obtain ⟨ws, h, _⟩ := h
  exact h.hn
theorem pNew (n : Nat) (w : World) (hn : n ≤ 4096) :
    Calls Tryz.prog 5 #[.int .i64 n] w fun e w' => ∃ p v, e = .returned (.pointer (some ⟨p, 0, none⟩)) ∧ PSet w' w.heap.size p v (List.replicate n false) ∧ Below w.heap.size w w' :=
  (new_yes n w hn).mono fun e w' ⟨p, v, he, hs, hb⟩ => ⟨p, v, he, ⟨_, by rw [List.length_replicate]; exact hs, Rel.zero _ _⟩, hb⟩
theorem pHas (w : World) (B p : Nat) (v : Value) (bs : List Bool) (h : PSet w B p v bs) (x : Int) :
    Calls Tryz.prog 18 #[.pointer (some ⟨p, 0, none⟩), .int .i64 x] w fun e w' => e = .returned (.bool (hasB bs x)) ∧ w = w' := by
  obtain ⟨ws, h, hr⟩ := h
  by_cases hx : 0 ≤ x ∧ x < bs.length
  · obtain ⟨i, rfl⟩ : ∃ i : Nat, x = i := ⟨x.toNat, by omega⟩
    have hh := set_has_yes w B p _ v ws h i (by omega)
    rw [hr] at hh
    have e : hasB bs i = bs[i]?.getD false := by
      unfold hasB
      rw [decide_eq_true hx.1, decide_eq_true hx.2, Bool.true_and, Bool.true_and, Int.toNat_natCast]
    rw [e]
    exact hh
  · have e : hasB bs x = false := by
      unfold hasB
      by_cases h0 : 0 ≤ x
      · rw [decide_eq_false (show ¬ x < bs.length by omega), Bool.false_and, Bool.and_false]
      · rw [decide_eq_false h0, Bool.false_and]
    rw [e]
    exact set_has_no w B p _ v ws h x (by omega)
theorem pAdd (w : World) (B p : Nat) (v : Value) (bs : List Bool) (h : PSet w B p v bs) (x : Int) :
    Calls Tryz.prog 13 #[.pointer (some ⟨p, 0, none⟩), .int .i64 x] w fun e w' => e = .returned (.bool (newB1 bs x)) ∧ PSet w' B p v (addB bs x) ∧ Fr (fun k => newB1 bs x = true ∧ v.ownBlock = some k) w w' := by
  obtain ⟨ws, h, hr⟩ := h
  have old : newB1 bs x = false → ∀ e w', (e = Ending.returned (.bool false) ∧ w = w') → e = Ending.returned (.bool (newB1 bs x)) ∧ PSet w' B p v (addB bs x) ∧ Fr (fun k => newB1 bs x = true ∧ v.ownBlock = some k) w w' := by
    rintro hn e w' ⟨rfl, rfl⟩
    rw [hn, addB_old _ _ hn]
    exact ⟨rfl, ⟨ws, h, hr⟩, Fr.refl _ _⟩
  by_cases hx : 0 ≤ x ∧ x < bs.length
  · obtain ⟨i, rfl⟩ : ∃ i : Nat, x = i := ⟨x.toNat, by omega⟩
    have e : newB1 bs i = !bs[i]?.getD false := by
      unfold newB1
      rw [decide_eq_true hx.1, decide_eq_true hx.2, Bool.true_and, Bool.true_and, Int.toNat_natCast]
    cases hb : bs[i]?.getD false
    · rw [hb] at e
      refine (set_add_new w B p _ v ws h i (by omega) (by rw [hr, hb])).mono ?_
      rintro e' w' ⟨rfl, hS, hF⟩
      have ea : addB bs i = bs.set i true := by unfold addB; rw [if_pos hx.1, Int.toNat_natCast]
      rw [e, ea]
      exact ⟨rfl, ⟨_, by rw [List.length_set]; exact hS, hr.put i (by omega) (by have := h.len; omega)⟩, hF.mono fun _ _ e => ⟨rfl, e⟩⟩
    · rw [hb] at e
      exact (set_add_old w B p _ v ws h i (by omega) (by rw [hr, hb])).mono (old e)
  · have e : newB1 bs x = false := by
      unfold newB1
      by_cases h0 : 0 ≤ x
      · rw [decide_eq_false (show ¬ x < bs.length by omega), Bool.false_and, Bool.and_false]
      · rw [decide_eq_false h0, Bool.false_and]
    exact (set_add_out w B p _ v ws h x (by omega)).mono (old e)
theorem pAll (w : World) (B p : Nat) (v : Value) (bs : List Bool) (h : PSet w B p v bs) (hT : Tab w) :
    Calls Tryz.prog 10 #[.pointer (some ⟨p, 0, none⟩)] w fun e w' => ∃ r, e = .returned r ∧ Below w.heap.size w w' ∧
      w'.ownsRow w.heap.size 3 1 r (trues bs).length ((trues bs).map fun x : Nat => Value.int .i64 (x : Int)) := by
  obtain ⟨ws, h, hr⟩ := h
  rw [← hr.elems]
  exact set_all w B p _ v ws h hT (World.block_lt_of_cell? w _ (hT 0 (by omega)))

theorem and_u64 (m k : Nat) (K : Int) (hK : (k : Int) = K) (hm : m < 18446744073709551616) (hk : k < 18446744073709551616) : bits BinOp.and IntKind.u64 (m : Int) K = ((m &&& k : Nat) : Int) := by
  subst hK
  exact bits_and_u64_nat m k hm hk
theorem and_i64 (a b : Nat) (ha : a < 9223372036854775808) (hb : b < 9223372036854775808) : bits BinOp.and IntKind.i64 (a : Int) (b : Int) = ((a &&& b : Nat) : Int) := by
  have hx : a &&& b < 2 ^ 63 := Nat.and_lt_two_pow _ (by omega)
  have h1 : (BitVec.ofInt 64 (a : Int)).toNat = a := by
    rw [BitVec.ofInt_natCast, BitVec.toNat_ofNat]; exact Nat.mod_eq_of_lt (by omega)
  have h2 : (BitVec.ofInt 64 (b : Int)).toNat = b := by
    rw [BitVec.ofInt_natCast, BitVec.toNat_ofNat]; exact Nat.mod_eq_of_lt (by omega)
  show IntKind.i64.wrap ((BitVec.ofInt 64 (a : Int) &&& BitVec.ofInt 64 (b : Int)).toNat : Int) = _
  rw [BitVec.toNat_and, h1, h2, IntKind.wrap_i64]
  omega
theorem fold_u64 (x s p k : Nat) (P K : Int) (hp : p = 2 ^ s) (hP : (p : Int) = P) (hK : (k : Int) = K) (hx : x < 18446744073709551616) (hk : k < 18446744073709551616) (hb : foldB s x k < 18446744073709551616) :
    IntKind.u64.wrap (bits BinOp.and IntKind.u64 ((x : Int) / P) K + bits BinOp.and IntKind.u64 (x : Int) K) = ((foldB s x k : Nat) : Int) := by
  subst hp hP
  have e : (x : Int) / ((2 ^ s : Nat) : Int) = ((x / 2 ^ s : Nat) : Int) := by simp
  rw [e, and_u64 _ k K hK (Nat.lt_of_le_of_lt (Nat.div_le_self _ _) hx) hk, and_u64 x k K hK hx hk, ← Int.natCast_add]
  unfold foldB at hb ⊢
  rw [IntKind.wrap_u64]
  omega
theorem plus_u64 (y d : Nat) (D : Int) (hD : (d : Int) = D) (h : y + y / d < 18446744073709551616) : IntKind.u64.wrap ((y : Int) + (y : Int) / D) = ((y + y / d : Nat) : Int) := by
  subst hD
  have e : (y : Int) / (d : Int) = ((y / d : Nat) : Int) := by simp
  rw [e, ← Int.natCast_add, IntKind.wrap_u64]
  generalize y + y / d = t at *
  omega
theorem bytes_lt : ∀ l : List Nat, (∀ b ∈ l, b < 256) → bytes l < 256 ^ l.length
  | [], _ => by simp [bytes]
  | b :: l, h => by
    have h1 := bytes_lt l fun x hx => h x (by simp [hx])
    have h2 := h b (by simp)
    rw [bytes, List.length_cons, Nat.pow_succ]
    omega
theorem fold1_lt (x : Nat) (h : x < 18446744073709551616) : foldB 1 x (rep 85 8) < 18446744073709551616 := by
  have e := bytes_byteL 8 x (by simpa using h)
  have h1 := fold_bytes 1 85 (by omega) (by decide) (byteL 8 x) (byteL_lt 8 x)
  rw [e, byteL_len] at h1
  rw [h1]
  have h2 := bytes_lt ((byteL 8 x).map fun b => foldB 1 b 85) (by
    intro b hb
    obtain ⟨c, hc, rfl⟩ := List.mem_map.1 hb
    exact (nib_fin ⟨c, byteL_lt 8 x c hc⟩).2.2.2)
  rw [List.length_map, byteL_len] at h2
  simpa using h2
/-- OnesCount64. -/
theorem ones_any (x : Nat) (h : x < 18446744073709551616) (w : World) : Calls Tryz.prog 40 #[.int .u64 x] w fun e w' => e = .returned (.int .i64 (pop x)) ∧ w = w' := by
  obtain ⟨h1, h2, h3⟩ := ones_eq x h
  have hb1 := fold1_lt x h
  have e1 := fold_u64 x 1 2 (rep 85 8) 2 6148914691236517205 rfl rfl rfl h (by decide) hb1
  have e2 := fold_u64 (foldB 1 x (rep 85 8)) 2 4 (rep 51 8) 4 3689348814741910323 rfl rfl rfl hb1 (by decide) (by show two x < _; omega)
  rw [show foldB 2 (foldB 1 x (rep 85 8)) (rep 51 8) = two x from rfl] at e2
  generalize hy : two x = y at *
  have e3 : IntKind.u64.wrap ((y : Int) / 16 + (y : Int)) = ((y / 16 + y : Nat) : Int) := by
    rw [show (y : Int) / 16 = ((y / 16 : Nat) : Int) by simp, ← Int.natCast_add, IntKind.wrap_u64]
    omega
  have e4 := and_u64 (y / 16 + y) (rep 15 8) 1085102592571150095 rfl (by omega) (by decide)
  generalize hz : (y / 16 + y) &&& rep 15 8 = z at *
  have e5 := plus_u64 z 256 256 rfl (by omega)
  have e6 := plus_u64 (z + z / 256) 65536 65536 rfl (by omega)
  have e7 := plus_u64 (z + z / 256 + (z + z / 256) / 65536) 4294967296 4294967296 rfl (by omega)
  have e8 : four y = (z + z / 256 + (z + z / 256) / 65536 + (z + z / 256 + (z + z / 256) / 65536) / 4294967296) &&& 127 := by
    unfold four
    rw [hz]
  rw [e8] at h1
  have hw : z + z / 256 + (z + z / 256) / 65536 + (z + z / 256 + (z + z / 256) / 65536) / 4294967296 < 9223372036854775808 := by omega
  clear e8
  have E1 := Lib.hid e1
  have E2 := Lib.hid e2
  have E3 := Lib.hid e3
  have E4 := Lib.hid e4
  have E5 := Lib.hid e5
  have E6 := Lib.hid e6
  have E7 := Lib.hid e7
  clear e1 e2 e3 e4 e5 e6 e7
  go_enter Tryz.func40, Tryz.ntmps40
  go_wp2
  go_ret
  refine ⟨?_, rfl⟩
  rw [E1.out, E2.out, E3.out, E4.out, E5.out, E6.out, E7.out]
  generalize hv : z + z / 256 + (z + z / 256) / 65536 + (z + z / 256 + (z + z / 256) / 65536) / 4294967296 = v at *
  refine congrArg (fun t => Ending.returned (Value.int IntKind.i64 t)) ?_
  have hv64 : wrap64 (v : Int) = (v : Int) := by unfold wrap64; omega
  rw [hv64, ← h1]
  exact and_i64 v 127 hw (by decide)

theorem sum_le64 (l : List Nat) : (l.map pop).sum ≤ 64 * l.length := by
  induction l with
  | nil => simp
  | cons a l ih => have := pop_le a; simp only [List.map_cons, List.sum_cons, List.length_cons]; omega
theorem rowlen_any (a : Option Addr) (g cap : Nat) (ws : List Nat) (w : World) (ha : ws ≠ [] → a = some ⟨g, 0, none⟩) (hl : ws.length ≤ 64) (hw : ∀ u ∈ ws, u < 18446744073709551616) (hc : Cells w g 0 (words ws)) :
    Calls Tryz.prog 28 #[.slice a ws.length cap] w fun e w' => e = .returned (.int .i64 (((ws.map pop).sum : Nat) : Int)) ∧ w = w' := by
  have hs := sum_le64 ws
  go_enter Tryz.func28, Tryz.ntmps28
  go_wp2
  go_loopw [3, 8] (fun n i wr => ∃ k : Nat, k ≤ ws.length ∧ i = .int .i64 k ∧ n = .int .i64 ((((ws.take k).map pop).sum : Nat) : Int) ∧ wr = w)
    (fun _ i _ => ws.length - (intOf i).toNat)
  case atStart => exact ⟨0, Nat.zero_le _, rfl, rfl, rfl⟩
  case round =>
    obtain ⟨k, hk, rfl, rfl, rfl⟩ := hrel
    by_cases hlt : k < ws.length
    · obtain rfl : a = some ⟨g, 0, none⟩ := ha (by rintro rfl; simp at hlt)
      have hcx : wr.cell? ⟨g, k, none⟩ = some (.int .u64 ((ws[k]?.getD 0 : Nat) : Int)) := by
        have := hc k (by rw [words_length]; exact hlt)
        rw [words_get, Nat.zero_add] at this; exact this
      have hu : ws[k]?.getD 0 < 18446744073709551616 := by rw [List.getElem?_eq_getElem hlt]; exact hw _ (List.getElem_mem hlt)
      have hsn : ((ws.take (k + 1)).map pop).sum = ((ws.take k).map pop).sum + pop (ws[k]?.getD 0) := by
        rw [List.take_add_one, List.getElem?_eq_getElem hlt, Option.toList_some, List.map_append, List.map_singleton, List.sum_append_nat, List.sum_singleton]; rfl
      have ht := sum_le64 (ws.take k)
      have htl : (ws.take k).length ≤ k := List.length_take_le _ _
      have HO := Lib.hid (ones_any (ws[k]?.getD 0) hu wr)
      have hp := pop_le (ws[k]?.getD 0)
      have HSN := Lib.hid hsn
      clear hsn
      generalize ws[k]?.getD 0 = x at *
      generalize ((ws.take k).map pop).sum = s at *
      clear hc ha hu
      go_wp2_with (go_at_call 40; refine HO.out.mono ?_; rintro e w' ⟨rfl, rfl⟩)
      go_roundw
      case rel => exact ⟨k + 1, by omega, by simp, by rw [HSN.out]; simp, trivial⟩
      case measure => simp [intOf]; omega
    · obtain rfl : k = ws.length := by omega
      rw [List.take_of_length_le (Nat.le_refl _)]
      clear hlt hc ha
      go_wp2
      go_ret
      exact ⟨rfl, rfl⟩
theorem pLen (w : World) (B p : Nat) (v : Value) (bs : List Bool) (h : PSet w B p v bs) :
    Calls Tryz.prog 12 #[.pointer (some ⟨p, 0, none⟩)] w fun e w' => e = .returned (.int .i64 ((trues bs).length : Nat)) ∧ w = w' := by
  obtain ⟨ws, h, hr⟩ := h
  have hc0 : w.cell? ⟨p, 0, none⟩ = some v := by simp [World.cell?, h.hp]
  have hc2 : w.cell? ⟨p, 2, none⟩ = some (.bool true) := by simp [World.cell?, h.hp]
  have hl := h.len
  have hn := h.hn
  obtain ⟨g, a, cap, rfl, ha, hcs⟩ := h.block'
  have hR := rowlen_any a g cap ws w ha (by omega) h.hw hcs
  rw [← elems_len, hr.elems] at hR
  have HR := Lib.hid hR
  clear hR hcs h hl ha hr
  go_enter Tryz.func12, Tryz.ntmps12
  go_wp2_with (first | (go_at_call 26; refine (known_yes _ _ _ hc2).mono ?_; rintro e w' ⟨rfl, rfl⟩) | (go_at_call 28; refine HR.out.mono ?_; rintro e w' ⟨rfl, rfl⟩))
  go_ret
  exact ⟨rfl, rfl⟩
end Go.Proofs.YtlilegbdjnhfjaaGreatDoor
