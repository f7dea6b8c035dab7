/-
  Plain facts on the number of a word's set bits, as math/bits.OnesCount64 counts them. They speak of no program.
-/
import Derived.Test.YtfhleelechbdmaaDoorBitsMath
namespace Go.Proofs.YtfhleelechbdmaaDoor

theorem and_split (k a c y z : Nat) (ha : a < 2 ^ k) (hc : c < 2 ^ k) : (a + 2 ^ k * y) &&& (c + 2 ^ k * z) = (a &&& c) + 2 ^ k * (y &&& z) := by
  have hac : a &&& c < 2 ^ k := Nat.lt_of_le_of_lt Nat.and_le_left ha
  rw [Nat.add_comm a, Nat.add_comm c, Nat.add_comm (a &&& c)]
  apply Nat.eq_of_testBit_eq
  intro j
  rw [Nat.testBit_and, Nat.testBit_two_pow_mul_add _ ha, Nat.testBit_two_pow_mul_add _ hc, Nat.testBit_two_pow_mul_add _ hac]
  split
  · rw [Nat.testBit_and]
  · rw [Nat.testBit_and]

/-- n bytes, each of the number c. -/
def rep (c : Nat) : Nat → Nat
  | 0 => 0
  | n + 1 => c + 256 * rep c n
/-- One step: fields of s bits are added to their neighbours. -/
def foldB (s x m : Nat) : Nat := ((x / 2 ^ s) &&& m) + (x &&& m)

theorem fold_byte (s c b x n : Nat) (hs : s ≤ 8) (hb : b < 256) (hc : c < 2 ^ (8 - s)) :
    foldB s (b + 256 * x) (rep c (n + 1)) = foldB s b c + 256 * foldB s x (rep c n) := by
  have h8 : 2 ^ (8 - s) * 2 ^ s = 256 := by rw [← Nat.pow_add, show 8 - s + s = 8 by omega]
  have hc8 : c < 2 ^ 8 := Nat.lt_of_lt_of_le hc (Nat.pow_le_pow_right (by omega) (by omega))
  have hp := Nat.two_pow_pos s
  have e1 : (b + 256 * x) &&& rep c (n + 1) = (b &&& c) + 256 * (x &&& rep c n) := and_split 8 b c x (rep c n) hb hc8
  have hbs : b / 2 ^ s < 2 ^ (8 - s) := by rw [Nat.div_lt_iff_lt_mul hp, h8]; exact hb
  have hlow : b / 2 ^ s + 2 ^ (8 - s) * (x % 2 ^ s) < 2 ^ 8 := by
    have h1 : x % 2 ^ s + 1 ≤ 2 ^ s := Nat.mod_lt _ hp
    have h2 := Nat.mul_le_mul_left (2 ^ (8 - s)) h1
    rw [h8, Nat.mul_add, Nat.mul_one] at h2
    omega
  have e2 : (b + 256 * x) / 2 ^ s = (b / 2 ^ s + 2 ^ (8 - s) * (x % 2 ^ s)) + 2 ^ 8 * (x / 2 ^ s) := by
    have h1 : b + 256 * x = b + 2 ^ s * (2 ^ (8 - s) * x) := by rw [← Nat.mul_assoc, Nat.mul_comm (2 ^ s), h8]
    rw [h1, Nat.add_mul_div_left _ _ hp]
    have h2 : 2 ^ (8 - s) * x = 2 ^ (8 - s) * (x % 2 ^ s) + 2 ^ 8 * (x / 2 ^ s) := by
      have h3 : (2 : Nat) ^ 8 = 2 ^ (8 - s) * 2 ^ s := by rw [h8]
      rw [h3, Nat.mul_assoc, ← Nat.mul_add, Nat.add_comm (x % 2 ^ s), Nat.div_add_mod]
    omega
  have e3 : (b / 2 ^ s + 2 ^ (8 - s) * (x % 2 ^ s)) &&& c = (b / 2 ^ s) &&& c := by
    have h1 := and_split (8 - s) (b / 2 ^ s) c (x % 2 ^ s) 0 hbs hc
    simpa using h1
  have e4 : ((b + 256 * x) / 2 ^ s) &&& rep c (n + 1) = ((b / 2 ^ s) &&& c) + 256 * ((x / 2 ^ s) &&& rep c n) := by
    rw [e2]
    have := and_split 8 (b / 2 ^ s + 2 ^ (8 - s) * (x % 2 ^ s)) c (x / 2 ^ s) (rep c n) hlow hc8
    rw [e3] at this
    exact this
  unfold foldB
  rw [e1, e4]
  omega

/-- Bytes put together. -/
def bytes : List Nat → Nat
  | [] => 0
  | b :: l => b + 256 * bytes l
theorem fold_bytes (s c : Nat) (hs : s ≤ 8) (hc : c < 2 ^ (8 - s)) : ∀ l : List Nat, (∀ b ∈ l, b < 256) → foldB s (bytes l) (rep c l.length) = bytes (l.map fun b => foldB s b c)
  | [], _ => by simp [bytes, foldB, rep]
  | b :: l, h => by
    rw [bytes, List.length_cons, fold_byte s c b _ _ hs (h b (by simp)) hc, fold_bytes s c hs hc l fun x hx => h x (by simp [hx])]
    rfl
/-- A number as eight bytes. -/
def byteL : Nat → Nat → List Nat
  | 0, _ => []
  | n + 1, x => (x % 256) :: byteL n (x / 256)
theorem bytes_byteL : ∀ (n x : Nat), x < 256 ^ n → bytes (byteL n x) = x
  | 0, x, h => by simp at h; simp [byteL, bytes, h]
  | n + 1, x, h => by
    rw [byteL, bytes, bytes_byteL n (x / 256) (by rw [Nat.pow_succ] at h; omega)]
    omega
theorem byteL_len (n x : Nat) : (byteL n x).length = n := by
  induction n generalizing x with
  | zero => rfl
  | succ n ih => simp [byteL, ih]
theorem byteL_lt : ∀ (n x : Nat), ∀ b ∈ byteL n x, b < 256
  | 0, _, b, h => by simp [byteL] at h
  | n + 1, x, b, h => by
    rcases List.mem_cons.1 h with rfl | h
    · exact Nat.mod_lt _ (by omega)
    · exact byteL_lt n _ b h
def popB (b : Nat) : Nat := ((List.range 8).filter b.testBit).length
def nib (b : Nat) : Nat := foldB 2 (foldB 1 b 85) 51
theorem nib_fin : ∀ b : Fin 256, (nib b.val) % 16 ≤ 4 ∧ nib b.val / 16 ≤ 4 ∧ nib b.val % 16 + nib b.val / 16 = popB b.val ∧ foldB 1 b.val 85 < 256 := by decide +kernel
/-- What the first two steps make of a number. -/
def two (x : Nat) : Nat := foldB 2 (foldB 1 x (rep 85 8)) (rep 51 8)
theorem two_bytes (x : Nat) (h : x < 18446744073709551616) : two x = bytes ((byteL 8 x).map nib) := by
  have e := bytes_byteL 8 x (by simpa using h)
  unfold two
  have h1 := fold_bytes 1 85 (by omega) (by decide) (byteL 8 x) (byteL_lt 8 x)
  rw [e, byteL_len] at h1
  rw [h1]
  have h2 := fold_bytes 2 51 (by omega) (by decide) ((byteL 8 x).map fun b => foldB 1 b 85) (by
    intro b hb
    obtain ⟨c, hc, rfl⟩ := List.mem_map.1 hb
    exact (nib_fin ⟨c, byteL_lt 8 x c hc⟩).2.2.2)
  rw [List.length_map, byteL_len] at h2
  rw [h2, List.map_map]
  rfl
theorem mask (a b y n : Nat) (ha : a < 16) (hb : b < 16) : (a + 16 * b + 256 * y) &&& rep 15 (n + 1) = a + 256 * (y &&& rep 15 n) := by
  have h1 := and_split 8 (a + 16 * b) 15 y (rep 15 n) (by omega) (by omega)
  rw [show (2 : Nat) ^ 8 = 256 from rfl] at h1
  rw [rep, h1]
  have h2 := and_split 4 a 15 b 0 (by omega) (by omega)
  simp only [Nat.reducePow, Nat.mul_zero, Nat.add_zero, Nat.and_zero] at h2
  rw [h2]
  have h3 : a &&& 15 = a := by
    have := Nat.and_two_pow_sub_one_eq_mod a 4
    simp only [Nat.reducePow, Nat.reduceSub] at this
    rw [this, Nat.mod_eq_of_lt ha]
  rw [h3]
theorem list8 {l : List Nat} (h : l.length = 8) : ∃ a b c d e f g i, l = [a, b, c, d, e, f, g, i] := by
  match l, h with
  | [a, b, c, d, e, f, g, i], _ => exact ⟨_, _, _, _, _, _, _, _, rfl⟩
theorem div256 (a y : Nat) (h : a < 256) : (a + 256 * y) / 256 = y := by omega
theorem sum8 (d0 d1 d2 d3 d4 d5 d6 d7 : Nat) (h0 : d0 ≤ 8) (h1 : d1 ≤ 8) (h2 : d2 ≤ 8) (h3 : d3 ≤ 8) (h4 : d4 ≤ 8) (h5 : d5 ≤ 8) (h6 : d6 ≤ 8) (h7 : d7 ≤ 8) :
    (d0 + 256 * (d1 + 256 * (d2 + 256 * (d3 + 256 * (d4 + 256 * (d5 + 256 * (d6 + 256 * d7)))))) + (d0 + 256 * (d1 + 256 * (d2 + 256 * (d3 + 256 * (d4 + 256 * (d5 + 256 * (d6 + 256 * d7))))))) / 256 +
        (d0 + 256 * (d1 + 256 * (d2 + 256 * (d3 + 256 * (d4 + 256 * (d5 + 256 * (d6 + 256 * d7)))))) + (d0 + 256 * (d1 + 256 * (d2 + 256 * (d3 + 256 * (d4 + 256 * (d5 + 256 * (d6 + 256 * d7))))))) / 256) / 65536 +
      (d0 + 256 * (d1 + 256 * (d2 + 256 * (d3 + 256 * (d4 + 256 * (d5 + 256 * (d6 + 256 * d7)))))) + (d0 + 256 * (d1 + 256 * (d2 + 256 * (d3 + 256 * (d4 + 256 * (d5 + 256 * (d6 + 256 * d7))))))) / 256 +
        (d0 + 256 * (d1 + 256 * (d2 + 256 * (d3 + 256 * (d4 + 256 * (d5 + 256 * (d6 + 256 * d7)))))) + (d0 + 256 * (d1 + 256 * (d2 + 256 * (d3 + 256 * (d4 + 256 * (d5 + 256 * (d6 + 256 * d7))))))) / 256) / 65536) / 4294967296) % 128 =
      d0 + (d1 + (d2 + (d3 + (d4 + (d5 + (d6 + (d7 + 0))))))) := by
  rw [div256 d0 _ (by omega)]
  have e1 : d0 + 256 * (d1 + 256 * (d2 + 256 * (d3 + 256 * (d4 + 256 * (d5 + 256 * (d6 + 256 * d7)))))) + (d1 + 256 * (d2 + 256 * (d3 + 256 * (d4 + 256 * (d5 + 256 * (d6 + 256 * d7)))))) =
      (d0 + d1) + 256 * ((d1 + d2) + 256 * ((d2 + d3) + 256 * ((d3 + d4) + 256 * ((d4 + d5) + 256 * ((d5 + d6) + 256 * ((d6 + d7) + 256 * d7)))))) := by omega
  rw [e1]
  rw [show ((65536 : Nat)) = 256 * 256 from rfl, ← Nat.div_div_eq_div_mul, div256 _ _ (by omega), div256 _ _ (by omega)]
  have e2 : (d0 + d1) + 256 * ((d1 + d2) + 256 * ((d2 + d3) + 256 * ((d3 + d4) + 256 * ((d4 + d5) + 256 * ((d5 + d6) + 256 * ((d6 + d7) + 256 * d7)))))) + ((d2 + d3) + 256 * ((d3 + d4) + 256 * ((d4 + d5) + 256 * ((d5 + d6) + 256 * ((d6 + d7) + 256 * d7))))) =
      (d0 + d1 + d2 + d3) + 256 * ((d1 + d2 + d3 + d4) + 256 * ((d2 + d3 + d4 + d5) + 256 * ((d3 + d4 + d5 + d6) + 256 * ((d4 + d5 + d6 + d7) + 256 * ((d5 + d6 + d7) + 256 * ((d6 + d7) + 256 * d7)))))) := by omega
  rw [e2]
  rw [show ((4294967296 : Nat)) = 256 * 256 * 256 * 256 from rfl, ← Nat.div_div_eq_div_mul, ← Nat.div_div_eq_div_mul, ← Nat.div_div_eq_div_mul, div256 _ _ (by omega), div256 _ _ (by omega), div256 _ _ (by omega), div256 _ _ (by omega)]
  omega
/-- The last four steps. -/
def four (y : Nat) : Nat :=
  let z := (y / 16 + y) &&& rep 15 8
  let z := z + z / 256
  let z := z + z / 65536
  let z := z + z / 4294967296
  z &&& 127
theorem four_bytes (l : List Nat) (hl : l.length = 8) (h : ∀ b ∈ l, b % 16 ≤ 4 ∧ b / 16 ≤ 4) : four (bytes l) = (l.map fun b => b % 16 + b / 16).sum ∧ bytes l < 2 ^ 63 ∧ ((bytes l / 16 + bytes l) &&& rep 15 8) < 2 ^ 60 := by
  obtain ⟨b0, b1, b2, b3, b4, b5, b6, b7, rfl⟩ := list8 hl
  simp only [List.mem_cons, List.not_mem_nil, or_false, forall_eq_or_imp, forall_eq] at h
  obtain ⟨h0, h1, h2, h3, h4, h5, h6, h7⟩ := h
  have e : ((bytes [b0, b1, b2, b3, b4, b5, b6, b7]) / 16 + bytes [b0, b1, b2, b3, b4, b5, b6, b7]) &&& rep 15 8 =
      (b0 % 16 + b0 / 16) + 256 * ((b1 % 16 + b1 / 16) + 256 * ((b2 % 16 + b2 / 16) + 256 * ((b3 % 16 + b3 / 16) + 256 * ((b4 % 16 + b4 / 16) + 256 * ((b5 % 16 + b5 / 16) + 256 * ((b6 % 16 + b6 / 16) + 256 * (b7 % 16 + b7 / 16))))))) := by
    have e1 : (bytes [b0, b1, b2, b3, b4, b5, b6, b7]) / 16 + bytes [b0, b1, b2, b3, b4, b5, b6, b7] =
      (b0 % 16 + b0 / 16) + 16 * (b0 / 16 + b1 % 16) + 256 * ((b1 % 16 + b1 / 16) + 16 * (b1 / 16 + b2 % 16) + 256 * ((b2 % 16 + b2 / 16) + 16 * (b2 / 16 + b3 % 16) + 256 * ((b3 % 16 + b3 / 16) + 16 * (b3 / 16 + b4 % 16) + 256 * ((b4 % 16 + b4 / 16) + 16 * (b4 / 16 + b5 % 16) + 256 * ((b5 % 16 + b5 / 16) + 16 * (b5 / 16 + b6 % 16) + 256 * ((b6 % 16 + b6 / 16) + 16 * (b6 / 16 + b7 % 16) + 256 * ((b7 % 16 + b7 / 16) + 16 * (b7 / 16) + 256 * 0))))))) := by
      simp only [bytes]
      omega
    rw [e1]
    rw [mask _ _ _ 7 (by omega) (by omega), mask _ _ _ 6 (by omega) (by omega), mask _ _ _ 5 (by omega) (by omega), mask _ _ _ 4 (by omega) (by omega), mask _ _ _ 3 (by omega) (by omega), mask _ _ _ 2 (by omega) (by omega), mask _ _ _ 1 (by omega) (by omega), mask _ _ _ 0 (by omega) (by omega)]
    simp [rep]
  refine ⟨?_, ?_, ?_⟩
  · unfold four
    simp only [e]
    have h127 := fun n => Nat.and_two_pow_sub_one_eq_mod n 7
    simp only [Nat.reducePow, Nat.reduceSub] at h127
    rw [h127]
    simp only [List.map_cons, List.map_nil, List.sum_cons, List.sum_nil]
    exact sum8 _ _ _ _ _ _ _ _ (by omega) (by omega) (by omega) (by omega) (by omega) (by omega) (by omega) (by omega)
  · simp only [bytes]; omega
  · rw [e]; omega
def pop (x : Nat) : Nat := ((List.range 64).filter x.testBit).length
theorem filter_block (p : Nat → Bool) (m n : Nat) : ((List.range (m + n)).filter p).length = ((List.range m).filter p).length + ((List.range n).filter fun k => p (m + k)).length := by
  rw [List.range_add, List.filter_append, List.length_append, List.filter_map, List.length_map]
  rfl
theorem filter_bytes : ∀ (n x : Nat), ((List.range (8 * n)).filter x.testBit).length = ((byteL n x).map popB).sum
  | 0, _ => by simp [byteL]
  | n + 1, x => by
    rw [show 8 * (n + 1) = 8 + 8 * n by omega, filter_block, byteL, List.map_cons, List.sum_cons, ← filter_bytes n (x / 256)]
    congr 1
    · unfold popB
      congr 1
      refine List.filter_congr fun k hk => ?_
      rw [List.mem_range] at hk
      rw [show (256 : Nat) = 2 ^ 8 from rfl, Nat.testBit_mod_two_pow, decide_eq_true hk, Bool.true_and]
    · congr 1
      refine List.filter_congr fun k _ => ?_
      rw [show (256 : Nat) = 2 ^ 8 from rfl, Nat.testBit_div_two_pow, Nat.add_comm]
theorem ones_eq (x : Nat) (h : x < 18446744073709551616) : four (two x) = pop x ∧ two x < 2 ^ 63 ∧ ((two x / 16 + two x) &&& rep 15 8) < 2 ^ 60 := by
  have hl : ((byteL 8 x).map nib).length = 8 := by rw [List.length_map, byteL_len]
  have hb : ∀ b ∈ (byteL 8 x).map nib, b % 16 ≤ 4 ∧ b / 16 ≤ 4 := by
    intro b hb
    obtain ⟨c, hc, rfl⟩ := List.mem_map.1 hb
    have := nib_fin ⟨c, byteL_lt 8 x c hc⟩
    exact ⟨this.1, this.2.1⟩
  have h4 := four_bytes _ hl hb
  rw [← two_bytes x h] at h4
  refine ⟨?_, h4.2⟩
  rw [h4.1, pop, filter_bytes 8 x, List.map_map]
  congr 1
  refine List.map_congr_left fun c hc => ?_
  exact (nib_fin ⟨c, byteL_lt 8 x c hc⟩).2.2.1
theorem pop_le (x : Nat) : pop x ≤ 64 := by
  have := List.length_filter_le x.testBit (List.range 64)
  simpa [pop] using this
end Go.Proofs.YtfhleelechbdmaaDoor
