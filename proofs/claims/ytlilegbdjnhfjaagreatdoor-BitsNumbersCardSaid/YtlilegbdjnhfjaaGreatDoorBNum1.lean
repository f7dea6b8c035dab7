/-
  BitsNumbers: rows of steps as a slice that grows; the numbers.
-/
import Derived.Test.YtlilegbdjnhfjaaGreatDoorLives6
import Derived.Test.YtlilegbdjnhfjaaGreatDoorBitsKeys
import Derived.Test.YtlilegbdjnhfjaaGreatDoorLivesCard
namespace Go.Proofs.YtlilegbdjnhfjaaGreatDoor
open Go.RowKit
set_option maxHeartbeats 400000

theorem flat_get {α β : Type} (f : α → List β) (m : Nat) (hf : ∀ x, (f x).length = m) : ∀ (l : List α) (i j : Nat) (hi : i < l.length), j < m → (l.flatMap f)[i * m + j]? = (f l[i])[j]?
  | [], i, _, hi, _ => by simp at hi
  | a :: l, 0, j, _, hj => by
    rw [List.flatMap_cons, List.getElem?_append_left (by rw [hf]; omega)]
    simp
  | a :: l, i + 1, j, hi, hj => by
    rw [List.flatMap_cons, List.getElem?_append_right (by rw [hf, Nat.add_mul]; omega), hf]
    have := flat_get f m hf l i j (by simpa using hi) hj
    rw [show (i + 1) * m + j - m = i * m + j by rw [Nat.add_mul]; omega, this]
    simp
theorem flat_len {α β : Type} (f : α → List β) (m : Nat) (hf : ∀ x, (f x).length = m) : ∀ l : List α, (l.flatMap f).length = l.length * m
  | [] => by simp
  | a :: l => by rw [List.flatMap_cons, List.length_append, hf, flat_len f m hf l, List.length_cons, Nat.add_mul]; omega
/-- Rows of cells, one behind the other. -/
theorem cells_flat {α : Type} {w : World} {b o : Nat} {l : List α} {f : α → List Value} {m : Nat} (hm : 0 < m) (hf : ∀ x, (f x).length = m) (h : ∀ i, (hi : i < l.length) → Cells w b (o + i * m) (f l[i])) : Cells w b o (l.flatMap f) := fun j hj => by
  rw [flat_len f m hf] at hj
  have hi : j / m < l.length := Nat.div_lt_of_lt_mul (by rw [Nat.mul_comm]; exact hj)
  have hr : j % m < m := Nat.mod_lt _ hm
  have e : j = j / m * m + j % m := by rw [Nat.mul_comm]; exact (Nat.div_add_mod j m).symm
  have h1 := h (j / m) hi (j % m) (by rw [hf]; exact hr)
  have h2 := flat_get f m hf l (j / m) (j % m) hi hr
  rw [← e] at h2
  rw [List.getElem?_eq_getElem (by rw [flat_len f m hf]; exact hj), List.getElem?_eq_getElem (by rw [hf]; exact hr)] at h2
  simp only [Option.some.injEq] at h2
  rw [h2, ← h1]
  congr 2
  omega
theorem flat_cells {α : Type} {w : World} {b o : Nat} {l : List α} {f : α → List Value} {m : Nat} (hf : ∀ x, (f x).length = m) (h : Cells w b o (l.flatMap f)) (i : Nat) (hi : i < l.length) : Cells w b (o + i * m) (f l[i]) := fun j hj => by
  have hj' : j < m := by rw [hf] at hj; exact hj
  have h2 := flat_get f m hf l i j hi hj'
  have hb : i * m + j < (l.flatMap f).length := by
    rw [flat_len f m hf]
    have : (i + 1) * m ≤ l.length * m := Nat.mul_le_mul_right m hi
    rw [Nat.add_mul] at this
    omega
  rw [List.getElem?_eq_getElem hb, List.getElem?_eq_getElem hj] at h2
  simp only [Option.some.injEq] at h2
  have h1 := h _ hb
  rw [h2] at h1
  rw [Nat.add_assoc]
  exact h1

def doCells (x : Int × Int × Int) : List Value := [.int .i64 x.1, .int .i64 x.2.1, .int .i64 x.2.2]
def DoOk (x : Int × Int × Int) : Prop := I64 x.1 ∧ I64 x.2.1
theorem Tryz.infoDo : (Tryz.prog.info? 33).map (fun i => (i.zero, i.size, i.bytes)) = some (some (.agg #[.int .i64 0, .int .i64 0, .int .i64 0]), 3, 24) := by kernel_rfl
theorem dos_row {w : World} {B : Nat} {v : Value} {L : List (Int × Int × Int)} {e : TypeId} (h : w.ownsRow B e 3 v L.length (L.flatMap doCells)) (hok : ∀ x ∈ L, DoOk x) (hl : L.length ≤ 1000) : IsDos w v L := by
  obtain ⟨a, cap, rfl, h1, h2, h3⟩ := own_cells h
  refine ⟨a, cap, rfl, by omega, fun k hk => ?_⟩
  rcases h3 with h3 | ⟨g, rfl, _, hc⟩
  · have : (L.flatMap doCells).length = 0 := by rw [h3]; rfl
    rw [flat_len doCells 3 (fun _ => rfl)] at this
    omega
  · exact ⟨g, 0, rfl, flat_cells (m := 3) (fun _ => rfl) hc k hk, (hok _ (List.getElem_mem hk)).1, (hok _ (List.getElem_mem hk)).2⟩
def numB : List Int := [-9223372036854775808, -1, 0, 1, 2, 31, 32, 63, 64, 65, 127, 128, 255, 4095, 4096, 4097, 65535, 65536, 9223372036854775807]
theorem numB_all : ∀ x ∈ numB, -9223372036854775808 ≤ x ∧ x ≤ 9223372036854775807 := by unfold numB; decide
theorem own_block_ge {w : World} {B : Nat} {e : TypeId} {size : Nat} {v : Value} {n : Nat} {xs : List Value} (h : w.ownsRow B e size v n xs) : ∀ g, v.ownBlock = some g → B ≤ g := fun g hg => by
  rcases h.2 with ⟨rfl, _⟩ | ⟨g', cap, cur, rfl, hb, _⟩
  · cases hg
  · simp only [Value.ownBlock, Option.some.injEq] at hg
    omega
theorem ints_obj {w : World} {b : Nat} {cs : Array Value} {t : TypeId} {z : Nat × Nat} {xs : List Int} {n : Nat} (h : w.heap[b]? = some (.cells cs t z)) (hcs : cs = (xs.map (Value.int .i64)).toArray) (hx : ∀ x ∈ xs, -9223372036854775808 ≤ x ∧ x ≤ 9223372036854775807) (hn : n = xs.length) (hl : xs.length ≤ 17592186044416) : Ints w (.slice (some ⟨b, 0, none⟩) n n) xs := by
  subst hn
  refine ⟨hx, hl, _, _, rfl, Nat.le_refl _, by unfold maxLen; omega, .inr ⟨b, 0, rfl, fun i hi => obj_cell h (0 + i) ?_⟩⟩
  rw [hcs]
  simp only [List.length_map] at hi
  simp [hi]
theorem ints_two (w : World) (a b : Int) (t : TypeId) (ha : I64 a) (hb : I64 b) : Ints (w.alloc (.cells #[.int .i64 a, .int .i64 b] t)) (.slice (some ⟨w.heap.size, 0, none⟩) 2 2) [a, b] :=
  ints_obj (alloc_obj w _) rfl (fun x hx => by
    rcases List.mem_cons.1 hx with rfl | hx
    · exact ha
    · rw [List.mem_singleton.1 hx]; exact hb) rfl (by simp)
end Go.Proofs.YtlilegbdjnhfjaaGreatDoor
