/-
  The statements' own helpers on symbols: markSymbol, LentSymbols.
-/
import Derived.Test.YtehaoiimhgkckaaKitInts
import Derived.Test.YtehaoiimhgkckaaGram2
namespace Go.Proofs.Ytehaoiimhgkckaa
open Go.RowKit
set_option maxHeartbeats 400000

theorem flat_len {α β : Type} (f : α → List β) (m : Nat) (hf : ∀ x, (f x).length = m) : ∀ l : List α, (l.flatMap f).length = l.length * m
  | [] => by simp
  | a :: l => by rw [List.flatMap_cons, List.length_append, hf, flat_len f m hf l, List.length_cons, Nat.add_mul]; omega
/-- Rows of cells, one behind the other. -/
theorem cells_flat {α : Type} {w : World} {b o : Nat} {l : List α} {f : α → List Value} {m : Nat} (hm : 0 < m) (hf : ∀ x, (f x).length = m) (h : ∀ i, (hi : i < l.length) → Cells w b (o + i * m) (f l[i])) : Cells w b o (l.flatMap f) := fun j hj => by
  rw [flat_len f m hf] at hj
  have hi : j / m < l.length := Nat.div_lt_of_lt_mul (by rw [Nat.mul_comm]; exact hj)
  have hr : j % m < m := Nat.mod_lt _ hm
  have e : j = j / m * m + j % m := by rw [Nat.mul_comm]; exact (Nat.div_add_mod j m).symm
  have h1 := h (j / m) hi (j % m) (by rw [hf]; exact hr)
  have h2 := flat_get f m hf l (j / m) (j % m) hi hr
  rw [← e] at h2
  rw [List.getElem?_eq_getElem (by rw [flat_len f m hf]; exact hj), List.getElem?_eq_getElem (by rw [hf]; exact hr)] at h2
  simp only [Option.some.injEq] at h2
  rw [h2, ← h1]
  congr 2
  omega
theorem flat_cells {α : Type} {w : World} {b o : Nat} {l : List α} {f : α → List Value} {m : Nat} (hf : ∀ x, (f x).length = m) (h : Cells w b o (l.flatMap f)) (i : Nat) (hi : i < l.length) : Cells w b (o + i * m) (f l[i]) := fun j hj => by
  have hj' : j < m := by rw [hf] at hj; exact hj
  have h2 := flat_get f m hf l i j hi hj'
  have hb : i * m + j < (l.flatMap f).length := by
    rw [flat_len f m hf]
    have : (i + 1) * m ≤ l.length * m := Nat.mul_le_mul_right m hi
    rw [Nat.add_mul] at this
    omega
  rw [List.getElem?_eq_getElem hb, List.getElem?_eq_getElem hj] at h2
  simp only [Option.some.injEq] at h2
  have h1 := h _ hb
  rw [h2] at h1
  rw [Nat.add_assoc]
  exact h1

theorem own_cells {w : World} {B : Nat} {e : TypeId} {size : Nat} {v : Value} {n : Nat} {xs : List Value} (h : w.ownsRow B e size v n xs) :
    ∃ a cap, v = .slice a n cap ∧ n ≤ cap ∧ cap ≤ maxLen ∧ (xs = [] ∨ ∃ g, a = some ⟨g, 0, none⟩ ∧ B ≤ g ∧ Cells w g 0 xs) := by
  obtain ⟨h1, h2⟩ := h
  rcases h2 with ⟨rfl, rfl⟩ | ⟨g, cap, cur, rfl, hb, hg, r1, r2, r3, r4⟩
  · exact ⟨none, 0, rfl, Nat.le_refl _, by unfold maxLen; omega, .inl (List.eq_nil_of_length_eq_zero (by simpa using h1))⟩
  · refine ⟨_, cap, rfl, r1, r2, .inr ⟨g, rfl, hb, fun i hi => ?_⟩⟩
    have e1 : xs[i]? = cur.toList[i]? := by rw [← r4, List.getElem?_take, if_pos (by omega)]
    simp only [World.cell?, hg, Nat.zero_add]
    rw [List.getElem?_eq_getElem hi] at e1
    simpa using e1.symm
theorem cells_new (w : World) (vs : List Value) (cs : Array Value) (hcs : cs = vs.toArray) (t : TypeId) (z : Nat × Nat) : Cells (w.alloc (.cells cs t z)) w.heap.size 0 vs := fun i hi => by
  have := alloc_obj w (.cells cs t z)
  refine obj_cell this (0 + i) ?_
  rw [hcs]
  simp [hi]

/-- A place's mark. -/
def markSym (i : Int) : Sym := ⟨nNone, nNone, markOf i, 0⟩
def markSyms (k : Nat) : List Sym := (List.range k).map fun j : Nat => markSym j
theorem markSyms_succ (k : Nat) : markSyms (k + 1) = markSyms k ++ [markSym k] := by simp [markSyms, List.range_succ]
theorem markSyms_length (k : Nat) : (markSyms k).length = k := by simp [markSyms]

theorem markSymbol_any (i : Int) (w : World) (h0 : 0 ≤ i) (hi : i < 100) :
    Calls Try.prog 62 #[.int .i64 1, .int .i64 i] w fun e w' => e = .returned (.agg #[.string ⟨#[]⟩, .string ⟨#[]⟩, .int .i64 (markOf i), .int .u8 0]) ∧ Below w.heap.size w w' := by
  have HM := Lib.hid fun w => mark_any i w h0 hi
  go_enter Try.func62, Try.ntmps62
  go_wp2_with (go_at_call 57; refine (HM.out _).mono ?_; rintro e w' ⟨rfl, rfl⟩)
  go_returns
  exact ⟨rfl, (Below.refl _ _).alloc (Nat.le_refl _) _⟩

/-- What LentSymbols answers: its list, the marks behind its end. -/
def LentS (w : World) (B : Nat) (v : Value) (l : List Sym) : Prop :=
  ∃ g cap, v = .slice (some ⟨g, 0, none⟩) l.length cap ∧ B ≤ g ∧ l.length + 12 ≤ cap ∧ cap ≤ maxLen ∧ Cells w g 0 ((l ++ markSyms 12).flatMap symCells) ∧ (∀ s ∈ l, SymOk s) ∧ l.length ≤ 17592186044416
theorem LentS.fr {w w' : World} {B : Nat} {v : Value} {l : List Sym} (h : LentS w B v l) (k : Fr nothing w w') : LentS w' B v l := by
  obtain ⟨g, cap, h1, h2, h3, h4, h5, h6, h7⟩ := h
  exact ⟨g, cap, h1, h2, h3, h4, h5.fr k fun e => e, h6, h7⟩
theorem LentS.syms {w : World} {B : Nat} {v : Value} {l : List Sym} (h : LentS w B v l) : IsSyms w v l := by
  obtain ⟨g, cap, rfl, _, h3, h4, h5, h6, h7⟩ := h
  refine ⟨h7, some ⟨g, 0, none⟩, cap, rfl, by omega, h4, .inr ⟨g, 0, rfl, fun i hi => ⟨h6 _ (List.getElem_mem hi), ?_⟩⟩⟩
  have := flat_cells (m := 4) (fun _ => rfl) h5 i (by rw [List.length_append]; omega)
  rwa [List.getElem_append_left hi] at this

theorem Try.infoSym : (Try.prog.info? 65).map (fun i => (i.zero, i.size, i.bytes)) = some (some (.agg #[.string ⟨#[]⟩, .string ⟨#[]⟩, .int .i64 0, .int .u8 0]), 4, 48) := by kernel_rfl
theorem syms_one (l : List Sym) : ∀ u ∈ l.flatMap symCells, u.oneCell' = true := fun u hu => by
  obtain ⟨s, _, hs⟩ := List.mem_flatMap.1 hu
  simp only [symCells, List.mem_cons, List.not_mem_nil, or_false] at hs
  rcases hs with rfl | rfl | rfl | rfl <;> rfl

set_option maxRecDepth 100000 in
set_option maxHeartbeats 1000000 in
theorem lentSyms_any (u : Value) (l : List Sym) (w : World) (h : IsSyms w u l) (hlen : l.length ≤ 1000000000000) :
    Calls Try.prog 36 #[u] w fun e w' => ∃ v, e = .returned v ∧ LentS w' w.heap.size v l ∧ Below w.heap.size w w' := by
  obtain ⟨_, a, cap, rfl, _, _, hx⟩ := h
  obtain ⟨i0, hi, hz0, hz1, hz2⟩ := info_parts Try.infoSym
  have hok : ∀ s ∈ l, SymOk s := fun s hs => by
    obtain ⟨i, hi, rfl⟩ := List.mem_iff_getElem.1 hs
    rcases hx with rfl | ⟨b, o, _, hx⟩
    · simp at hi
    · exact (hx i hi).1
  go_enter Try.func36, Try.ntmps36
  have hsrc : ∀ w0 : World, w.grownBy w0 none → (a = none ∧ l.length = 0) ∨ ∃ ad, a = some ad ∧ ∀ j u, (l.flatMap symCells)[j]? = some u → w0.cell? (ad.add j) = some u := fun w0 hg => by
    rcases hx with rfl | ⟨b, o, rfl, hc⟩
    · cases a with
      | none => exact .inl ⟨rfl, rfl⟩
      | some ad => exact .inr ⟨ad, rfl, fun j u h => by simp at h⟩
    · exact .inr ⟨_, rfl, cells_add ((cells_flat (m := 4) (by omega) (fun _ => rfl) fun i hi => (hc i hi).2).fr (Fr.grown hg) (fun e => by cases e))⟩
  have HS := Lib.hid hsrc
  have HO := Lib.hid hok
  have hone := syms_one l
  have hfl := flat_len symCells 4 (fun _ => rfl) l
  clear hsrc hx hok
  go_wp2_with (first | (at_make; refine wpList_make_own _ rfl _ _ 36 rfl w.heap.size 65 i0 _ 4 Try.underlying36 hi hz0 hz1 .i64 .i64 _ (l.length + 12) rfl rfl (by omega) (by rw [hz2]; omega) (by unfold maxLen; omega) (Nat.le_refl _) ?_; intro w0 hown0 hgrow0) | (at_builtin; refine wpList_append_room rfl _ _ 36 rfl w.heap.size 65 i0 4 Try.underlying36 hi hz1 w.heap.size 0 (l.length + 12) [] rfl hown0 a l.length cap (l.flatMap symCells) rfl hfl (HS.out w0 hgrow0) hone (by omega) ?_; intro w1 hown1 hgrow1))
  simp only [Nat.zero_add, List.nil_append] at hown1
  have hB1 : Below w.heap.size w w1 := ((Below.refl _ w).grown hgrow0 (Nat.le_refl _) (fun k e => by cases e)).grown hgrow1 hgrow0.size (fun k e => by cases e; exact Nat.le_refl _)
  clear hfl hone HS
  go_loopw [3, 4] (fun v i wr => ∃ k : Nat, k ≤ 12 ∧ i = .int .i64 k ∧ v = .slice (some ⟨w.heap.size, 0, none⟩) (l.length + k) (l.length + 12) ∧
      wr.ownsRow w.heap.size 65 4 (.slice (some ⟨w.heap.size, 0, none⟩) (l.length + k) (l.length + 12)) (l.length + k) ((l ++ markSyms k).flatMap symCells) ∧ Below w.heap.size w wr)
    (fun _ i _ => 12 - (intOf i).toNat)
  case atStart => exact ⟨0, by omega, rfl, rfl, by simpa [markSyms] using hown1, hB1⟩
  case round =>
    obtain ⟨k, hk, rfl, rfl, hown, hB⟩ := hrel
    clear hown0 hgrow0 hown1 hgrow1 hB1
    by_cases hlt : k < 12
    · have HM := Lib.hid (markSymbol_any k wr (by omega) (by omega))
      go_wp2_with (first | (go_at_call 62; refine HM.out.mono ?_; rintro e w' ⟨rfl, hb⟩) | (at_builtin; refine wpList_append_room rfl _ _ 36 rfl w.heap.size 65 i0 4 Try.underlying36 hi hz1 w.heap.size (l.length + k) (l.length + 12) _ rfl ((own_below hown hb).alloc _) _ 1 1 (symCells (markSym k)) rfl rfl (.inr ⟨_, rfl, cells_add (cells_new _ _ _ rfl _ _)⟩) (by simp [symCells, Value.oneCell']) (by omega) ?_; intro w2 hown2 hgrow2))
      go_roundw
      case rel =>
        refine ⟨k + 1, by omega, by simp, rfl, ?_, ((hB.trans (hb.mono hB.size)).alloc (Nat.le_trans hB.size hb.size) _).grown hgrow2 (by have := hB.size; have := hb.size; simp; omega) (fun j e => by cases e; exact Nat.le_refl _)⟩
        rw [markSyms_succ, ← List.append_assoc, List.flatMap_append, List.flatMap_singleton]
        exact hown2
      case measure => simp [intOf]; omega
    · obtain rfl : k = 12 := by omega
      clear hlt
      go_wp2
      go_ret
      obtain ⟨a', cap', hv, h1, h2, h3⟩ := own_cells hown
      simp only [Value.slice.injEq] at hv
      obtain ⟨rfl, -, rfl⟩ := hv
      refine ⟨_, rfl, ⟨w.heap.size, l.length + 12, rfl, Nat.le_refl _, Nat.le_refl _, h2, ?_, HO.out, by omega⟩, hB⟩
      rcases h3 with h3 | ⟨g, hg, _, hc⟩
      · have : ((l ++ markSyms 12).flatMap symCells).length = 0 := by rw [h3]; rfl
        rw [flat_len symCells 4 (fun _ => rfl)] at this
        simp [markSyms_length] at this
      · simp only [Option.some.injEq, Addr.mk.injEq] at hg
        obtain ⟨rfl, -⟩ := hg
        exact hc
end Go.Proofs.Ytehaoiimhgkckaa
