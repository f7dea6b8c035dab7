/-
  Rows of cells of structs; blocks and their cells: plain lemmas.
-/
import Derived.Test.YticdoccaabfjaaaBase
import Derived.ArgAppend
import Derived.Laws.OwnMore
import Derived.Deep.DeepCutAuto
namespace Go.Proofs.Yticdoccaabfjaaa
open Go.RowKit
set_option maxHeartbeats 400000

theorem flat_get {α β : Type} (f : α → List β) (m : Nat) (hf : ∀ x, (f x).length = m) : ∀ (l : List α) (i j : Nat) (hi : i < l.length), j < m → (l.flatMap f)[i * m + j]? = (f l[i])[j]?
  | [], i, _, hi, _ => by simp at hi
  | a :: l, 0, j, _, hj => by
    rw [List.flatMap_cons, List.getElem?_append_left (by rw [hf]; omega)]
    simp
  | a :: l, i + 1, j, hi, hj => by
    rw [List.flatMap_cons, List.getElem?_append_right (by rw [hf, Nat.add_mul]; omega), hf]
    have := flat_get f m hf l i j (by simpa using hi) hj
    rw [show (i + 1) * m + j - m = i * m + j by rw [Nat.add_mul]; omega, this]
    simp
theorem flat_len {α β : Type} (f : α → List β) (m : Nat) (hf : ∀ x, (f x).length = m) : ∀ l : List α, (l.flatMap f).length = l.length * m
  | [] => by simp
  | a :: l => by rw [List.flatMap_cons, List.length_append, hf, flat_len f m hf l, List.length_cons, Nat.add_mul]; omega
theorem flat_cells {α : Type} {w : World} {b o : Nat} {l : List α} {f : α → List Value} {m : Nat} (hf : ∀ x, (f x).length = m) (h : Cells w b o (l.flatMap f)) (i : Nat) (hi : i < l.length) : Cells w b (o + i * m) (f l[i]) := fun j hj => by
  have hj' : j < m := by rw [hf] at hj; exact hj
  have h2 := flat_get f m hf l i j hi hj'
  have hb : i * m + j < (l.flatMap f).length := by
    rw [flat_len f m hf]
    have : (i + 1) * m ≤ l.length * m := Nat.mul_le_mul_right m hi
    rw [Nat.add_mul] at this
    omega
  rw [List.getElem?_eq_getElem hb, List.getElem?_eq_getElem hj] at h2
  simp only [Option.some.injEq] at h2
  have h1 := h _ hb
  rw [h2] at h1
  rw [Nat.add_assoc]
  exact h1
theorem own_cells {w : World} {B : Nat} {e : TypeId} {size : Nat} {v : Value} {n : Nat} {xs : List Value} (h : w.ownsRow B e size v n xs) :
    ∃ a cap, v = .slice a n cap ∧ n ≤ cap ∧ cap ≤ maxLen ∧ (xs = [] ∨ ∃ g, a = some ⟨g, 0, none⟩ ∧ B ≤ g ∧ Cells w g 0 xs) := by
  obtain ⟨h1, h2⟩ := h
  rcases h2 with ⟨rfl, rfl⟩ | ⟨g, cap, cur, rfl, hb, hg, r1, r2, r3, r4⟩
  · exact ⟨none, 0, rfl, Nat.le_refl _, by unfold maxLen; omega, .inl (List.eq_nil_of_length_eq_zero (by simpa using h1))⟩
  · refine ⟨_, cap, rfl, r1, r2, .inr ⟨g, rfl, hb, fun i hi => ?_⟩⟩
    have e1 : xs[i]? = cur.toList[i]? := by rw [← r4, List.getElem?_take, if_pos (by omega)]
    simp only [World.cell?, hg, Nat.zero_add]
    rw [List.getElem?_eq_getElem hi] at e1
    simpa using e1.symm
theorem alloc_obj (w : World) (o : Obj) : (w.alloc o).heap[w.heap.size]? = some o := (MapKept.heap_alloc w o).1
theorem obj_cell {w : World} {b : Nat} {cs : Array Value} {t : TypeId} {f : Nat × Nat} (h : w.heap[b]? = some (.cells cs t f)) (i : Nat) {v : Value} (hv : cs[i]? = some v) : w.cell? ⟨b, i, none⟩ = some v := by
  simp [World.cell?, h, hv]
theorem obj_frozen {w : World} {b : Nat} {cs : Array Value} {t : TypeId} (h : w.heap[b]? = some (.cells cs t (0, 0))) (i : Nat) : w.frozen? ⟨b, i, none⟩ = false := by
  simp only [World.frozen?, h]
  simp
theorem setCell_obj {w : World} {b i : Nat} {cs : Array Value} {t : TypeId} {f : Nat × Nat} (h : w.heap[b]? = some (.cells cs t f)) (v : Value) : (w.setCell ⟨b, i, none⟩ v).heap[b]? = some (.cells (cs.setIfInBounds i v) t f) := by
  obtain ⟨hb, he⟩ := Array.getElem?_eq_some_iff.1 h
  simp [World.setCell, hb, Array.getElem_modify, he]
theorem obj_lt {w : World} {b : Nat} {o : Obj} (h : w.heap[b]? = some o) : b < w.heap.size := (Array.getElem?_eq_some_iff.1 h).1
theorem cells_new (w : World) (vs : List Value) (cs : Array Value) (hcs : cs = vs.toArray) (t : TypeId) (z : Nat × Nat) : Cells (w.alloc (.cells cs t z)) w.heap.size 0 vs := fun i hi => by
  have := alloc_obj w (.cells cs t z)
  refine obj_cell this (0 + i) ?_
  rw [hcs]
  simp [hi]
theorem cells_new' (w : World) (vs : List Value) (cs : Array Value) (hcs : cs = vs.toArray) (t : TypeId) (z : Nat × Nat) (b : Nat) (hb : b = w.heap.size) : Cells (w.alloc (.cells cs t z)) b 0 vs := by
  subst hb
  exact cells_new w vs cs hcs t z
theorem two_boxes (w : World) (o1 o2 : Obj) : ((w.alloc o1).alloc o2).heap[w.heap.size]? = some o1 ∧ ((w.alloc o1).alloc o2).heap[w.heap.size + 1]? = some o2 ∧ Below w.heap.size w ((w.alloc o1).alloc o2) := by
  have hs : (w.alloc o1).heap.size = w.heap.size + 1 := by simp
  refine ⟨(Below.heap_alloc _ _ _ (by omega)).trans (alloc_obj w o1), ?_, ((Below.refl _ w).alloc (Nat.le_refl _) _).alloc (by omega) _⟩
  have := alloc_obj (w.alloc o1) o2
  rwa [hs] at this
theorem at_world {Q : World → Prop} {w : World} (F : World → Prop) (hF : F w) (h : ∀ W, F W → Q W) : Q w := h w hF
theorem wp_atW {P : Program} {c : Code} {Q : Exit → Act → World → Prop} {a : Act} {w : World} (F : World → Prop) (hF : F w) (h : ∀ W, F W → c.wp P Q a W) : c.wp P Q a w := h w hF
theorem own_frB {ch : Nat → Prop} {w w' : World} {B e size n : Nat} {v : Value} {xs : List Value} (h : w.ownsRow B e size v n xs) (k : Fr ch w w') (hc : ∀ g, B ≤ g → ¬ ch g) : w'.ownsRow B e size v n xs := by
  obtain ⟨h1, h2⟩ := h
  refine ⟨h1, ?_⟩
  rcases h2 with h2 | ⟨g, cap, cur, hv, hb, hg, r⟩
  · exact .inl h2
  · exact .inr ⟨g, cap, cur, hv, hb, k.obj hg (hc g hb), r⟩
theorem own_ne {w : World} {B e size n b : Nat} {v : Value} {xs : List Value} {cs : Array Value} {t : TypeId} {f : Nat × Nat} (h : w.ownsRow B e size v n xs) (hb : w.heap[b]? = some (.cells cs t f)) (hne : e ≠ t) : v.ownBlock ≠ some b := fun hv => by
  obtain ⟨_, h2⟩ := h
  rcases h2 with ⟨rfl, _⟩ | ⟨g, cap, cur, rfl, _, hg, _⟩
  · cases hv
  · simp only [Value.ownBlock, Option.some.injEq] at hv
    subst hv
    rw [hb] at hg
    simp only [Option.some.injEq, Obj.cells.injEq] at hg
    exact hne hg.2.1.symm
theorem own_mono {w : World} {B B' e size n : Nat} {v : Value} {xs : List Value} (h : w.ownsRow B e size v n xs) (hb : ∀ g, v.ownBlock = some g → B' ≤ g) : w.ownsRow B' e size v n xs := by
  obtain ⟨h1, h2⟩ := h
  refine ⟨h1, ?_⟩
  rcases h2 with h2 | ⟨g, cap, cur, rfl, _, r⟩
  · exact .inl h2
  · exact .inr ⟨g, cap, cur, rfl, hb g rfl, r⟩
theorem own_base {w : World} {B B' e size n : Nat} {v : Value} {xs : List Value} (h : w.ownsRow B e size v n xs) (hb : B' ≤ B) : w.ownsRow B' e size v n xs := by
  obtain ⟨h1, h2⟩ := h
  refine ⟨h1, ?_⟩
  rcases h2 with h2 | ⟨g, cap, cur, hv, hg, rest⟩
  · exact .inl h2
  · exact .inr ⟨g, cap, cur, hv, Nat.le_trans hb hg, rest⟩
/-- append onto a list of one's own: the new value, and the older one, which reads as it did. -/
theorem wpList_append_keep {P : Program} {w : World} {ops : Array Oper} {rest : List Oper} {o : Oper} {a : Act} {Q : Exit → Act → World → Prop} (hgd : o.guard = none) (s x : Operand) (t : TypeId)
    (ho : o.op = .call { callee := .builtin .append, args := #[s, x], argTypes := #[t, t] })
    (base : Nat) (e : TypeId) (i : TypeInfo) (z : Value) (size bytes : Nat) (ht : P.underlying t = some (.slice e)) (hi : P.info? e = some i) (hz : i.zero = some z)
    (hsize : i.size = size) (hby : i.bytes = bytes) (hzs : z.cells.size = size) (hsz : 0 < size)
    (v : Value) (n : Nat) (xs : List Value) (hs : a.eval s = v) (hown : w.ownsRow base e size v n xs)
    (ad : Addr) (m c : Nat) (news : List Value) (hx : a.eval x = .slice (some ad) m c) (hl : news.length = m * size)
    (hnews : ∀ j u, news[j]? = some u → w.cell? (ad.add j) = some u) (h1 : ∀ u ∈ news, u.oneCell' = true)
    (hm : 0 < m) (h63 : n + m ≤ maxLen) (hbytes : (n + m) * bytes ≤ 140737488355328) (hbase : base ≤ w.heap.size)
    (h : ∀ v' w', w'.ownsRow base e size v' (n + m) (xs ++ news) → w'.ownsRow base e size v n xs → Fr (fun g => v.ownBlock = some g) w w' → ((∃ g c, v = .slice (some ⟨g, 0, none⟩) n c ∧ v' = .slice (some ⟨g, 0, none⟩) (n + m) c) ∨ ∀ g, v'.ownBlock = some g → w.heap.size ≤ g) → wpList P ops Q rest (a.put o.dst v') w') :
    wpList P ops Q (o :: rest) a w := by
  have hown' := hown
  obtain ⟨hlen, h2⟩ := hown
  rcases h2 with ⟨rfl, rfl⟩ | ⟨g, cap, cur, rfl, hb, hg, r1, r2, r3, r4⟩
  · have hxs : xs = [] := List.eq_nil_of_length_eq_zero (by simpa using hlen)
    subst hxs
    refine wpList_append_grows w hgd s x t ho e i z size bytes ht hi hz hsize hby hzs hsz none 0 0 [] hs (fun _ => ⟨rfl, rfl⟩) (by simp) (fun _ e => by cases e) ad m c news hx hl hnews h1 (by omega) h63 hbytes fun v' w' k1 k2 => ?_
    refine h v' w' (own_base k1 hbase) ⟨by simp, .inl ⟨rfl, rfl⟩⟩ ((Fr.grown k2).mono fun _ _ e => e) (.inr fun g e => (k1.lt g e).1)
  · by_cases hroom : n + m ≤ cap
    · refine wpList_append_room hgd s x t ho base e i size ht hi hsize g n cap xs hs hown' (some ad) m c news hx hl (.inr ⟨ad, rfl, hnews⟩) h1 hroom fun w' k1 k2 => ?_
      refine h _ w' k1 ?_ ((Fr.grown k2).mono fun _ _ e => by simpa [Value.ownBlock] using e) (.inl ⟨g, cap, rfl, rfl⟩)
      obtain ⟨k3, k4⟩ := k1
      rcases k4 with ⟨k4, _⟩ | ⟨g', cap', cur', k4, q1, q2, q3, q4, q5, q6⟩
      · cases k4
      · simp only [Value.slice.injEq, Option.some.injEq, Addr.mk.injEq] at k4
        obtain ⟨⟨rfl, -⟩, -, rfl⟩ := k4
        refine ⟨hlen, .inr ⟨g, cap, cur', rfl, q1, q2, r1, q4, q5, ?_⟩⟩
        have : (cur'.toList.take ((n + m) * size)).take (n * size) = (xs ++ news).take (n * size) := by rw [q6]
        rw [List.take_take, Nat.min_eq_left (Nat.mul_le_mul_right _ (Nat.le_add_right _ _)), List.take_left' hlen] at this
        exact this
    · refine wpList_append_grows w hgd s x t ho e i z size bytes ht hi hz hsize hby hzs hsz (some ⟨g, 0, none⟩) n cap xs hs (fun e => by cases e) hlen (fun b e j u hu => ?_) ad m c news hx hl hnews h1 (by omega) h63 hbytes fun v' w' k1 k2 => ?_
      · cases e
        exact hown'.cells (g := g) rfl j u hu
      · exact h v' w' (own_base k1 hbase) (own_fr hown' (Fr.grown k2) fun g e e2 => by cases e2) ((Fr.grown k2).mono fun _ _ e => by cases e) (.inr fun g e => (k1.lt g e).1)

/-- A list that a literal lays. -/
theorem own_laid {w : World} {B e size g n : Nat} {cs : Array Value} (hg : w.heap[g]? = some (.cells cs e (0, 0))) (hb : B ≤ g) (hs : cs.size = n * size) (hn : n ≤ maxLen) : w.ownsRow B e size (.slice (some ⟨g, 0, none⟩) n n) n cs.toList :=
  ⟨by simpa using hs, .inr ⟨g, n, cs, rfl, hb, hg, Nat.le_refl _, hn, hs, by rw [List.take_of_length_le (by simp; omega)]⟩⟩
/-- Blocks from lo on, below hi. -/
def Rng (lo hi : Nat) (k : Nat) : Prop := lo ≤ k ∧ k < hi
theorem below_of_fr {ch : Nat → Prop} {w w' : World} (h : Fr ch w w') (hc : ∀ k, k < w.heap.size → ¬ ch k) : Below w.heap.size w w' := ⟨h.os, h.tape, h.output, h.size, fun k hk => h.block k hk (hc k hk)⟩
end Go.Proofs.Yticdoccaabfjaaa
