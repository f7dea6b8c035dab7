/-
  Symbols of a list; worlds behind a later one.
  Items, plain: what stands behind a dot, closures, what they go on to.
  Grammars that a literal lays down: rows of cells in one new block.
  Items, plain: closures and collections as lists that are reckoned.
  Maps by what each key holds: look-up and store, at a key that is there too.
  Items, plain: what holds of the states.
  Package bits: Key: the bytes of a row of numbers; what a number that may not be ends in.
  A grammar that came in, in a variable's place.
  Package clash: entries; who is first; the level of a symbol.
  The statements' own helpers on symbols: markSymbol, LentSymbols.
  A drawn region that reads and then makes: its first operation is a move that only the last ones wait for.
  A region that draws its order, by an invariant, in a function that defers: the act is told whole.
  What all laws' rows share: a call that answers true and leaves what was there as it was meets the law's specification.
  The statements' own helpers on symbols: KeptSymbols, SameSymbols, of lists that are one.
-/
import Derived.Test.YtpnihegmhalcfaaRunG01
import Derived.Defers
import Derived.Deep.DeepMust
import Derived.Recover
import Derived.WalkSmall
import Derived.RangeFuncBox
import Derived.StillTailTactics
import Derived.ProofKit
import Derived.SizedLaws
namespace Go.Proofs.Ytpnihegmhalcfaa
open Go.RowKit
set_option maxHeartbeats 400000

theorem IsSyms.get {w : World} {b : Option Addr} {n cap : Nat} {l : List Sym} (h : IsSyms w (.slice b n cap) l) (k : Nat) (hk : k < l.length) :
    ∃ g o, b = some ⟨g, o, none⟩ ∧ SymOk l[k] ∧ Cells w g (o + k * 4) (symCells l[k]) := by
  obtain ⟨h1, a, c, hv, hc, hm, hx⟩ := h
  simp only [Value.slice.injEq] at hv
  obtain ⟨rfl, rfl, rfl⟩ := hv
  rcases hx with rfl | ⟨g, o, rfl, hx⟩
  · simp at hk
  · exact ⟨g, o, rfl, (hx k hk).1, (hx k hk).2⟩
theorem After.up {w1 w2 : World} (p : After w2) (h : Below w1.heap.size w1 w2) : Below w1.heap.size w1 p.w := h.trans (p.ok.mono h.size)
def After.down {w1 w2 : World} (p : After w2) (h : Below w1.heap.size w1 w2) : After w1 := ⟨p.w, p.up h⟩
theorem after_alloc {w1 : World} {a : Addr} {v : Value} (h : ∀ p : After w1, p.w.cell? a = some v) : ∀ (p : After w1) (ob : Obj), (p.w.alloc ob).cell? a = some v :=
  fun p ob => (Fr.alloc (ch := nothing) p.w ob).cell (h p) fun e => e
theorem after_alloc2 {w1 : World} {a : Addr} {v : Value} (h : ∀ p : After w1, p.w.cell? a = some v) : ∀ (p : After w1) (ob ob' : Obj), ((p.w.alloc ob).alloc ob').cell? a = some v :=
  fun p ob ob' => (Fr.alloc (ch := nothing) _ ob').cell (after_alloc h p ob) fun e => e
end Go.Proofs.Ytpnihegmhalcfaa
namespace Go.Proofs.Ytpnihegmhalcfaa
set_option maxHeartbeats 400000

abbrev It := Int × Int
def rightOf (G : Gram) (p : Int) : List Int := (G.prods[p.toNat]?.map (·.right)).getD []
/-- The symbol behind the dot. -/
def behI (G : Gram) (x : It) : Option Int := (rightOf G x.1)[x.2.toNat]?
/-- An item of the grammar. -/
def InI (G : Gram) (x : It) : Prop := 0 ≤ x.1 ∧ x.1 < (G.prods.length : Int) ∧ 0 ≤ x.2 ∧ x.2 ≤ ((rightOf G x.1).length : Int)
inductive InClo (G : Gram) (K : List It) : It → Prop
  | ker {x : It} : x ∈ K → InClo G K x
  | step {x : It} {s : Int} {p : Nat} (hp : p < G.prods.length) : InClo G K x → behI G x = some s → G.prods[p].left = s → InClo G K ((p : Int), 0)
def ltI (a b : It) : Prop := a.1 < b.1 ∨ a.1 = b.1 ∧ a.2 < b.2
instance (a b : It) : Decidable (ltI a b) := by unfold ltI; infer_instance
theorem ltI_irrefl (a : It) : ¬ ltI a a := by unfold ltI; omega
theorem ltI_trans {a b c : It} (h : ltI a b) (k : ltI b c) : ltI a c := by unfold ltI at *; omega
theorem ltI_total {a b : It} (h : ¬ ltI a b) (k : ¬ ltI b a) : a = b := by
  unfold ltI at *
  obtain ⟨a1, a2⟩ := a
  obtain ⟨b1, b2⟩ := b
  simp only [Prod.mk.injEq] at *
  omega
def RisI (l : List It) : Prop := l.Pairwise ltI
theorem risI_eq : ∀ {l m : List It}, RisI l → RisI m → (∀ x, x ∈ l ↔ x ∈ m) → l = m
  | [], [], _, _, _ => rfl
  | [], b :: m, _, _, h => by have := (h b).2 (by simp); simp at this
  | a :: l, [], _, _, h => by have := (h a).1 (by simp); simp at this
  | a :: l, b :: m, hl, hm, h => by
    have hl' := List.pairwise_cons.1 hl
    have hm' := List.pairwise_cons.1 hm
    have hab : a = b := by
      rcases List.mem_cons.1 ((h a).1 (by simp)) with e | e
      · exact e
      · rcases List.mem_cons.1 ((h b).2 (by simp)) with e2 | e2
        · exact e2.symm
        · exact absurd (ltI_trans (hm'.1 a e) (hl'.1 b e2)) (ltI_irrefl _)
    subst hab
    refine congrArg (a :: ·) (risI_eq hl'.2 hm'.2 fun x => ⟨fun hx => ?_, fun hx => ?_⟩)
    · rcases List.mem_cons.1 ((h x).1 (List.mem_cons_of_mem _ hx)) with e | e
      · subst e
        exact absurd (hl'.1 _ hx) (ltI_irrefl _)
      · exact e
    · rcases List.mem_cons.1 ((h x).2 (List.mem_cons_of_mem _ hx)) with e | e
      · subst e
        exact absurd (hm'.1 _ hx) (ltI_irrefl _)
      · exact e
/-- An item laid among others that rise. -/
def putI (x : It) : List It → List It
  | [] => [x]
  | y :: l => if ltI y x then y :: putI x l else if y = x then y :: l else x :: y :: l
theorem putI_mem {x z : It} {l : List It} : z ∈ putI x l ↔ z = x ∨ z ∈ l := by
  induction l with
  | nil => simp [putI]
  | cons y l ih =>
    unfold putI
    split
    · rw [List.mem_cons, ih, List.mem_cons]
      constructor
      · rintro (h | h | h)
        · exact .inr (.inl h)
        · exact .inl h
        · exact .inr (.inr h)
      · rintro (h | h | h)
        · exact .inr (.inl h)
        · exact .inl h
        · exact .inr (.inr h)
    · split
      · rename_i e
        subst e
        simp
      · simp
theorem putI_ris {x : It} {l : List It} (h : RisI l) : RisI (putI x l) := by
  induction l with
  | nil => exact List.pairwise_singleton _ _
  | cons y l ih =>
    have h' := List.pairwise_cons.1 h
    unfold putI
    split
    · rename_i e
      refine List.pairwise_cons.2 ⟨fun z hz => ?_, ih h'.2⟩
      rcases putI_mem.1 hz with rfl | hz
      · exact e
      · exact h'.1 z hz
    · split
      · exact h
      · rename_i e1 e2
        have hxy : ltI x y := by
          by_cases h3 : ltI x y
          · exact h3
          · exact absurd (ltI_total e1 h3) e2
        refine List.pairwise_cons.2 ⟨fun z hz => ?_, h⟩
        rcases List.mem_cons.1 hz with rfl | hz
        · exact hxy
        · exact ltI_trans hxy (h'.1 z hz)
def sortI (l : List It) : List It := l.foldr putI []
theorem sortI_mem {x : It} {l : List It} : x ∈ sortI l ↔ x ∈ l := by
  induction l with
  | nil => simp [sortI]
  | cons y l ih =>
    show x ∈ putI y (sortI l) ↔ _
    rw [putI_mem, ih, List.mem_cons]
theorem sortI_ris (l : List It) : RisI (sortI l) := by
  induction l with
  | nil => exact List.Pairwise.nil
  | cons y l ih => exact putI_ris ih
/-- The productions of a symbol, the dot ahead. -/
def ownI (G : Gram) (s : Int) : List It := ((List.range G.prods.length).filter fun p => decide ((G.prods[p]?.map (·.left)).getD (-1) = s)).map fun p : Nat => ((p : Int), (0 : Int))
theorem ownI_mem {G : Gram} {s : Int} {x : It} : x ∈ ownI G s ↔ ∃ (p : Nat) (hp : p < G.prods.length), G.prods[p].left = s ∧ x = ((p : Int), 0) := by
  unfold ownI
  rw [List.mem_map]
  constructor
  · rintro ⟨p, hp, rfl⟩
    rw [List.mem_filter, List.mem_range, decide_eq_true_eq] at hp
    obtain ⟨hlt, he⟩ := hp
    rw [List.getElem?_eq_getElem hlt] at he
    exact ⟨p, hlt, he, rfl⟩
  · rintro ⟨p, hp, rfl, rfl⟩
    refine ⟨p, ?_, rfl⟩
    rw [List.mem_filter, List.mem_range, decide_eq_true_eq]
    refine ⟨hp, ?_⟩
    rw [List.getElem?_eq_getElem hp]
    rfl
/-- What the walk of a closure has reached: each item of the kernel, and nothing that is not of the closure; the symbols seen have all their productions there. -/
structure CloAt (G : Gram) (K seen : List It) (syms : List Int) : Prop where
  ker : ∀ x ∈ K, x ∈ seen
  own : ∀ s ∈ syms, ∀ x ∈ ownI G s, x ∈ seen
  sound : ∀ x ∈ seen, InClo G K x
theorem clo_done {G : Gram} {K L : List It} {syms : List Int} (h : CloAt G K L syms) (hall : ∀ x ∈ L, ∀ s, behI G x = some s → s ∈ syms) (x : It) : x ∈ L ↔ InClo G K x := by
  refine ⟨h.sound x, fun hx => ?_⟩
  induction hx with
  | ker hk => exact h.ker _ hk
  | step hp _ hb hl ih => exact h.own _ (hall _ ih _ hb) _ (ownI_mem.2 ⟨_, hp, hl, rfl⟩)
/-- A closure, reckoned: the symbols behind the dots, their productions, as long as there is a new one. -/
def cloGo (G : Gram) : Nat → List It → List Int → List It → List It
  | _, out, _, [] => out
  | 0, out, _, _ => out
  | n + 1, out, syms, x :: todo => match behI G x with
    | none => cloGo G n out syms todo
    | some s => if s ∈ syms then cloGo G n out syms todo else cloGo G n (out ++ ownI G s) (s :: syms) (todo ++ ownI G s)
def onI (G : Gram) (L : List It) (s : Int) : List It := (L.filter fun x => decide (behI G x = some s)).map fun x => (x.1, x.2 + 1)
theorem onI_mem {G : Gram} {L : List It} {s : Int} {x : It} : x ∈ onI G L s ↔ ∃ y ∈ L, behI G y = some s ∧ x = (y.1, y.2 + 1) := by
  unfold onI
  rw [List.mem_map]
  constructor
  · rintro ⟨y, hy, rfl⟩
    rw [List.mem_filter, decide_eq_true_eq] at hy
    exact ⟨y, hy.1, hy.2, rfl⟩
  · rintro ⟨y, h1, h2, rfl⟩
    exact ⟨y, List.mem_filter.2 ⟨h1, decide_eq_true h2⟩, rfl⟩
theorem onI_ris {G : Gram} {L : List It} {s : Int} (h : RisI L) : RisI (onI G L s) := by
  unfold onI RisI
  rw [List.pairwise_map]
  refine (h.filter _).imp fun {a b} hab => ?_
  unfold ltI at *
  simp only
  omega
theorem inI_own {G : Gram} {s : Int} {x : It} (h : x ∈ ownI G s) : InI G x := by
  obtain ⟨p, hp, _, rfl⟩ := ownI_mem.1 h
  refine ⟨by simp only; omega, by simp only; omega, by simp, by simp only; omega⟩
theorem inClo_in {G : Gram} {K : List It} (hK : ∀ x ∈ K, InI G x) {x : It} (h : InClo G K x) : InI G x := by
  induction h with
  | ker h => exact hK _ h
  | step hp _ _ hl => exact inI_own (ownI_mem.2 ⟨_, hp, hl, rfl⟩)
theorem inClo_clo {G : Gram} {K L : List It} (h : ∀ x, x ∈ L ↔ InClo G K x) (x : It) : InClo G L x ↔ InClo G K x := by
  constructor
  · intro hx
    induction hx with
    | ker hk => exact (h _).1 hk
    | step hp _ hb hl ih => exact .step hp ih hb hl
  · intro hx
    exact .ker ((h x).2 hx)
end Go.Proofs.Ytpnihegmhalcfaa
namespace Go.Proofs.Ytpnihegmhalcfaa
open Go.RowKit
set_option maxHeartbeats 400000

theorem alloc_at {w : World} {o : Obj} {k : Nat} (h : w.heap.size = k) : (w.alloc o).heap[k]? = some o := h ▸ alloc_obj w o
theorem alloc_older {w : World} {o o' : Obj} {k : Nat} (h : w.heap[k]? = some o') : (w.alloc o).heap[k]? = some o' := (Fr.alloc (ch := nothing) w o).obj h fun e => e
theorem below_alloc {w w' : World} {o : Obj} (h : Below w.heap.size w w') : Below w.heap.size w (w'.alloc o) := h.alloc h.size o

theorem flat_get {α β : Type} (f : α → List β) (m : Nat) (hf : ∀ x, (f x).length = m) : ∀ (l : List α) (i j : Nat) (hi : i < l.length), j < m → (l.flatMap f)[i * m + j]? = (f l[i])[j]?
  | [], i, _, hi, _ => by simp at hi
  | a :: l, 0, j, _, hj => by
    rw [List.flatMap_cons, List.getElem?_append_left (by rw [hf]; omega)]
    simp
  | a :: l, i + 1, j, hi, hj => by
    rw [List.flatMap_cons, List.getElem?_append_right (by rw [hf, Nat.add_mul]; omega), hf]
    have := flat_get f m hf l i j (by simpa using hi) hj
    rw [show (i + 1) * m + j - m = i * m + j by rw [Nat.add_mul]; omega, this]
    simp
theorem obj_flat {α : Type} {w : World} {b : Nat} {cs : Array Value} {t : TypeId} {z : Nat × Nat} {l : List α} {f : α → List Value} {m : Nat} (h : w.heap[b]? = some (.cells cs t z)) (hcs : cs = (l.flatMap f).toArray) (hf : ∀ x, (f x).length = m) (i : Nat) (hi : i < l.length) : Cells w b (i * m) (f l[i]) := fun j hj => by
  have h1 := flat_get f m hf l i j hi (by rw [hf] at hj; exact hj)
  rw [List.getElem?_eq_getElem hj] at h1
  refine obj_cell h (i * m + j) ?_
  rw [hcs]
  simpa using h1
theorem ints_obj {w : World} {b : Nat} {cs : Array Value} {t : TypeId} {z : Nat × Nat} {xs : List Int} {n : Nat} (h : w.heap[b]? = some (.cells cs t z)) (hcs : cs = (xs.map (Value.int .i64)).toArray) (hx : ∀ x ∈ xs, -9223372036854775808 ≤ x ∧ x ≤ 9223372036854775807) (hn : n = xs.length) (hl : xs.length ≤ 17592186044416) : Ints w (.slice (some ⟨b, 0, none⟩) n n) xs := by
  subst hn
  refine ⟨hx, hl, _, _, rfl, Nat.le_refl _, by unfold maxLen; omega, .inr ⟨b, 0, rfl, fun i hi => obj_cell h (0 + i) ?_⟩⟩
  rw [hcs]
  simp only [List.length_map] at hi
  simp [hi]
theorem syms_obj {w : World} {b : Nat} {cs : Array Value} {t : TypeId} {z : Nat × Nat} {l : List Sym} {n : Nat} (h : w.heap[b]? = some (.cells cs t z)) (hcs : cs = (l.flatMap symCells).toArray) (hok : ∀ s ∈ l, SymOk s) (hn : n = l.length) (hl : l.length ≤ 17592186044416) : IsSyms w (.slice (some ⟨b, 0, none⟩) n n) l := by
  subst hn
  refine ⟨hl, _, _, rfl, Nat.le_refl _, by unfold maxLen; omega, .inr ⟨b, 0, rfl, fun i hi => ⟨hok _ (List.getElem_mem hi), ?_⟩⟩⟩
  have := obj_flat (m := 4) h hcs (fun _ => rfl) i hi
  simpa using this
theorem prds_obj {w : World} {b : Nat} {cs : Array Value} {t : TypeId} {z : Nat × Nat} {l : List (Prd × Value)} {n : Nat} (h : w.heap[b]? = some (.cells cs t z)) (hcs : cs = (l.flatMap fun x => prdCells x.1 x.2).toArray) (hok : ∀ x ∈ l, PrdOk x.1 ∧ Ints w x.2 x.1.right) (hn : n = l.length) (hl : l.length ≤ 17592186044416) : IsPrds w (.slice (some ⟨b, 0, none⟩) n n) (l.map Prod.fst) := by
  subst hn
  refine ⟨by simpa using hl, some ⟨b, 0, none⟩, l.length, by simp, by simp, by unfold maxLen; omega, .inr ⟨b, 0, rfl, fun i hi => ?_⟩⟩
  have hi' : i < l.length := by simpa using hi
  have h1 := obj_flat (m := 6) h hcs (fun _ => rfl) i hi'
  have h2 := hok _ (List.getElem_mem hi')
  simp only [List.getElem_map]
  exact ⟨h2.1, _, h2.2, by simpa using h1⟩
end Go.Proofs.Ytpnihegmhalcfaa
namespace Go.Proofs.Ytpnihegmhalcfaa
set_option maxHeartbeats 400000

/-- The productions whose symbol has not been seen. -/
def remI (G : Gram) (syms : List Int) : Nat := ((List.range G.prods.length).filter fun p => decide ((G.prods[p]?.map (·.left)).getD (-1) ∉ syms)).length
theorem rem_step' (f : Nat → Int) (s : Int) (syms : List Int) (hs : s ∉ syms) (l : List Nat) : (l.filter fun p => decide (f p = s)).length + (l.filter fun p => decide (f p ∉ s :: syms)).length = (l.filter fun p => decide (f p ∉ syms)).length := by
  induction l with
  | nil => rfl
  | cons p l ih =>
    simp only [List.filter_cons]
    by_cases h1 : f p = s
    · rw [if_pos (by simp [h1]), if_neg (by simp [h1]), if_pos (by simp [h1, hs]), List.length_cons, List.length_cons]
      omega
    · by_cases h2 : f p ∈ syms
      · rw [if_neg (by simp [h1]), if_neg (by simp [h2]), if_neg (by simp [h2])]
        exact ih
      · rw [if_neg (by simp [h1]), if_pos (by simp [h1, h2]), if_pos (by simp [h2]), List.length_cons, List.length_cons]
        omega
theorem rem_step (G : Gram) (s : Int) (syms : List Int) (hs : s ∉ syms) : (ownI G s).length + remI G (s :: syms) = remI G syms := by
  unfold ownI remI
  rw [List.length_map]
  exact rem_step' (fun p => (G.prods[p]?.map (·.left)).getD (-1)) s syms hs _
theorem cloGo_spec {G : Gram} {K : List It} : ∀ (n : Nat) (out : List It) (syms : List Int) (todo : List It), CloAt G K out syms → (∀ x ∈ todo, x ∈ out) → (∀ x ∈ out, x ∈ todo ∨ ∀ s, behI G x = some s → s ∈ syms) → todo.length + remI G syms ≤ n →
    ∀ x, x ∈ cloGo G n out syms todo ↔ InClo G K x
  | n, out, syms, [], hc, _, hall, _, x => by
    unfold cloGo
    refine clo_done hc (fun y hy s hs => ?_) x
    rcases hall y hy with h | h
    · simp at h
    · exact h s hs
  | 0, out, syms, y :: todo, hc, _, _, hn, x => by simp at hn
  | n + 1, out, syms, y :: todo, hc, ht, hall, hn, x => by
    simp only [List.length_cons] at hn
    unfold cloGo
    cases hb : behI G y with
    | none =>
      refine cloGo_spec n out syms todo hc (fun z hz => ht z (List.mem_cons_of_mem _ hz)) (fun z hz => ?_) (by omega) x
      rcases hall z hz with h | h
      · rcases List.mem_cons.1 h with rfl | h
        · exact .inr fun s hs => by rw [hb] at hs; cases hs
        · exact .inl h
      · exact .inr h
    | some s =>
      simp only
      split
      · rename_i hs
        refine cloGo_spec n out syms todo hc (fun z hz => ht z (List.mem_cons_of_mem _ hz)) (fun z hz => ?_) (by omega) x
        rcases hall z hz with h | h
        · rcases List.mem_cons.1 h with rfl | h
          · exact .inr fun t ht => by rw [hb] at ht; cases ht; exact hs
          · exact .inl h
        · exact .inr h
      · rename_i hs
        have hr := rem_step G s syms hs
        refine cloGo_spec n _ _ _ ⟨fun z hz => List.mem_append_left _ (hc.ker z hz), fun t ht' z hz => ?_, fun z hz => ?_⟩ (fun z hz => ?_) (fun z hz => ?_) (by rw [List.length_append]; omega) x
        · rcases List.mem_cons.1 ht' with rfl | ht'
          · exact List.mem_append_right _ hz
          · exact List.mem_append_left _ (hc.own t ht' z hz)
        · rcases List.mem_append.1 hz with hz | hz
          · exact hc.sound z hz
          · obtain ⟨p, hp, hl, rfl⟩ := ownI_mem.1 hz
            exact .step hp (hc.sound y (ht y (by simp))) hb hl
        · rcases List.mem_append.1 hz with hz | hz
          · exact List.mem_append_left _ (ht z (List.mem_cons_of_mem _ hz))
          · exact List.mem_append_right _ hz
        · rcases List.mem_append.1 hz with hz | hz
          · rcases hall z hz with h | h
            · rcases List.mem_cons.1 h with rfl | h
              · exact .inr fun t ht => by rw [hb] at ht; cases ht; simp
              · exact .inl (List.mem_append_left _ h)
            · exact .inr fun t ht => List.mem_cons_of_mem _ (h t ht)
          · exact .inl (List.mem_append_right _ hz)
/-- The closure of a kernel, rising. -/
def cloL (G : Gram) (K : List It) : List It := sortI (cloGo G (K.length + G.prods.length) K [] K)
theorem cloL_ris (G : Gram) (K : List It) : RisI (cloL G K) := sortI_ris _
theorem cloL_mem {G : Gram} {K : List It} {x : It} : x ∈ cloL G K ↔ InClo G K x := by
  unfold cloL
  rw [sortI_mem]
  refine cloGo_spec _ _ _ _ ⟨fun _ h => h, fun s hs => by simp at hs, fun x hx => .ker hx⟩ (fun _ h => h) (fun _ h => .inl h) ?_ x
  unfold remI
  have := List.length_filter_le (fun p => decide ((G.prods[p]?.map (·.left)).getD (-1) ∉ ([] : List Int))) (List.range G.prods.length)
  rw [List.length_range] at this
  omega
/-- What rises and has the closure's items is the closure. -/
theorem cloL_is {G : Gram} {K L : List It} (h : RisI L) (hm : ∀ x, x ∈ L ↔ InClo G K x) : L = cloL G K := risI_eq h (cloL_ris _ _) fun x => by rw [hm, cloL_mem]
theorem cloL_again (G : Gram) (K : List It) : cloL G (cloL G K) = cloL G K :=
  (cloL_is (cloL_ris G K) fun x => by rw [cloL_mem, inClo_clo (fun y => cloL_mem)]).symm
/-- Where a kernel lies, laid behind the others where it is new; none: they are too many. -/
def putK (ks : List (List It)) (k : List It) : Option (Nat × List (List It)) :=
  match ks.findIdx? (fun x => decide (x = k)) with
  | some j => some (j, ks)
  | none => if ks.length = 256 then none else some (ks.length, ks ++ [k])
def edgesGo (G : Gram) (L : List It) : List Int → List (List It) → List (Int × Int) → Option (List (List It) × List (Int × Int))
  | [], ks, es => some (ks, es)
  | s :: r, ks, es => if onI G L s = [] then edgesGo G L r ks es else match putK ks (onI G L s) with
    | none => none
    | some (j, ks') => edgesGo G L r ks' (es ++ [(s, (j : Int))])
def symsI (G : Gram) : List Int := (List.range G.syms.length).map fun s : Nat => (s : Int)
def colGo (G : Gram) : Nat → Nat → List (List It) → List (List (Int × Int)) → Option (List (List It) × List (List (Int × Int)))
  | 0, _, _, _ => none
  | n + 1, i, ks, gs => match ks[i]? with
    | none => some (ks, gs)
    | some k => match edgesGo G (cloL G k) (symsI G) ks [] with
      | none => none
      | some (ks', es) => colGo G n (i + 1) ks' (gs ++ [es])
/-- The states of a grammar: their kernels, their edges. -/
def colI (G : Gram) : Option (List (List It) × List (List (Int × Int))) := colGo G 257 0 [[(0, 0)]] []
end Go.Proofs.Ytpnihegmhalcfaa
namespace Go.Proofs.Ytpnihegmhalcfaa
open Go.RowKit Go.MapKept Go.ChangeMaps

/-- What a list of entries holds at a key. -/
def valAt (d : TypeDesc) (k : Value) : List MapEntry → Option Value
  | [] => none
  | e :: es => match Instr.sameNow d k e.key with
    | some true => some e.val
    | _ => valAt d k es

theorem valAt_find {d : TypeDesc} {k : Value} (hk : IsKey d k) (v : Value) : ∀ (l : List MapEntry) (i : Nat), (∀ e ∈ l, IsKey d e.key) →
    (Instr.findNow d k l i = some none ∧ valAt d k l = none ∧ ∀ e ∈ l, e.key ≠ k) ∨
    ∃ j e, Instr.findNow d k l i = some (some (i + j, e.val)) ∧ l[j]? = some e ∧ e.key = k ∧ valAt d k l = some e.val ∧
      valAt d k (l.modify j fun e => { e with key := k, val := v }) = some v ∧
      ∀ k', IsKey d k' → k' ≠ k → valAt d k' (l.modify j fun e => { e with key := k, val := v }) = valAt d k' l
  | [], _, _ => .inl ⟨rfl, rfl, by simp⟩
  | e :: es, i, h => by
    obtain ⟨r, hr, hiff⟩ := sameNow_of_keys hk (h e (.head _))
    cases r with
    | true =>
      have he : e.key = k := (hiff.1 rfl).symm
      refine .inr ⟨0, e, by simp [Instr.findNow, hr], rfl, he, by simp [valAt, hr], ?_, fun k' hk' hne => ?_⟩
      · rw [he] at hr
        simp [valAt, hr]
      · rw [he] at hr
        simp [valAt, he]
        obtain ⟨r', hr', hiff'⟩ := sameNow_of_keys hk' (he ▸ h e (.head _))
        cases r' with
        | true => exact absurd (hiff'.1 rfl) hne
        | false => simp [hr']
    | false =>
      have hne0 : e.key ≠ k := fun e' => by have := hiff.2 e'.symm; cases this
      rcases valAt_find hk v es (i + 1) (fun x hx => h x (.tail _ hx)) with ⟨h1, h2, h3⟩ | ⟨j, e0, h1, h2, h3, h4, h5, h6⟩
      · refine .inl ⟨by simp [Instr.findNow, hr, h1], by simp [valAt, hr, h2], fun x hx => ?_⟩
        rcases List.mem_cons.1 hx with rfl | hx
        · exact hne0
        · exact h3 x hx
      · refine .inr ⟨j + 1, e0, by simp [Instr.findNow, hr, h1]; omega, by simpa using h2, h3, by simp [valAt, hr, h4], by simp [valAt, hr, h5], fun k' hk' hne => ?_⟩
        have := h6 k' hk' hne
        simp only [List.modify_succ_cons, valAt, this]

/-- Block b is a map that holds f k at k. -/
def MapIs (w : World) (d : TypeDesc) (b : Nat) (f : Value → Option Value) : Prop :=
  ∃ es clock, w.heap[b]? = some (.map es clock) ∧ (∀ e ∈ es.toList, IsKey d e.key) ∧ ∀ k, IsKey d k → valAt d k es.toList = f k
section
variable {P : Program} {w w' : World} {d : TypeDesc} {b : Nat} {f f' : Value → Option Value} {t kt et : TypeId} {k : Value}
theorem MapIs.fr {ch : Nat → Prop} (h : MapIs w d b f) (g : Fr ch w w') (hb : ¬ ch b) : MapIs w' d b f := by
  obtain ⟨es, clock, h1, h2⟩ := h
  exact ⟨es, clock, g.obj h1 hb, h2⟩
theorem MapIs.below (h : MapIs w d b f) (g : Below w.heap.size w w') : MapIs w' d b f := h.fr (Fr.new g) fun e => e
theorem MapIs.congr (h : MapIs w d b f) (e : ∀ k, IsKey d k → f k = f' k) : MapIs w d b f' := by
  obtain ⟨es, clock, h1, h2, h3⟩ := h
  exact ⟨es, clock, h1, h2, fun k hk => (h3 k hk).trans (e k hk)⟩
theorem mapIs_new (w : World) (d : TypeDesc) : MapIs (w.alloc (.map #[] 0)) d w.heap.size (fun _ => none) := ⟨#[], 0, (heap_alloc w _).1, by simp, fun _ _ => rfl⟩
theorem MapIs.look (h : MapIs w d b f) (ht : P.underlying t = some (.map kt et)) (hd : P.underlying kt = some d) (hk : IsKey d k) {z : Value} (hz : (zeroValue et).run P w = .ok z w) (c : Bool) :
    (Instr.lookup t (.map (some b)) k c).run P w = .ok (if c then .tuple #[(f k).getD z, .bool (f k).isSome] else (f k).getD z) w := by
  obtain ⟨es, clock, hb, hks, hf⟩ := h
  have hch := fun em => run_checkKey (w := w) hd hk em 9999
  have hfk := hf k hk
  rcases valAt_find hk z es.toList 0 hks with ⟨h1, h2, _⟩ | ⟨j, e0, h1, h2, h3, h4, _⟩
  · have hr := run_findKey (w := w) hd h1
    rw [h2] at hfk
    rw [← hfk]
    simp [Instr.lookup, run_underlying ht, Go.MapKept.run_getObj_map hb, hch, hr, hz, Result.andThen]
  · have hr := run_findKey (w := w) hd h1
    rw [h4] at hfk
    rw [← hfk]
    simp [Instr.lookup, run_underlying ht, Go.MapKept.run_getObj_map hb, hch, hr, Result.andThen]
theorem valAt_push (l : List MapEntry) (e : MapEntry) (k : Value) : valAt d k (l ++ [e]) = match valAt d k l with | some v => some v | none => valAt d k [e] := by
  induction l with
  | nil => simp [valAt]
  | cons x xs ih =>
    simp only [List.cons_append, valAt]
    split
    · rfl
    · exact ih
theorem MapIs.store (h : MapIs w d b f) (ht : P.underlying t = some (.map kt et)) (hd : P.underlying kt = some d) (hk : IsKey d k) (v : Value) (hf' : f' k = some v) (hother : ∀ k', IsKey d k' → k' ≠ k → f' k' = f k') :
    ∃ w', (Instr.mapUpdate t (.map (some b)) k v).run P w = .ok () w' ∧ MapIs w' d b f' ∧ Fr (only b) w w' := by
  obtain ⟨es, clock, hb, hks, hf⟩ := h
  have hch := fun em => run_checkKey (w := w) hd hk em 9999
  rcases valAt_find hk v es.toList 0 hks with ⟨h1, h2, h3⟩ | ⟨j, e0, h1, h2, h3, h4, h5, h6⟩
  · have hr := run_findKey (w := w) hd h1
    refine ⟨setBlock w b (.map (es.push ⟨k, v, clock⟩) (clock + 1)), ?_, ⟨_, _, heap_setBlock_same hb _, ?_, ?_⟩, ⟨rfl, rfl, rfl, by simp [setBlock], fun i _ hi => heap_setBlock_other hb _ (fun e => hi e)⟩⟩
    · simp [Instr.mapUpdate, run_underlying ht, Go.MapKept.run_getObj_map hb, hch, hr, Go.MapKept.run_setObj_map _ hb, Result.andThen, setBlock]
    · intro e he
      simp only [Array.toList_push, List.mem_append, List.mem_singleton] at he
      rcases he with he | rfl
      · exact hks e he
      · exact hk
    · intro k' hk'
      rw [Array.toList_push, valAt_push]
      obtain ⟨r', hr', hiff'⟩ := sameNow_of_keys hk' hk
      by_cases e : k' = k
      · subst e
        rw [h2, hf']
        simp [valAt, hr', hiff'.2 rfl]
      · rw [hother k' hk' e, ← hf k' hk']
        cases hv : valAt d k' es.toList with
        | some u => rfl
        | none =>
          cases r' with
          | true => exact absurd (hiff'.1 rfl) e
          | false => simp [valAt, hr']
  · have hr := run_findKey (w := w) hd h1
    have hj : es[j]? = some e0 := by simpa using h2
    have hst := run_keyThatStays (P := P) (w := w) hk
    refine ⟨setBlock w b (.map (es.modify j fun e => { e with key := k, val := v }) clock), ?_, ⟨_, _, heap_setBlock_same hb _, ?_, ?_⟩, ⟨rfl, rfl, rfl, by simp [setBlock], fun i _ hi => heap_setBlock_other hb _ (fun e => hi e)⟩⟩
    · simp [Instr.mapUpdate, run_underlying ht, Go.MapKept.run_getObj_map hb, hch, hr, hj, h3, hst, Go.MapKept.run_setObj_map _ hb, Result.andThen, setBlock]
    · intro e he
      rw [Array.toList_modify] at he
      obtain ⟨i, hi, rfl⟩ := List.mem_iff_getElem.1 he
      rw [List.getElem_modify]
      split
      · exact hk
      · exact hks _ (List.getElem_mem _)
    · intro k' hk'
      rw [Array.toList_modify]
      by_cases e : k' = k
      · subst e
        rw [h5, hf']
      · rw [h6 k' hk' e, hother k' hk' e, hf k' hk']
end
end Go.Proofs.Ytpnihegmhalcfaa
namespace Go.Proofs.Ytpnihegmhalcfaa
set_option maxHeartbeats 400000

/-- The edges of a closure, symbol by symbol: where something is gone on to, the state whose kernel it is. -/
inductive EdgesIs (G : Gram) (L : List It) (ks : List (List It)) : List Int → List (Int × Int) → Prop
  | nil : EdgesIs G L ks [] []
  | skip {s : Int} {r : List Int} {es : List (Int × Int)} : onI G L s = [] → EdgesIs G L ks r es → EdgesIs G L ks (s :: r) es
  | edge {s : Int} {j : Nat} {r : List Int} {es : List (Int × Int)} : onI G L s ≠ [] → ks[j]? = some (onI G L s) → EdgesIs G L ks r es → EdgesIs G L ks (s :: r) ((s, (j : Int)) :: es)
/-- Edges lead to states that are there, or to the next new one. -/
inductive Come : Nat → List (Int × Int) → Nat → Prop
  | nil {c : Nat} : Come c [] c
  | old {c j d : Nat} {s : Int} {r : List (Int × Int)} : j < c → Come c r d → Come c ((s, (j : Int)) :: r) d
  | new {c d : Nat} {s : Int} {r : List (Int × Int)} : Come (c + 1) r d → Come c ((s, (c : Int)) :: r) d
theorem come_le {c d : Nat} {es : List (Int × Int)} (h : Come c es d) : c ≤ d := by
  induction h with
  | nil => exact Nat.le_refl _
  | old _ _ ih => exact ih
  | new _ ih => omega
theorem edges_more {G : Gram} {L : List It} {ks t : List (List It)} {syms : List Int} {es : List (Int × Int)} (h : EdgesIs G L ks syms es) : EdgesIs G L (ks ++ t) syms es := by
  induction h with
  | nil => exact .nil
  | skip h _ ih => exact .skip h ih
  | edge h hj _ ih =>
    refine .edge h ?_ ih
    rw [List.getElem?_append_left (List.getElem?_eq_some_iff.1 hj).1]
    exact hj
theorem putK_spec {ks ks' : List (List It)} {k : List It} {j : Nat} (h : putK ks k = some (j, ks')) (hl : ks.length ≤ 256) : ks'[j]? = some k ∧ ks'.length ≤ 256 ∧ ((j < ks.length ∧ ks' = ks) ∨ (j = ks.length ∧ ks' = ks ++ [k] ∧ k ∉ ks)) := by
  unfold putK at h
  cases hf : ks.findIdx? fun x => decide (x = k) with
  | some i =>
    rw [hf] at h
    simp only [Option.some.injEq, Prod.mk.injEq] at h
    obtain ⟨rfl, rfl⟩ := h
    obtain ⟨hi, h1, _⟩ := List.findIdx?_eq_some_iff_getElem.1 hf
    have h1 := of_decide_eq_true h1
    exact ⟨by rw [List.getElem?_eq_getElem hi, h1], hl, .inl ⟨hi, rfl⟩⟩
  | none =>
    rw [hf] at h
    simp only at h
    split at h
    · cases h
    · rename_i hne
      simp only [Option.some.injEq, Prod.mk.injEq] at h
      obtain ⟨rfl, rfl⟩ := h
      refine ⟨by simp, by simp; omega, .inr ⟨rfl, rfl, fun hk => ?_⟩⟩
      have := List.findIdx?_eq_none_iff.1 hf k hk
      simp at this
structure EdgesOut (G : Gram) (L : List It) (syms : List Int) (ks : List (List It)) (es ks' es' : _) : Prop where
  out : ∃ r, es' = es ++ r ∧ EdgesIs G L ks' syms r ∧ Come ks.length r ks'.length
  more : ∃ t, ks' = ks ++ t
  nodup : ks.Nodup → ks'.Nodup
  le : ks'.length ≤ 256
  new : ∀ k ∈ ks', k ∈ ks ∨ ∃ s, k = onI G L s ∧ k ≠ []
theorem edgesGo_spec {G : Gram} {L : List It} : ∀ (syms : List Int) (ks : List (List It)) (es : List (Int × Int)) {ks' : List (List It)} {es' : List (Int × Int)}, ks.length ≤ 256 → edgesGo G L syms ks es = some (ks', es') → EdgesOut G L syms ks es ks' es'
  | [], ks, es, ks', es', hl, h => by
    unfold edgesGo at h
    simp only [Option.some.injEq, Prod.mk.injEq] at h
    obtain ⟨rfl, rfl⟩ := h
    exact ⟨⟨[], by simp, .nil, .nil⟩, ⟨[], by simp⟩, id, hl, fun k hk => .inl hk⟩
  | s :: r, ks, es, ks', es', hl, h => by
    unfold edgesGo at h
    split at h
    · rename_i hs
      obtain ⟨⟨q, h1, h2, h3⟩, h4, h5, h6, h7⟩ := edgesGo_spec r ks es hl h
      exact ⟨⟨q, h1, .skip hs h2, h3⟩, h4, h5, h6, h7⟩
    · rename_i hs
      cases hp : putK ks (onI G L s) with
      | none => rw [hp] at h; cases h
      | some q =>
        obtain ⟨j, ks1⟩ := q
        rw [hp] at h
        simp only at h
        obtain ⟨hj, hl1, hc⟩ := putK_spec hp hl
        obtain ⟨⟨q, h1, h2, h3⟩, ⟨t, h4⟩, h5, h6, h7⟩ := edgesGo_spec r ks1 _ hl1 h
        have hj' : ks'[j]? = some (onI G L s) := by
          rw [h4, List.getElem?_append_left (List.getElem?_eq_some_iff.1 hj).1]
          exact hj
        rcases hc with ⟨hlt, rfl⟩ | ⟨rfl, rfl, hnew⟩
        · exact ⟨⟨(s, (j : Int)) :: q, by rw [h1]; simp, .edge hs hj' h2, .old hlt h3⟩, ⟨t, h4⟩, h5, h6, h7⟩
        · refine ⟨⟨(s, (ks.length : Int)) :: q, by rw [h1]; simp, .edge hs hj' h2, .new ?_⟩, ⟨onI G L s :: t, by rw [h4]; simp⟩, fun hn => h5 ?_, h6, fun k hk => ?_⟩
          · simpa using h3
          · refine List.nodup_append.2 ⟨hn, by simp, fun a ha b hb e => ?_⟩
            rw [List.mem_singleton] at hb
            subst hb e
            exact hnew ha
          · rcases h7 k hk with h7 | h7
            · rcases List.mem_append.1 h7 with h7 | h7
              · exact .inl h7
              · rw [List.mem_singleton] at h7
                exact .inr ⟨s, h7, by rw [h7]; exact hs⟩
            · exact .inr h7
/-- What holds of the states that have been gone through so far. -/
structure ColOk (G : Gram) (i : Nat) (ks : List (List It)) (gs : List (List (Int × Int))) : Prop where
  len : gs.length = i
  first : ks[0]? = some [(0, 0)]
  nodup : ks.Nodup
  le : ks.length ≤ 256
  edges : ∀ j (hj : j < gs.length), ∃ k, ks[j]? = some k ∧ EdgesIs G (cloL G k) ks (symsI G) gs[j]
  come : Come 1 gs.flatten ks.length
  ahead : ∀ j, j < gs.length → ∃ c, Come 1 (gs.take j).flatten c ∧ j < c
  ne : ∀ k ∈ ks, k ≠ []
  kin : ∀ k ∈ ks, k = [(0, 0)] ∨ ∃ K, ∃ s, k = onI G (cloL G K) s ∧ K ∈ ks
theorem come_app {c d e : Nat} {a b : List (Int × Int)} (h : Come c a d) (k : Come d b e) : Come c (a ++ b) e := by
  induction h with
  | nil => exact k
  | old h _ ih => exact .old h (ih k)
  | new _ ih => exact .new (ih k)
theorem colGo_ok {G : Gram} : ∀ (n i : Nat) (ks : List (List It)) (gs : List (List (Int × Int))) {ks' : List (List It)} {gs' : List (List (Int × Int))}, ColOk G i ks gs → colGo G n i ks gs = some (ks', gs') → ColOk G ks'.length ks' gs'
  | 0, _, _, _, _, _, _, h => by cases h
  | n + 1, i, ks, gs, ks', gs', ho, h => by
    unfold colGo at h
    cases hk : ks[i]? with
    | none =>
      rw [hk] at h
      simp only [Option.some.injEq, Prod.mk.injEq] at h
      obtain ⟨rfl, rfl⟩ := h
      have hle : ks.length ≤ i := List.getElem?_eq_none_iff.1 hk
      have hge : i ≤ ks.length := by
        rcases Nat.eq_zero_or_pos i with h0 | h0
        · omega
        · obtain ⟨k, h1, _⟩ := ho.edges (i - 1) (by rw [ho.len]; omega)
          have := (List.getElem?_eq_some_iff.1 h1).1
          omega
      obtain rfl : i = ks.length := by omega
      exact ho
    | some k =>
      rw [hk] at h
      simp only at h
      cases he : edgesGo G (cloL G k) (symsI G) ks [] with
      | none => rw [he] at h; cases h
      | some q =>
        obtain ⟨ks1, es⟩ := q
        rw [he] at h
        simp only at h
        obtain ⟨⟨r, h1, h2, h3⟩, ⟨t, h4⟩, h5, h6, h7⟩ := edgesGo_spec _ _ _ ho.le he
        rw [List.nil_append] at h1
        subst h1
        have hi := (List.getElem?_eq_some_iff.1 hk).1
        have pre : ∀ {j k}, ks[j]? = some k → ks1[j]? = some k := fun {j k} hj => by
          rw [h4, List.getElem?_append_left (List.getElem?_eq_some_iff.1 hj).1]
          exact hj
        refine colGo_ok n (i + 1) ks1 (gs ++ [es]) ⟨by rw [List.length_append, ho.len]; rfl, pre ho.first, h5 ho.nodup, h6, fun j hj => ?_, ?_, fun j hj => ?_, fun k' hk' => ?_, fun k' hk' => ?_⟩ h
        · by_cases e : j < gs.length
          · obtain ⟨k', g1, g2⟩ := ho.edges j e
            refine ⟨k', pre g1, ?_⟩
            rw [List.getElem_append_left e, h4]
            exact edges_more g2
          · have : j = gs.length := by
              simp only [List.length_append, List.length_cons, List.length_nil] at hj
              omega
            subst this
            refine ⟨k, pre (by rw [ho.len]; exact hk), ?_⟩
            simpa using h2
        · rw [List.flatten_append, List.flatten_cons, List.flatten_nil, List.append_nil]
          exact come_app ho.come h3
        · by_cases e : j < gs.length
          · obtain ⟨c, g1, g2⟩ := ho.ahead j e
            refine ⟨c, ?_, g2⟩
            rw [List.take_append_of_le_length (Nat.le_of_lt e)]
            exact g1
          · have : j = gs.length := by
              simp only [List.length_append, List.length_cons, List.length_nil] at hj
              omega
            subst this
            refine ⟨ks.length, ?_, by rw [ho.len]; exact hi⟩
            rw [List.take_append_of_le_length (Nat.le_refl _), List.take_length]
            exact ho.come
        · rcases h7 k' hk' with h8 | ⟨s, h8, h9⟩
          · exact ho.ne k' h8
          · exact h9
        · rcases h7 k' hk' with h8 | ⟨s, h8, h9⟩
          · rcases ho.kin k' h8 with h9 | ⟨K, s, g1, g2⟩
            · exact .inl h9
            · exact .inr ⟨K, s, g1, by rw [h4]; exact List.mem_append_left _ g2⟩
          · exact .inr ⟨k, s, h8, by rw [h4]; exact List.mem_append_left _ (List.mem_of_getElem? hk)⟩
theorem colI_ok {G : Gram} {ks : List (List It)} {gs : List (List (Int × Int))} (h : colI G = some (ks, gs)) : ColOk G ks.length ks gs :=
  colGo_ok (G := G) 257 0 [[(0, 0)]] [] ⟨rfl, rfl, by simp, by simp, fun j hj => by simp at hj, .nil, fun j hj => by simp at hj, by simp, by simp⟩ (show colGo G 257 0 [[(0, 0)]] [] = some (ks, gs) from h)
end Go.Proofs.Ytpnihegmhalcfaa
namespace Go.Proofs.Ytpnihegmhalcfaa
open Go.RowKit
set_option maxHeartbeats 400000


/-- The closure that recovers, behind a panic with a number of the errors' type. -/
theorem assert_errno (n : Int) (w : World) : (Instr.typeAssert (.iface 41 (.int .i64 n)) 20 41 true).run Try.prog w = .ok (.tuple #[.int .i64 n, .bool true]) w := by kernel_rfl

def keyNums (xs : List Int) : List Int := xs.flatMap fun x => [x / 256, x % 256]
theorem keyNums_snoc (xs : List Int) (x : Int) : keyNums (xs ++ [x]) = keyNums xs ++ [x / 256, x % 256] := by simp [keyNums]
theorem keyNums_length (xs : List Int) : (keyNums xs).length = 2 * xs.length := by
  induction xs with
  | nil => rfl
  | cons x xs ih => rw [keyNums, List.flatMap_cons, List.length_append]; show 2 + (keyNums xs).length = _; rw [ih, List.length_cons]; omega
def small (x : Int) : Bool := decide (0 ≤ x) && decide (x < 65536)
theorem small_iff (x : Int) : small x = true ↔ 0 ≤ x ∧ x < 65536 := by simp [small]


theorem Try.infoByte : (Try.prog.info? 5).map (fun i => (i.zero, i.size, i.bytes)) = some (some (.int .u8 0), 1, 1) := by kernel_rfl


end Go.Proofs.Ytpnihegmhalcfaa
namespace Go.Proofs.Ytpnihegmhalcfaa
open Go.RowKit
set_option maxHeartbeats 400000

def grO (G : Gram) (sa pa : Option Addr) (sc pc : Nat) : Obj := .cells #[.int .i64 G.terms, .slice sa G.syms.length sc, .slice pa G.prods.length pc] 25 (0, 0)
def grV (G : Gram) (sa pa : Option Addr) (sc pc : Nat) : Value := .agg #[.int .i64 G.terms, .slice sa G.syms.length sc, .slice pa G.prods.length pc]
/-- The grammar that came in, in a variable's place. -/
structure Stands (B : Nat) (w0 : World) (G : Gram) (sa pa : Option Addr) (sc pc : Nat) (w : World) : Prop where
  obj : w.heap[B]? = some (grO G sa pa sc pc)
  gram : IsGram w (grV G sa pa sc pc) G
  below : Below w0.heap.size w0 w
theorem Stands.keep {B : Nat} {w0 w w' : World} {G : Gram} {sa pa : Option Addr} {sc pc : Nat} (h : Stands B w0 G sa pa sc pc w) (hb : Below w.heap.size w w') : Stands B w0 G sa pa sc pc w' :=
  ⟨(Fr.new hb).obj h.obj fun e => e, h.gram.fr (Fr.new hb), h.below.trans (hb.mono h.below.size)⟩
theorem Stands.wide {ch : Nat → Prop} {w0 w w' : World} {G : Gram} {sa pa : Option Addr} {sc pc : Nat} (h : Stands w0.heap.size w0 G sa pa sc pc w) (hG : IsGram w0 (grV G sa pa sc pc) G) (k : Fr ch w w') (hc : ∀ g, ch g → w0.heap.size < g) : Stands w0.heap.size w0 G sa pa sc pc w' := by
  have hb := h.below.trans (k.below h.below.size fun g e => Nat.le_of_lt (hc g e))
  exact ⟨k.obj h.obj fun e => by have := hc _ e; omega, hG.fr (Fr.new hb), hb⟩
theorem Stands.d0 {B : Nat} {w0 w : World} {G : Gram} {sa pa : Option Addr} {sc pc : Nat} (h : Stands B w0 G sa pa sc pc w) : w.cell? ⟨B, 0, none⟩ = some (.int .i64 G.terms) := obj_cell h.obj 0 rfl
theorem Stands.d1 {B : Nat} {w0 w : World} {G : Gram} {sa pa : Option Addr} {sc pc : Nat} (h : Stands B w0 G sa pa sc pc w) : w.cell? ⟨B, 1, none⟩ = some (.slice sa G.syms.length sc) := obj_cell h.obj 1 rfl
theorem Stands.d2 {B : Nat} {w0 w : World} {G : Gram} {sa pa : Option Addr} {sc pc : Nat} (h : Stands B w0 G sa pa sc pc w) : w.cell? ⟨B, 2, none⟩ = some (.slice pa G.prods.length pc) := obj_cell h.obj 2 rfl
end Go.Proofs.Ytpnihegmhalcfaa
namespace Go.Proofs.Ytpnihegmhalcfaa
open Go.RowKit
set_option maxHeartbeats 400000

/-- An entry of a table. -/
structure Ent where
  kind : Int
  to : Int
def entVal (a : Ent) : Value := .agg #[.int .u8 a.kind, .int .i64 a.to]
structure EntOk (a : Ent) : Prop where
  kind : 0 ≤ a.kind ∧ a.kind ≤ 255
  to : i64 a.to

def firstE (a b : Ent) : Bool := decide (a.kind = 3) || (decide (b.kind = 2) && decide (a.to ≤ b.to))

def binds : List Int := [2, 1, 0, 2]

/-- A symbol's level; 0: none. -/
def levelE (G : Gram) (s : Int) : Int := if s < 0 then 0 else match G.syms[s.toNat]? with | some x => x.level | none => 0
end Go.Proofs.Ytpnihegmhalcfaa
namespace Go.Proofs.Ytpnihegmhalcfaa
open Go.RowKit
set_option maxHeartbeats 400000

theorem flat_len {α β : Type} (f : α → List β) (m : Nat) (hf : ∀ x, (f x).length = m) : ∀ l : List α, (l.flatMap f).length = l.length * m
  | [] => by simp
  | a :: l => by rw [List.flatMap_cons, List.length_append, hf, flat_len f m hf l, List.length_cons, Nat.add_mul]; omega
/-- Rows of cells, one behind the other. -/
theorem cells_flat {α : Type} {w : World} {b o : Nat} {l : List α} {f : α → List Value} {m : Nat} (hm : 0 < m) (hf : ∀ x, (f x).length = m) (h : ∀ i, (hi : i < l.length) → Cells w b (o + i * m) (f l[i])) : Cells w b o (l.flatMap f) := fun j hj => by
  rw [flat_len f m hf] at hj
  have hi : j / m < l.length := Nat.div_lt_of_lt_mul (by rw [Nat.mul_comm]; exact hj)
  have hr : j % m < m := Nat.mod_lt _ hm
  have e : j = j / m * m + j % m := by rw [Nat.mul_comm]; exact (Nat.div_add_mod j m).symm
  have h1 := h (j / m) hi (j % m) (by rw [hf]; exact hr)
  have h2 := flat_get f m hf l (j / m) (j % m) hi hr
  rw [← e] at h2
  rw [List.getElem?_eq_getElem (by rw [flat_len f m hf]; exact hj), List.getElem?_eq_getElem (by rw [hf]; exact hr)] at h2
  simp only [Option.some.injEq] at h2
  rw [h2, ← h1]
  congr 2
  omega
theorem flat_cells {α : Type} {w : World} {b o : Nat} {l : List α} {f : α → List Value} {m : Nat} (hf : ∀ x, (f x).length = m) (h : Cells w b o (l.flatMap f)) (i : Nat) (hi : i < l.length) : Cells w b (o + i * m) (f l[i]) := fun j hj => by
  have hj' : j < m := by rw [hf] at hj; exact hj
  have h2 := flat_get f m hf l i j hi hj'
  have hb : i * m + j < (l.flatMap f).length := by
    rw [flat_len f m hf]
    have : (i + 1) * m ≤ l.length * m := Nat.mul_le_mul_right m hi
    rw [Nat.add_mul] at this
    omega
  rw [List.getElem?_eq_getElem hb, List.getElem?_eq_getElem hj] at h2
  simp only [Option.some.injEq] at h2
  have h1 := h _ hb
  rw [h2] at h1
  rw [Nat.add_assoc]
  exact h1

theorem own_cells {w : World} {B : Nat} {e : TypeId} {size : Nat} {v : Value} {n : Nat} {xs : List Value} (h : w.ownsRow B e size v n xs) :
    ∃ a cap, v = .slice a n cap ∧ n ≤ cap ∧ cap ≤ maxLen ∧ (xs = [] ∨ ∃ g, a = some ⟨g, 0, none⟩ ∧ B ≤ g ∧ Cells w g 0 xs) := by
  obtain ⟨h1, h2⟩ := h
  rcases h2 with ⟨rfl, rfl⟩ | ⟨g, cap, cur, rfl, hb, hg, r1, r2, r3, r4⟩
  · exact ⟨none, 0, rfl, Nat.le_refl _, by unfold maxLen; omega, .inl (List.eq_nil_of_length_eq_zero (by simpa using h1))⟩
  · refine ⟨_, cap, rfl, r1, r2, .inr ⟨g, rfl, hb, fun i hi => ?_⟩⟩
    have e1 : xs[i]? = cur.toList[i]? := by rw [← r4, List.getElem?_take, if_pos (by omega)]
    simp only [World.cell?, hg, Nat.zero_add]
    rw [List.getElem?_eq_getElem hi] at e1
    simpa using e1.symm
theorem cells_new (w : World) (vs : List Value) (cs : Array Value) (hcs : cs = vs.toArray) (t : TypeId) (z : Nat × Nat) : Cells (w.alloc (.cells cs t z)) w.heap.size 0 vs := fun i hi => by
  have := alloc_obj w (.cells cs t z)
  refine obj_cell this (0 + i) ?_
  rw [hcs]
  simp [hi]

/-- A place's mark. -/
def markSym (i : Int) : Sym := ⟨nNone, nNone, markOf i, 0⟩
def markSyms (k : Nat) : List Sym := (List.range k).map fun j : Nat => markSym j
theorem markSyms_succ (k : Nat) : markSyms (k + 1) = markSyms k ++ [markSym k] := by simp [markSyms, List.range_succ]
theorem markSyms_length (k : Nat) : (markSyms k).length = k := by simp [markSyms]

theorem markSymbol_any (i : Int) (w : World) (h0 : 0 ≤ i) (hi : i < 100) :
    Calls Try.prog 74 #[.int .i64 1, .int .i64 i] w fun e w' => e = .returned (.agg #[.string ⟨#[]⟩, .string ⟨#[]⟩, .int .i64 (markOf i), .int .u8 0]) ∧ Below w.heap.size w w' := by
  have HM := Lib.hid fun w => mark_any i w h0 hi
  go_enter Try.func74, Try.ntmps74
  go_wp2_with (go_at_call 40; refine (HM.out _).mono ?_; rintro e w' ⟨rfl, rfl⟩)
  go_returns
  exact ⟨rfl, (Below.refl _ _).alloc (Nat.le_refl _) _⟩

/-- What LentSymbols answers: its list, the marks behind its end. -/
def LentS (w : World) (B : Nat) (v : Value) (l : List Sym) : Prop :=
  ∃ g cap, v = .slice (some ⟨g, 0, none⟩) l.length cap ∧ B ≤ g ∧ l.length + 12 ≤ cap ∧ cap ≤ maxLen ∧ Cells w g 0 ((l ++ markSyms 12).flatMap symCells) ∧ (∀ s ∈ l, SymOk s) ∧ l.length ≤ 17592186044416
theorem LentS.fr {w w' : World} {B : Nat} {v : Value} {l : List Sym} (h : LentS w B v l) (k : Fr nothing w w') : LentS w' B v l := by
  obtain ⟨g, cap, h1, h2, h3, h4, h5, h6, h7⟩ := h
  exact ⟨g, cap, h1, h2, h3, h4, h5.fr k fun e => e, h6, h7⟩
theorem LentS.syms {w : World} {B : Nat} {v : Value} {l : List Sym} (h : LentS w B v l) : IsSyms w v l := by
  obtain ⟨g, cap, rfl, _, h3, h4, h5, h6, h7⟩ := h
  refine ⟨h7, some ⟨g, 0, none⟩, cap, rfl, by omega, h4, .inr ⟨g, 0, rfl, fun i hi => ⟨h6 _ (List.getElem_mem hi), ?_⟩⟩⟩
  have := flat_cells (m := 4) (fun _ => rfl) h5 i (by rw [List.length_append]; omega)
  rwa [List.getElem_append_left hi] at this

theorem Try.infoSym : (Try.prog.info? 64).map (fun i => (i.zero, i.size, i.bytes)) = some (some (.agg #[.string ⟨#[]⟩, .string ⟨#[]⟩, .int .i64 0, .int .u8 0]), 4, 48) := by kernel_rfl
theorem syms_one (l : List Sym) : ∀ u ∈ l.flatMap symCells, u.oneCell' = true := fun u hu => by
  obtain ⟨s, _, hs⟩ := List.mem_flatMap.1 hu
  simp only [symCells, List.mem_cons, List.not_mem_nil, or_false] at hs
  rcases hs with rfl | rfl | rfl | rfl <;> rfl

set_option maxRecDepth 100000 in
set_option maxHeartbeats 1000000 in
theorem lentSyms_any (u : Value) (l : List Sym) (w : World) (h : IsSyms w u l) (hlen : l.length ≤ 1000000000000) :
    Calls Try.prog 36 #[u] w fun e w' => ∃ v, e = .returned v ∧ LentS w' w.heap.size v l ∧ Below w.heap.size w w' := by
  obtain ⟨_, a, cap, rfl, _, _, hx⟩ := h
  obtain ⟨i0, hi, hz0, hz1, hz2⟩ := info_parts Try.infoSym
  have hok : ∀ s ∈ l, SymOk s := fun s hs => by
    obtain ⟨i, hi, rfl⟩ := List.mem_iff_getElem.1 hs
    rcases hx with rfl | ⟨b, o, _, hx⟩
    · simp at hi
    · exact (hx i hi).1
  go_enter Try.func36, Try.ntmps36
  have hsrc : ∀ w0 : World, w.grownBy w0 none → (a = none ∧ l.length = 0) ∨ ∃ ad, a = some ad ∧ ∀ j u, (l.flatMap symCells)[j]? = some u → w0.cell? (ad.add j) = some u := fun w0 hg => by
    rcases hx with rfl | ⟨b, o, rfl, hc⟩
    · cases a with
      | none => exact .inl ⟨rfl, rfl⟩
      | some ad => exact .inr ⟨ad, rfl, fun j u h => by simp at h⟩
    · exact .inr ⟨_, rfl, cells_add ((cells_flat (m := 4) (by omega) (fun _ => rfl) fun i hi => (hc i hi).2).fr (Fr.grown hg) (fun e => by cases e))⟩
  have HS := Lib.hid hsrc
  have HO := Lib.hid hok
  have hone := syms_one l
  have hfl := flat_len symCells 4 (fun _ => rfl) l
  clear hsrc hx hok
  go_wp2_with (first | (at_make; refine wpList_make_own _ rfl _ _ 22 rfl w.heap.size 64 i0 _ 4 Try.underlying22 hi hz0 hz1 .i64 .i64 _ (l.length + 12) rfl rfl (by omega) (by rw [hz2]; omega) (by unfold maxLen; omega) (Nat.le_refl _) ?_; intro w0 hown0 hgrow0) | (at_builtin; refine wpList_append_room rfl _ _ 22 rfl w.heap.size 64 i0 4 Try.underlying22 hi hz1 w.heap.size 0 (l.length + 12) [] rfl hown0 a l.length cap (l.flatMap symCells) rfl hfl (HS.out w0 hgrow0) hone (by omega) ?_; intro w1 hown1 hgrow1))
  simp only [Nat.zero_add, List.nil_append] at hown1
  have hB1 : Below w.heap.size w w1 := ((Below.refl _ w).grown hgrow0 (Nat.le_refl _) (fun k e => by cases e)).grown hgrow1 hgrow0.size (fun k e => by cases e; exact Nat.le_refl _)
  clear hfl hone HS
  go_loopw [3, 4] (fun v i wr => ∃ k : Nat, k ≤ 12 ∧ i = .int .i64 k ∧ v = .slice (some ⟨w.heap.size, 0, none⟩) (l.length + k) (l.length + 12) ∧
      wr.ownsRow w.heap.size 64 4 (.slice (some ⟨w.heap.size, 0, none⟩) (l.length + k) (l.length + 12)) (l.length + k) ((l ++ markSyms k).flatMap symCells) ∧ Below w.heap.size w wr)
    (fun _ i _ => 12 - (intOf i).toNat)
  case atStart => exact ⟨0, by omega, rfl, rfl, by simpa [markSyms] using hown1, hB1⟩
  case round =>
    obtain ⟨k, hk, rfl, rfl, hown, hB⟩ := hrel
    clear hown0 hgrow0 hown1 hgrow1 hB1
    by_cases hlt : k < 12
    · have HM := Lib.hid (markSymbol_any k wr (by omega) (by omega))
      go_wp2_with (first | (go_at_call 74; refine HM.out.mono ?_; rintro e w' ⟨rfl, hb⟩) | (at_builtin; refine wpList_append_room rfl _ _ 22 rfl w.heap.size 64 i0 4 Try.underlying22 hi hz1 w.heap.size (l.length + k) (l.length + 12) _ rfl ((own_below hown hb).alloc _) _ 1 1 (symCells (markSym k)) rfl rfl (.inr ⟨_, rfl, cells_add (cells_new _ _ _ rfl _ _)⟩) (by simp [symCells, Value.oneCell']) (by omega) ?_; intro w2 hown2 hgrow2))
      go_roundw
      case rel =>
        refine ⟨k + 1, by omega, by simp, rfl, ?_, ((hB.trans (hb.mono hB.size)).alloc (Nat.le_trans hB.size hb.size) _).grown hgrow2 (by have := hB.size; have := hb.size; simp; omega) (fun j e => by cases e; exact Nat.le_refl _)⟩
        rw [markSyms_succ, ← List.append_assoc, List.flatMap_append, List.flatMap_singleton]
        exact hown2
      case measure => simp [intOf]; omega
    · obtain rfl : k = 12 := by omega
      clear hlt
      go_wp2
      go_ret
      obtain ⟨a', cap', hv, h1, h2, h3⟩ := own_cells hown
      simp only [Value.slice.injEq] at hv
      obtain ⟨rfl, -, rfl⟩ := hv
      refine ⟨_, rfl, ⟨w.heap.size, l.length + 12, rfl, Nat.le_refl _, Nat.le_refl _, h2, ?_, HO.out, by omega⟩, hB⟩
      rcases h3 with h3 | ⟨g, hg, _, hc⟩
      · have : ((l ++ markSyms 12).flatMap symCells).length = 0 := by rw [h3]; rfl
        rw [flat_len symCells 4 (fun _ => rfl)] at this
        simp [markSyms_length] at this
      · simp only [Option.some.injEq, Addr.mk.injEq] at hg
        obtain ⟨rfl, -⟩ := hg
        exact hc
end Go.Proofs.Ytpnihegmhalcfaa
namespace Go.Proofs.Ytpnihegmhalcfaa
open Go.RowKit

/-- The operations, of which the n-th also waits for the first. -/
def addLead (n : Nat) (l : List Oper) : List Oper := l.modify n fun o => { o with after := o.after.push ⟨0, .data⟩ }
section
variable {P : Program} {md : Region.Mode} {Q : Exit → Act → World → Prop}
theorem lead_at (n : Nat) (l : List Oper) (j : Nat) : (addLead n l).toArray[j]? = (l.toArray[j]?).map fun o => if n = j then { o with after := o.after.push ⟨0, .data⟩ } else o := by
  unfold addLead
  simp only [List.getElem?_toArray, List.getElem?_modify]
  cases l[j]? with
  | none => rfl
  | some o =>
    by_cases e : n = j
    · simp [e]
    · simp [e]
theorem lead_yielded (n : Nat) (l : List Oper) (tm : Array Value) : yielded (addLead n l).toArray tm = yielded l.toArray tm := by
  funext j
  unfold yielded
  rw [lead_at]
  cases l.toArray[j]? with
  | none => rfl
  | some o =>
    by_cases e : n = j
    · simp [e]
    · simp [e]
theorem lead_op (n : Nat) (l : List Oper) (j : Nat) (K : Act → World → Prop) (a : Act) (w : World) : wpOp P (addLead n l).toArray Q j K a w = wpOp P l.toArray Q j K a w := by
  unfold wpOp
  rw [lead_at, lead_yielded]
  cases l.toArray[j]? with
  | none => rfl
  | some o =>
    by_cases e : n = j
    · simp only [e, if_true, Option.map_some]
      rfl
    · simp only [e, if_false, Option.map_some]
theorem lead_ready (n : Nat) (l : List Oper) (listed : Array Bool) (h0 : listed.getD 0 false = true) : Region.ready md (addLead n l).toArray listed = Region.ready md l.toArray listed := by
  unfold Region.ready
  have hs : (addLead n l).toArray.size = l.toArray.size := by simp [addLead]
  rw [hs]
  refine List.filter_congr fun i _ => ?_
  rw [lead_at]
  cases l.toArray[i]? with
  | none => rfl
  | some o =>
    by_cases e : n = i
    · simp only [e, if_true, Option.map_some, Option.getD_some]
      rw [Array.all_push]
      simp only [h0, Bool.or_true, Bool.and_true]
    · simp only [e, if_false, Option.map_some]
theorem getD_set_true {listed : Array Bool} {i j : Nat} (h : listed.getD i false = true) : (listed.setIfInBounds j true).getD i false = true := by
  by_cases hi : i < listed.size
  · by_cases e : j = i
    · subst e
      simp [hi]
    · have := h
      simp only [Array.getD_eq_getD_getElem?] at this ⊢
      rw [Array.getElem?_setIfInBounds_ne e]
      exact this
  · simp [hi] at h
theorem lead_any (n : Nat) (l : List Oper) : ∀ (f : Nat) (listed : Array Bool) (a : Act) (w : World), listed.getD 0 false = true → wpAny P md (addLead n l).toArray Q f listed a w → wpAny P md l.toArray Q f listed a w
  | 0, listed, a, w, h0, h => ⟨by rw [← lead_ready n l listed h0]; exact h.1, h.2⟩
  | f + 1, listed, a, w, h0, h => by
    refine ⟨fun e => h.1 (by rw [lead_ready n l listed h0]; exact e), fun i hi => ?_⟩
    have h1 := h.2 i (by rw [lead_ready n l listed h0]; exact hi)
    rw [lead_op] at h1
    exact wpOp_mono (fun a' w' k => lead_any n l f _ a' w' (getD_set_true h0) k) h1
theorem any_anyT {ops : Array Oper} : ∀ (n : Nat) (listed : Array Bool) (a : Act) (w : World), wpAny P md ops Q n listed a w → AnyT P md ops Q (fun _ _ => True) n listed a w
  | 0, _, _, _, h => h
  | n + 1, _, _, _, h => ⟨h.1, fun j hj => wpOp_mono (fun a' w' k => ⟨trivial, any_anyT n _ a' w' k⟩) (h.2 j hj)⟩

theorem wp_region_lead {id : Nat} {a : Act} {w : World} {o : Oper} {r : List Oper} {s : Tmp} (n : Nat) (hm : P.follows .mixedOrders = true) (ho : o.op = .move (.tmp s)) (hg : o.guard = none) (hoa : (o.after.all fun e => !Region.binds .any e) = true)
    (hn : 0 < n) (hB : Region.lexTailB .any (addLead n (o :: r)).toArray n = true) (hf : Region.free .any (o :: r).toArray (Array.replicate (r.length + 1) false) 0 = true) (hsl : Region.noSelect (o :: r).toArray = true)
    (hQ : ∀ c (a : Act) v w, Q (.panic c) (a.put o.dst v) w → Q (.panic c) a w)
    (h : wpStill P (addLead n (o :: r)).toArray w.drew (fun a' => wpList P (addLead n (o :: r)).toArray Q ((addLead n (o :: r)).drop n) a' w.drew) (((addLead n (o :: r)).take n).drop 1) (a.put o.dst (a.eval (.tmp s)))) : (Code.region id (o :: r).toArray true).wp P Q a w := by
  simp only [Region.lexTailB, Bool.and_eq_true, decide_eq_true_eq] at hB
  obtain ⟨⟨⟨⟨hsel, hnl⟩, hs⟩, hc⟩, hlex⟩ := hB
  generalize hl2 : addLead n (o :: r) = l2 at *
  have hlen : l2.length = r.length + 1 := by rw [← hl2]; simp [addLead]
  have hn' : n < l2.length := by simpa using hnl
  have htl : ((l2.take n).drop 1).length = n - 1 := by simp; omega
  have hdl : (l2.drop n).length = l2.toArray.size - n := by simp
  have h0 : l2.toArray[0]? = some o := by
    rw [← hl2, lead_at]
    simp [show n ≠ 0 by omega]
  obtain ⟨L, hL⟩ : ∃ L, L = (Array.replicate l2.toArray.size false).setIfInBounds 0 true := ⟨_, rfl⟩
  have hL0 : L.getD 0 false = true := by
    rw [hL]
    simp [hlen]
  have hLj : ∀ j, L.getD j false = true → j = 0 := fun j hj => by
    refine Classical.byContradiction fun e => ?_
    rw [hL] at hj
    simp only [Array.getD_eq_getD_getElem?] at hj
    rw [Array.getElem?_setIfInBounds_ne (fun x => e x.symm)] at hj
    by_cases hjl : j < l2.length
    · simp [hjl] at hj
    · simp [hjl] at hj
  have inv0 : HeadInv .any l2.toArray n L := by
    refine ⟨by rw [hL]; simp, fun j oj hoj hl e he hb => ?_, fun t hnt htl => ?_⟩
    · obtain rfl := hLj j hl
      rw [h0] at hoj
      obtain rfl := Option.some.inj hoj
      rw [Array.all_eq_true'] at hoa
      have := hoa e he
      rw [hb] at this
      cases this
    · rw [hL]
      simp only [Array.getD_eq_getD_getElem?]
      rw [Array.getElem?_setIfInBounds_ne (by omega)]
      have : t < l2.length := by simpa using htl
      simp [this]
  have hlex1 : Region.lexHead .any l2.toArray (l2.toArray.size - n) (n - 1) 1 L = true := by
    obtain ⟨m, rfl⟩ : ∃ m, n = m + 1 := ⟨n - 1, by omega⟩
    unfold Region.lexHead at hlex
    simp only [Bool.and_eq_true] at hlex
    rw [hL]
    exact hlex.2
  have H := wpAnyL_lex (md := .any) (g := l2.toArray.size - n) hsel hs hc hnl ((l2.take n).drop 1) 1 L _ (fun j hj => by
    have hj' : j < n - 1 := by rw [htl] at hj; exact hj
    rw [List.getElem?_drop, List.getElem?_take_of_lt (by omega)]
    simp) (by rw [htl]; omega) inv0 (by rw [htl]; exact hlex1) h
  have H2 := wpAny_of_head (Q' := Q) (g := l2.toArray.size - n) (fun listed a' hL => by
    have := wpAny_of_seq (md := .any) (Q' := Q) (l2.drop n) n listed a' w.drew (fun j => by simp [List.getElem?_drop]) (by rw [hdl]; exact hL.1) hL.2
    rwa [hdl] at this) _ _ _ H
  rw [htl, show n - 1 + (l2.toArray.size - n) = r.length by rw [List.size_toArray]; omega] at H2
  rw [← hl2] at H2
  have H3 := any_anyT _ _ _ _ (lead_any n (o :: r) _ _ _ _ hL0 H2)
  refine wp_region_anyT (fun _ _ => True) hm ?_
  have hL' : L = (Array.replicate (o :: r).toArray.size false).setIfInBounds 0 true := by rw [hL, List.size_toArray, hlen]; simp
  rw [hL'] at H3
  have key := anyT_take (P := P) (md := .any) (ops := (o :: r).toArray) (Q := Q) (F := fun _ _ => True) (R := fun _ => True) (i := 0) (oi := o) (v := a.eval (.tmp s)) (fun _ => true) (fun _ _ _ _ => trivial) (fun _ _ => trivial) (by simp) hsl (fun c a w => hQ c a _ w) r.length (Array.replicate (o :: r).toArray.size false) a w.drew
    (by simp) ?_ (by simpa using hf) ?_ ?_ trivial H3
  · have e : (o :: r).toArray.size = r.length + 1 := by simp
    rw [e] at key ⊢
    exact key
  · rw [closed_spec]
    intro j o' hj hl e he hb
    by_cases hjl : j < r.length + 1
    · simp [hjl] at hl
    · simp [hjl] at hl
  · rw [List.contains_iff_mem, mem_ready]
    refine ⟨by simp, o, by simp, fun e he hb => ?_⟩
    rw [Array.all_eq_true'] at hoa
    have := hoa e he
    rw [hb] at this
    cases this
  · refine Or.inl ⟨by simp [Region.wanted, hg], fun w _ => ?_⟩
    simp [execOp, ho]
end
end Go.Proofs.Ytpnihegmhalcfaa
namespace Go.Proofs.Ytpnihegmhalcfaa
open Go.RowKit

section
variable {P : Program} {ops : Array Oper} {Q : Exit → Act → World → Prop}
theorem fill_defers : ∀ (ds : List (Option Tmp)) (i : Nat) (σ : Nat → Option Value) (a : Act), (fillL ds i σ a).defers = a.defers
  | [], _, _, _ => rfl
  | d :: r, i, σ, a => by
    unfold fillL
    rw [fill_defers r]
    cases σ i with
    | none => rfl
    | some v => cases d <;> rfl
/-- Inv σ w: what is known when those operations have come up of which σ tells a value. -/
theorem region_invA {a0 : Act} {w0 : World} (Inv : (Nat → Option Value) → World → Prop) (hB : factsB ops = true) (hd : apartB ops = true) (h0 : Inv (fun _ => none) w0)
    (hstep : ∀ (j : Nat) (o : Oper), ops[j]? = some o → ∀ (σ : Nat → Option Value) (w : World) (A : Act), Inv σ w → σ j = none → (∀ i, waitsB .any ops 1 j i = true → ∃ v, σ i = some v) → A.defers = a0.defers →
      (∀ s, ((dstL ops).all fun d => decide (d ≠ some s)) = true → A.tmps[s]?.getD undef = a0.tmps[s]?.getD undef) → (∀ k s v, (dstL ops)[k]? = some (some s) → s < a0.tmps.size → σ k = some v → A.tmps[s]?.getD undef = v) →
      Oper.wp P o A w (fun a' w' => ∃ v, a' = A.put o.dst v ∧ Inv (updS σ j v) w') Q)
    (hend : ∀ (σ : Nat → Option Value) (w : World), Inv σ w → (∀ k, k < ops.size → ∃ v, σ k = some v) → Q .normal (fillL (dstL ops) 0 σ a0) w) :
    wpAny P .any ops Q ops.size (Array.replicate ops.size false) a0 w0 := by
  have hlen : (dstL ops).length = ops.size := by simp [dstL]
  have spec : ∀ (j : Nat) (o : Oper), ops[j]? = some o → o.guard = none ∧ ∀ e ∈ o.after, Region.binds .any e = true → e.on < j := by
    intro j o hj
    have := List.all_eq_true.1 hB j (List.mem_range.2 (Array.getElem?_eq_some_iff.1 hj).1)
    rw [hj] at this
    simp only [Bool.and_eq_true, Option.isNone_iff_eq_none, List.all_eq_true] at this
    refine ⟨this.1, fun e he hb => ?_⟩
    have h2 := this.2 e (Array.mem_toList_iff.2 he)
    rw [hb] at h2
    simpa using h2
  have key : ∀ (n : Nat) (listed : Array Bool) (σ : Nat → Option Value) (w : World), listed.size = ops.size → (∀ j, j < ops.size → ((σ j).isSome = listed[j]?.getD false)) → Inv σ w →
      ((List.range ops.size).filter fun j => !(listed[j]?.getD false)).length = n → wpAny P .any ops Q n listed (fillL (dstL ops) 0 σ a0) w := by
    intro n
    induction n with
    | zero =>
      intro listed σ w hs hσ hm hc
      have hall : ∀ j, j < ops.size → listed[j]?.getD false = true := fun j hj => by
        have h1 := List.eq_nil_of_length_eq_zero hc
        rw [List.filter_eq_nil_iff] at h1
        have := h1 j (List.mem_range.2 hj)
        simpa using this
      refine ⟨?_, ?_⟩
      · rw [List.eq_nil_iff_forall_not_mem]
        intro j hj
        obtain ⟨h1, o, ho, _⟩ := mem_ready.1 hj
        have hlt := (Array.getElem?_eq_some_iff.1 ho).1
        have h2 := hall j hlt
        simp [hs, hlt] at h1 h2
        rw [h1] at h2
        cases h2
      · exact hend σ w hm fun k hk => by
          have h1 := hσ k hk
          rw [hall k hk] at h1
          exact Option.isSome_iff_exists.1 h1
    | succ n ih =>
      intro listed σ w hs hσ hm hc
      refine ⟨fun hnil => ?_, fun j hj => ?_⟩
      · exfalso
        have hall : ∀ j, j < ops.size → listed[j]?.getD false = true := fun j => by
          induction j using Nat.strongRecOn with
          | _ j ihj =>
            intro hlt
            cases hl : listed[j]?.getD false with
            | true => rfl
            | false =>
              exfalso
              have hmem : j ∈ Region.ready .any ops listed := by
                refine mem_ready.2 ⟨?_, ops[j], by simp [hlt], fun e he hb => ?_⟩
                · have : j < listed.size := by omega
                  simpa [this] using hl
                · have h1 := (spec j ops[j] (by simp [hlt])).2 e he hb
                  have h2 := ihj e.on h1 (by omega)
                  simpa using h2
              rw [hnil] at hmem
              cases hmem
        have : (List.range ops.size).filter (fun j => !(listed[j]?.getD false)) = [] := by
          rw [List.filter_eq_nil_iff]
          intro j hj
          rw [hall j (List.mem_range.1 hj)]
          simp
        rw [this] at hc
        simp at hc
      · obtain ⟨hun, o, ho, hall⟩ := mem_ready.1 hj
        have hlt := (Array.getElem?_eq_some_iff.1 ho).1
        have hjl : listed[j]?.getD false = false := by
          have : j < listed.size := by omega
          simpa [this] using hun
        have hnone : σ j = none := by
          have h1 := hσ j hlt
          rw [hjl] at h1
          simpa using h1
        have hdep : ∀ i, waitsB .any ops 1 j i = true → ∃ v, σ i = some v := fun i hw => by
          unfold waitsB at hw
          rw [ho] at hw
          simp only [waitsB, Bool.or_false, List.any_eq_true, Bool.and_eq_true, decide_eq_true_eq] at hw
          obtain ⟨e, he, hb, rfl⟩ := hw
          have he := Array.mem_toList_iff.1 he
          have h1 := (spec j o ho).2 e he hb
          have h2 := hσ e.on (by omega)
          have h3 : listed[e.on]?.getD false = true := by simpa using hall e he hb
          rw [h3] at h2
          exact Option.isSome_iff_exists.1 h2
        refine wpOp_plain ho (spec j o ho).1 (Oper.wp_mono ?_ (hstep j o ho σ w _ hm hnone hdep (fill_defers _ _ _ _) (fun s hs' => by simpa [Act.eval] using fill_other _ 0 a0 fun d hd' => of_decide_eq_true (List.all_eq_true.1 hs' d hd')) (fun k s v h1 h2 h3 => by simpa [Act.eval] using fill_at (dstL ops) 0 k a0 (apart_spec hd) h2 h1 (by rw [Nat.zero_add]; exact h3))))
        rintro a' w' ⟨v, rfl, r1⟩
        have hdj : (dstL ops)[j]? = some o.dst := by simp [dstL, ho]
        rw [← fill_upd (v := v) (dstL ops) 0 j a0 o.dst (apart_spec hd) hdj (by rw [Nat.zero_add]; exact hnone), Nat.zero_add]
        refine ih _ _ _ (by simp [hs]) (fun k hk => ?_) r1 ?_
        · by_cases e : k = j
          · subst e
            have : k < listed.size := by omega
            simp [updS, this]
          · rw [Array.getElem?_setIfInBounds_ne (fun x => e x.symm), ← hσ k hk]
            simp [updS, e]
        · have h1 := filter_less (p := fun k => !(listed[k]?.getD false)) (q := fun k => !((listed.setIfInBounds j true)[k]?.getD false)) (j := j) (by simp [hjl]) (by
            have : j < listed.size := by omega
            simp [this]) (fun k hk => by rw [Array.getElem?_setIfInBounds_ne (fun x => hk x.symm)]) ops.size hlt
          omega
  have hstart := key ops.size (Array.replicate ops.size false) (fun _ => none) w0 (by simp) (fun j hj => by simp [hj]) h0 (by
    have : (List.range ops.size).filter (fun j => !((Array.replicate ops.size false)[j]?.getD false)) = List.range ops.size := by
      rw [List.filter_eq_self]
      intro j hj
      simp [List.mem_range.1 hj]
    rw [this, List.length_range])
  have hfill : ∀ (ds : List (Option Tmp)) (i : Nat), fillL ds i (fun _ => none) a0 = a0 := by
    intro ds
    induction ds with
    | nil => intro i; rfl
    | cons d r ihr => intro i; exact ihr (i + 1)
  rw [hfill] at hstart
  exact hstart
end
end Go.Proofs.Ytpnihegmhalcfaa
namespace Go.Proofs.Ytpnihegmhalcfaa
open Go.ChangeShapes Go.WideShapes Go.ChangeAt Go.RowKit

theorem trodAll_below {H : Type} {enc : TypeId × Value → H} {P : Program} (hl : laidOutB P = true) {W W' : World} (hb : Below W.heap.size W W') :
    ∀ {ts : List TypeId} {vs : List Value} {ds : List (DataW H)} {ps : List MemPlace}, (ts.all fun t => P.readableRec t && decide (t < P.types.size)) = true → (∀ x ∈ ps, x.block < W.heap.size) →
      DataW.TrodAll enc P W 0 (fun _ => true) true ts vs ds ps → DataW.TrodAll enc P W' 0 (fun b => decide (b < W.heap.size)) true ts vs ds ps
  | [], [], [], _, _, _, h => h
  | [], _ :: _, _, _, _, _, h => h.elim
  | [], [], _ :: _, _, _, _, h => h.elim
  | _ :: _, [], _, _, _, _, h => h.elim
  | _ :: _, _ :: _, [], _, _, _, h => h.elim
  | t :: ts, v :: vs, d :: ds, ps, hr, hlt, ⟨p, q, h1, h2, e⟩ => by
    subst e
    simp only [List.all_cons, Bool.and_eq_true, decide_eq_true_eq] at hr
    exact ⟨p, q, Below.trod hl hr.1.1 hr.1.2 h1 hb (fun x hx => hlt x (List.mem_append_left _ hx)), trodAll_below hl hb (by simpa using hr.2) (fun x hx => hlt x (List.mem_append_right _ hx)) h2, rfl⟩

theorem law_post {H : Type} {enc : TypeId × Value → H} {P : Program} {f : Func} {s : ChangeSpec} {W W' : World} {args : Array Value} {ds gs : List (DataW H)} {before : List MemPlace} {tb : TypeId}
    (hl : laidOutB P = true) (hts : (f.params.toList.all fun t => P.readableRec t && decide (t < P.types.size)) = true)
    (hW : DataW.Whole enc P f.params.toList s.vars false W args.toList ds gs before) (hv : s.vars = []) (hres : f.resultTypes = #[tb]) (hb : P.underlying tb = some .bool)
    (hs : s.fn H (ds ++ gs) = { results := [.lit (.bool true)], args := ds }) (hB : Below W.heap.size W W') :
    s.post enc P f false true false false W args (.bool true) W' := by
  have hW' := hW
  obtain ⟨p, q, hA, hV, rfl, hfz, hnd⟩ := hW
  have hlt : ∀ x ∈ p, x.block < W.heap.size := fun x hx => hW'.lt x (List.mem_append_left _ hx)
  refine ⟨ds, gs, p ++ q, [], p, [], hW', ?_, ?_, ?_, hB.frame _, fun h => by cases h⟩
  · rw [hs, hres]
    exact trodAll_mk1 (shut_bool hb true)
  · rw [hs]
    exact trodAll_below hl hB hts hlt hA
  · rw [hs, hv]
    rfl
end Go.Proofs.Ytpnihegmhalcfaa
namespace Go.Proofs.Ytpnihegmhalcfaa
open Go.RowKit
set_option maxHeartbeats 400000

set_option maxRecDepth 100000 in
set_option maxHeartbeats 2000000 in
theorem keptSyms_any (B : Nat) (v u : Value) (l : List Sym) (w : World) (hv : LentS w B v l) (hu : IsSyms w u l) :
    Calls Try.prog 44 #[v, u] w fun e w' => e = .returned (.bool true) ∧ Below w.heap.size w w' := by
  obtain ⟨g, cap, rfl, _, hcap, hcm, hc, _, _⟩ := hv
  obtain ⟨hlen, a, cap', rfl, hca, hcb, hx⟩ := id hu
  have hcm' : cap ≤ 9223372036854775807 := hcm
  clear hcm hcb
  have HC := Lib.hid hc
  have HU := Lib.hid hu
  clear hc hu hx
  generalize hN : l.length = N at *
  have HN := Lib.hid hN
  clear hN
  go_enter Try.func44, Try.ntmps44
  go_wp2
  go_loopw [6] (fun i wr => ∃ k : Nat, k ≤ N + 12 ∧ i = .int .i64 k ∧ Below w.heap.size w wr) (fun i _ => N + 12 - (intOf i).toNat)
  case atStart => exact ⟨0, by omega, rfl, Below.refl _ _⟩
  case round =>
    obtain ⟨k, hk, rfl, hB⟩ := hrel
    have hne := after_ne wr
    by_cases hlt : k < N
    · have hk1 : k < l.length := by rw [HN.out]; exact hlt
      obtain ⟨b, o, rfl, _, hcx⟩ := HU.out.get k hk1
      have hcg := flat_cells (m := 4) (fun _ => rfl) HC.out k (by rw [List.length_append]; omega)
      rw [List.getElem_append_left hk1] at hcg
      generalize l[k] = s at *
      have x0 := after_cell ((Fr.new hB).cell (hcx 0 (by simp [symCells])) fun e => e)
      have x1 := after_cell ((Fr.new hB).cell (hcx 1 (by simp [symCells])) fun e => e)
      have x2 := after_cell ((Fr.new hB).cell (hcx 2 (by simp [symCells])) fun e => e)
      have x3 := after_cell ((Fr.new hB).cell (hcx 3 (by simp [symCells])) fun e => e)
      have y0 := after_cell ((Fr.new hB).cell (hcg 0 (by simp [symCells])) fun e => e)
      have y1 := after_cell ((Fr.new hB).cell (hcg 1 (by simp [symCells])) fun e => e)
      have y2 := after_cell ((Fr.new hB).cell (hcg 2 (by simp [symCells])) fun e => e)
      have y3 := after_cell ((Fr.new hB).cell (hcg 3 (by simp [symCells])) fun e => e)
      simp only [symCells, List.getElem_cons_zero, List.getElem_cons_succ, Nat.add_zero, Nat.zero_add] at x0 x1 x2 x3 y0 y1 y2 y3
      have t1 : decide (k < N) = true := by simp [hlt]
      have t2 : decide (N ≤ k) = false := by simp; omega
      have t3 : k < N + 12 := by omega
      have HB := Lib.hid hB
      clear hB hcx hcg
      go_wp2_with fail
      refine wp_region_after wr (by kernel_rfl) (by kernel_rfl) (Below.refl _ _) ?_
      repeat (go_big_quiet_step (fail))
      refine wpQuiet_nil ?_
      intro _ hw'
      obtain ⟨q, hw''⟩ := hw'
      subst hw''
      go_wp2
      go_roundw
      case rel => exact ⟨k + 1, by omega, by simp, HB.out.trans (q.ok.mono HB.out.size)⟩
      case measure => simp [intOf]; omega
    · by_cases hlt2 : k < N + 12
      · have hcg := flat_cells (m := 4) (fun _ => rfl) HC.out k (by rw [List.length_append, markSyms_length, HN.out]; exact hlt2)
        rw [List.getElem_append_right (by rw [HN.out]; omega)] at hcg
        have h3 : (markSyms 12)[k - l.length]'(by rw [markSyms_length, HN.out]; omega) = markSym ((k : Int) - N) := by
          simp [markSyms, HN.out]
          congr 1
          omega
        rw [h3] at hcg
        have hm := fun p : After wr => after_call p (markSymbol_any ((k : Int) - N) p.w (by omega) (by omega))
        have y0 := after_cell ((Fr.new hB).cell (hcg 0 (by simp [symCells])) fun e => e)
        have y1 := after_cell ((Fr.new hB).cell (hcg 1 (by simp [symCells])) fun e => e)
        have y2 := after_cell ((Fr.new hB).cell (hcg 2 (by simp [symCells])) fun e => e)
        have y3 := after_cell ((Fr.new hB).cell (hcg 3 (by simp [symCells])) fun e => e)
        simp only [symCells, markSym, nNone, List.getElem_cons_zero, List.getElem_cons_succ, Nat.add_zero, Nat.zero_add] at y0 y1 y2 y3
        have hw1 : IntKind.i64.wrap ((k : Int) - N) = (k : Int) - N := IntWalk.i64_in _ (by omega)
        generalize markOf ((k : Int) - N) = mk at *
        have HM := Lib.hid hm
        have t1 : decide (k < N) = false := by simp; omega
        have t2 : decide (N ≤ k) = true := by simp; omega
        have HB := Lib.hid hB
        clear hB hcg h3 hm
        go_wp2_with fail
        refine wp_region_after wr (by kernel_rfl) (by kernel_rfl) (Below.refl _ _) ?_
        repeat (go_big_quiet_step (exact HM.out _))
        refine wpQuiet_nil ?_
        intro _ hw'
        obtain ⟨q, hw''⟩ := hw'
        subst hw''
        clear hw1
        go_wp2
        go_roundw
        case rel => exact ⟨k + 1, by omega, by simp, HB.out.trans (q.ok.mono HB.out.size)⟩
        case measure => simp [intOf]; omega
      · obtain rfl : k = N + 12 := by omega
        clear hlt hlt2
        go_wp2
        go_ret
        exact ⟨rfl, hB⟩

set_option maxRecDepth 100000 in
set_option maxHeartbeats 2000000 in
theorem sameSyms_any (v u : Value) (l : List Sym) (w : World) (hv : IsSyms w v l) (hu : IsSyms w u l) :
    Calls Try.prog 79 #[v, u] w fun e w' => e = .returned (.bool true) ∧ Below w.heap.size w w' := by
  obtain ⟨_, a', cap, rfl, _, _, hx'⟩ := id hv
  obtain ⟨hlen, a, cap', rfl, _, _, hx⟩ := id hu
  clear hx hx'
  have HV := Lib.hid hv
  have HU := Lib.hid hu
  clear hu hv
  generalize hN : l.length = N at *
  have HN := Lib.hid hN
  clear hN
  go_enter Try.func79, Try.ntmps79
  go_wp2
  go_loopw [5] (fun i wr => ∃ k : Nat, k ≤ N ∧ i = .int .i64 k ∧ Below w.heap.size w wr) (fun i _ => N - (intOf i).toNat)
  case atStart => exact ⟨0, by omega, rfl, Below.refl _ _⟩
  case round =>
    obtain ⟨k, hk, rfl, hB⟩ := hrel
    have hne := after_ne wr
    by_cases hlt : k < N
    · have hk1 : k < l.length := by rw [HN.out]; exact hlt
      obtain ⟨b, o, rfl, _, hcx⟩ := HU.out.get k hk1
      obtain ⟨b', o', rfl, _, hcg⟩ := HV.out.get k hk1
      generalize l[k] = s at *
      have x0 := after_cell ((Fr.new hB).cell (hcx 0 (by simp [symCells])) fun e => e)
      have x1 := after_cell ((Fr.new hB).cell (hcx 1 (by simp [symCells])) fun e => e)
      have x2 := after_cell ((Fr.new hB).cell (hcx 2 (by simp [symCells])) fun e => e)
      have x3 := after_cell ((Fr.new hB).cell (hcx 3 (by simp [symCells])) fun e => e)
      have y0 := after_cell ((Fr.new hB).cell (hcg 0 (by simp [symCells])) fun e => e)
      have y1 := after_cell ((Fr.new hB).cell (hcg 1 (by simp [symCells])) fun e => e)
      have y2 := after_cell ((Fr.new hB).cell (hcg 2 (by simp [symCells])) fun e => e)
      have y3 := after_cell ((Fr.new hB).cell (hcg 3 (by simp [symCells])) fun e => e)
      simp only [symCells, List.getElem_cons_zero, List.getElem_cons_succ, Nat.add_zero] at x0 x1 x2 x3 y0 y1 y2 y3
      have HB := Lib.hid hB
      clear hB hcx hcg
      go_wp2_with fail
      refine wp_region_after wr (by kernel_rfl) (by kernel_rfl) (Below.refl _ _) ?_
      repeat (go_big_quiet_step (fail))
      refine wpQuiet_nil ?_
      intro _ hw'
      obtain ⟨q, hw''⟩ := hw'
      subst hw''
      go_wp2
      go_roundw
      case rel => exact ⟨k + 1, by omega, by simp, HB.out.trans (q.ok.mono HB.out.size)⟩
      case measure => simp [intOf]; omega
    · obtain rfl : k = N := by omega
      clear hlt
      go_wp2
      go_ret
      exact ⟨rfl, hB⟩
end Go.Proofs.Ytpnihegmhalcfaa
