/-
  Items in memory; a builder; what stands behind a dot.
-/
import Derived.Test.YtgmkpncpcikecaaIt3
import Derived.Test.YtgmkpncpcikecaaGram2
import Derived.Test.YtgmkpncpcikecaaSym3
import Derived.Test.YtgmkpncpcikecaaMap2
namespace Go.Proofs.Ytgmkpncpcikecaa
open Go.RowKit
set_option maxHeartbeats 400000

def encI (x : It) : List Value := [.int .i64 x.1, .int .i64 x.2]
def itVal (x : It) : Value := .agg #[.int .i64 x.1, .int .i64 x.2]
def ItAt (w : World) (b o : Nat) (x : It) : Prop := (i64 x.1 ∧ i64 x.2) ∧ Cells w b o (encI x)
/-- A slice value that reads as items. -/
def IsItems (w : World) (v : Value) (l : List It) : Prop := Rows' v 2 (ItAt w) l
theorem ItAt.fr {ch : Nat → Prop} {w w' : World} {b o : Nat} {x : It} (h : ItAt w b o x) (k : Fr ch w w') (hc : ¬ ch b) : ItAt w' b o x := ⟨h.1, h.2.fr k hc⟩
theorem IsItems.fr {w w' : World} {v : Value} {l : List It} (h : IsItems w v l) (k : Fr nothing w w') : IsItems w' v l := Rows'.mono h fun _ _ _ h => h.fr k id
theorem isItems_nil (w : World) : IsItems w (.slice none 0 0) [] := ⟨by simp, none, 0, rfl, Nat.le_refl _, by unfold maxLen; omega, .inl rfl⟩
theorem IsItems.parts {w : World} {v : Value} {l : List It} (h : IsItems w v l) : ∃ a c, v = .slice a l.length c ∧ l.length ≤ c ∧ c ≤ maxLen ∧ l.length ≤ 17592186044416 := by
  obtain ⟨h1, a, c, hv, h2, h3, _⟩ := h
  exact ⟨a, c, hv, h2, h3, h1⟩
theorem IsItems.at {w : World} {a : Option Addr} {n c : Nat} {l : List It} (h : IsItems w (.slice a n c) l) {k : Nat} (hk : k < l.length) :
    ∃ b o, a = some ⟨b, o, none⟩ ∧ w.cell? ⟨b, o + k * 2, none⟩ = some (.int .i64 l[k].1) ∧ w.cell? ⟨b, o + k * 2 + 1, none⟩ = some (.int .i64 l[k].2) ∧ i64 l[k].1 ∧ i64 l[k].2 := by
  obtain ⟨h1, a', c', e, h2, h3, h4⟩ := h
  simp only [Value.slice.injEq] at e
  obtain ⟨rfl, rfl, rfl⟩ := e
  rcases h4 with rfl | ⟨b, o, rfl, hx⟩
  · simp at hk
  · obtain ⟨⟨i1, i2⟩, hc⟩ := hx k hk
    have c0 := hc 0 (by simp [encI])
    have c1 := hc 1 (by simp [encI])
    simp only [encI, List.getElem_cons_zero, List.getElem_cons_succ, Nat.add_zero] at c0 c1
    exact ⟨b, o, rfl, c0, c1, i1, i2⟩
/-- A list of items of its own, in new memory. -/
def OwnI (w : World) (B : Nat) (v : Value) (l : List It) : Prop := w.ownsRow B 41 2 v l.length (l.flatMap encI)
theorem enc_flat_at {l : List It} {i : Nat} (hi : i < l.length) (j : Nat) (hj : j < 2) : (l.flatMap encI)[i * 2 + j]? = (encI l[i])[j]? := flat_get encI 2 (fun _ => rfl) l i j hi hj
theorem OwnI.nil (w : World) (B : Nat) : OwnI w B (.slice none 0 0) [] := World.ownsRow_nil _ _ _ _
theorem enc_len (l : List It) : (l.flatMap encI).length = l.length * 2 := by
  induction l with
  | nil => rfl
  | cons x l ih => rw [List.flatMap_cons, List.length_append, ih, List.length_cons]; simp [encI]; omega
theorem own_as_cells2 {w : World} {B : Nat} {e : TypeId} {size : Nat} {v : Value} {n : Nat} {xs : List Value} (h : w.ownsRow B e size v n xs) :
    ∃ a cap, v = .slice a n cap ∧ n ≤ cap ∧ cap ≤ maxLen ∧ (xs = [] ∨ ∃ g, a = some ⟨g, 0, none⟩ ∧ B ≤ g ∧ Cells w g 0 xs) := by
  obtain ⟨h1, h2⟩ := h
  rcases h2 with ⟨rfl, rfl⟩ | ⟨g, cap, cur, rfl, hb, hg, r1, r2, r3, r4⟩
  · exact ⟨none, 0, rfl, Nat.le_refl _, by unfold maxLen; omega, .inl (List.eq_nil_of_length_eq_zero (by simpa using h1))⟩
  · refine ⟨_, cap, rfl, r1, r2, .inr ⟨g, rfl, hb, fun i hi => ?_⟩⟩
    have e1 : xs[i]? = cur.toList[i]? := by rw [← r4, List.getElem?_take, if_pos (by omega)]
    simp only [World.cell?, hg, Nat.zero_add]
    rw [List.getElem?_eq_getElem hi] at e1
    simpa using e1.symm
theorem OwnI.items {w : World} {B : Nat} {v : Value} {l : List It} (h : OwnI w B v l) (hi : ∀ x ∈ l, i64 x.1 ∧ i64 x.2) (hl : l.length ≤ 17592186044416) : IsItems w v l := by
  obtain ⟨a, c, rfl, h1, h2, h3⟩ := own_as_cells2 h
  refine ⟨hl, a, c, rfl, h1, h2, ?_⟩
  rcases h3 with h3 | ⟨g, rfl, _, hc⟩
  · left
    cases l with
    | nil => rfl
    | cons x l => simp [encI] at h3
  · refine .inr ⟨g, 0, rfl, fun i hi' => ⟨hi _ (List.getElem_mem hi'), fun j hj => ?_⟩⟩
    have hj2 : j < 2 := by simpa [encI] using hj
    have hlt : i * 2 + j < (l.flatMap encI).length := by rw [enc_len]; omega
    have h5 := hc (i * 2 + j) hlt
    have h6 := enc_flat_at hi' j hj2
    rw [List.getElem?_eq_getElem hlt, List.getElem?_eq_getElem hj] at h6
    simp only [Nat.zero_add, Option.some.injEq] at h5 h6 ⊢
    rw [h5, h6]

theorem intsAt {w : World} {a : Option Addr} {n c : Nat} {xs : List Int} (h : Ints w (.slice a n c) xs) {k : Nat} (hk : k < xs.length) : ∃ b o, a = some ⟨b, o, none⟩ ∧ n = xs.length ∧ n ≤ c ∧ w.cell? ⟨b, o + k, none⟩ = some (.int .i64 xs[k]) ∧ i64 xs[k] := by
  obtain ⟨h0, _, a', c', e, h1, h2, h3⟩ := h
  simp only [Value.slice.injEq] at e
  obtain ⟨rfl, rfl, rfl⟩ := e
  rcases h3 with rfl | ⟨b, o, rfl, hc⟩
  · simp at hk
  · have := hc k (by simpa using hk)
    exact ⟨b, o, rfl, rfl, h1, by simpa using this, h0 _ (List.getElem_mem hk)⟩

/-- A builder of a grammar. -/
structure IsBld (w : World) (bp mb : Nat) (vs vp : Value) (G : Gram) : Prop where
  obj : w.heap[bp]? = some (.cells #[.int .i64 G.terms, vs, vp, .map (some mb)] 79 (0, 0))
  gram : IsGram w (.agg #[.int .i64 G.terms, vs, vp]) G
theorem IsBld.fr {w w' : World} {bp mb : Nat} {vs vp : Value} {G : Gram} (h : IsBld w bp mb vs vp G) (k : Fr nothing w w') : IsBld w' bp mb vs vp G := ⟨k.obj h.obj id, h.gram.fr k⟩
theorem IsBld.prods {w : World} {bp mb : Nat} {vs vp : Value} {G : Gram} (h : IsBld w bp mb vs vp G) : IsPrds w vp G.prods := by
  obtain ⟨_, s, p, e, _, hp⟩ := h.gram
  simp only [Value.agg.injEq, Array.mk.injEq, List.cons.injEq, and_true, true_and] at e
  rw [e.2]
  exact hp
def behT (o : Option Int) : Value := match o with | some s => .tuple #[.int .i64 s, .bool true] | none => .tuple #[.int .i64 0, .bool false]

set_option maxRecDepth 100000 in
set_option maxHeartbeats 1000000 in
theorem behind_any (G : Gram) (w : World) (bp mb : Nat) (vs vp : Value) (h : IsBld w bp mb vs vp G) (x : It) (hx : InI G x) :
    Calls Try.prog 33 #[.pointer (some ⟨bp, 0, none⟩), itVal x] w fun e w' => e = .returned (behT (behI G x)) ∧ Below w.heap.size w w' := by
  obtain ⟨p, d⟩ := x
  obtain ⟨h0, h1, h2, h3⟩ := hx
  simp only at h0 h1 h2 h3
  obtain ⟨pn, rfl⟩ : ∃ n : Nat, p = (n : Int) := ⟨p.toNat, by omega⟩
  obtain ⟨dn, rfl⟩ : ∃ n : Nat, d = (n : Int) := ⟨d.toNat, by omega⟩
  have hlt : pn < G.prods.length := by omega
  have hr : rightOf G (pn : Int) = G.prods[pn].right := by
    unfold rightOf
    rw [Int.toNat_natCast, List.getElem?_eq_getElem hlt]
    rfl
  have hP := h.prods
  obtain ⟨-, pa, pc, rfl, -, -, -⟩ := id hP
  obtain ⟨pg, po, ra, rc, rfl, hprd, hcs⟩ := hP.get pn hlt
  have hR : Ints w (.slice ra G.prods[pn].right.length rc) G.prods[pn].right := by
    obtain ⟨_, r, hr, he⟩ := hprd
    simp only [prdVal, Value.agg.injEq, Array.mk.injEq, List.cons.injEq, and_true, true_and] at he
    rw [he]
    exact hr
  have c1 := hcs 1 (by simp [prdCells])
  simp only [prdCells, List.getElem_cons_zero, List.getElem_cons_succ] at c1
  have hb : behI G ((pn : Int), (dn : Int)) = G.prods[pn].right[dn]? := by
    unfold behI
    simp only [Int.toNat_natCast]
    rw [hr]
  rw [hb]
  rw [hr] at h3
  have cb := obj_cell h.obj 2 (v := .slice (some ⟨pg, po, none⟩) G.prods.length pc) rfl
  have k := Fr.alloc (ch := nothing) w (Obj.cells #[.int .i64 pn, .int .i64 dn] 41 (0, 0))
  have e0 := obj_cell (alloc_obj w (Obj.cells #[.int .i64 pn, .int .i64 dn] 41 (0, 0))) 0 (v := .int .i64 pn) rfl
  have e1 := obj_cell (alloc_obj w (Obj.cells #[.int .i64 pn, .int .i64 dn] 41 (0, 0))) 1 (v := .int .i64 dn) rfl
  have c1 := k.cell c1 id
  have cb := k.cell cb id
  have hR := hR.fr k
  have hz : w.heap.size ≤ (w.alloc (Obj.cells #[.int .i64 pn, .int .i64 dn] 41 (0, 0))).heap.size := by simp
  have HB := Lib.hid (k.below_new)
  clear h hP hprd hcs hr hb h1
  generalize G.prods[pn].right = right at *
  have HGT := Lib.hid hlt
  clear hlt
  generalize G.prods.length = m at *
  have hrl := hR.2.1
  unfold itVal
  by_cases hd : dn < right.length
  · obtain ⟨rb, ro, rfl, -, -, hcx, -⟩ := intsAt hR hd
    rw [List.getElem?_eq_getElem hd]
    generalize right[dn] = s at *
    have hne : ((dn : Int) == (right.length : Int)) = false := beq_eq_false_iff_ne.2 (by omega)
    go_enter Try.func33, Try.ntmps33
    go_wp2
    generalize hW : w.alloc (Obj.cells #[.int .i64 pn, .int .i64 dn] 41 (0, 0)) = W at *
    have hpm : pn < m := HGT.out
    go_quiet (fail)
    go_wp2
    go_ret2
    exact ⟨rfl, below_drewN HB.out _⟩
  · have : dn = right.length := by omega
    subst this
    rw [List.getElem?_eq_none (Nat.le_refl _)]
    have he : ((right.length : Int) == (right.length : Int)) = true := by simp
    go_enter Try.func33, Try.ntmps33
    go_wp2
    generalize hW : w.alloc (Obj.cells #[.int .i64 pn, .int .i64 right.length] 41 (0, 0)) = W at *
    have hpm : pn < m := HGT.out
    go_quiet (fail)
    go_wp2
    go_ret2
    exact ⟨rfl, below_drewN HB.out _⟩
end Go.Proofs.Ytgmkpncpcikecaa
