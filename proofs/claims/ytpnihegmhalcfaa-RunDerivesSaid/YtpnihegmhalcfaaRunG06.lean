/-
  What a grammar that is right has.
  Items in memory; a builder; what stands behind a dot.
  The statements' own helpers on productions: SameProd, SameProds, KeptProd, of what is one.
-/
import Derived.Test.YtpnihegmhalcfaaRunG05
import Derived.Test.YtpnihegmhalcfaaRunG03
import Derived.Test.YtpnihegmhalcfaaRunG01
namespace Go.Proofs.Ytpnihegmhalcfaa
open Go.RowKit
set_option maxHeartbeats 400000

theorem rightG_parts {G : Gram} (h : rightG G = true) : (1 ≤ G.terms ∧ G.terms ≤ 64 ∧ G.terms + 2 ≤ (G.syms.length : Int) ∧ (G.syms.length : Int) ≤ G.terms + 64 ∧ 1 ≤ G.prods.length ∧ G.prods.length ≤ 128) ∧
    symsG G.terms G.syms = true ∧ prodsG G.terms G.syms.length G.prods = true := by
  unfold rightG at h
  simp only [Bool.and_eq_true, Bool.not_eq_true', Bool.or_eq_false_iff, decide_eq_false_iff_not] at h
  obtain ⟨h1, h2, h3⟩ := h
  exact ⟨by omega, h2, h3⟩
theorem symsG_at {terms : Int} {l : List Sym} (h : symsG terms l = true) (k : Nat) (hk : k < l.length) : symOk terms (namesTo l k) k l[k] = true := by
  rw [symsG, List.all_eq_true] at h
  have := h k (List.mem_range.2 hk)
  rw [symAtOk, List.getElem?_eq_getElem hk] at this
  exact this
/-- A symbol of one that is right. -/
theorem right_sym {G : Gram} (h : rightG G = true) (k : Nat) (hk : k < G.syms.length) :
    0 ≤ G.syms[k].level ∧ G.syms[k].assoc ≤ 3 ∧ (G.syms[k].level = 0 ↔ G.syms[k].assoc = 0) ∧ (G.terms ≤ (k : Int) → G.syms[k].level ≤ 0) ∧ (k = 0 → G.syms[k].level = 0) := by
  have := symsG_at (rightG_parts h).2.1 k hk
  generalize G.syms[k] = s at *
  unfold symOk bareG at this
  simp only [Bool.and_eq_true, Bool.not_eq_true', Bool.or_eq_false_iff, Bool.and_eq_false_iff, decide_eq_false_iff_not, bne_eq_false_iff_eq, Bool.not_eq_false', decide_eq_true_eq] at this
  obtain ⟨_, ⟨h1, h2, h3⟩, h4, h5, _⟩ := this
  have h3' : s.level = 0 ↔ s.assoc = 0 := by
    by_cases e1 : s.level = 0 <;> by_cases e2 : s.assoc = 0 <;> simp [e1, e2] at h3 ⊢
  refine ⟨by omega, by omega, h3', fun hh => by omega, fun hh => ?_⟩
  subst hh
  rcases h5 with h5 | h5
  · simp at h5
  · exact h5.2.2.1
/-- A production of one that is right. -/
theorem right_prod {G : Gram} (h : rightG G = true) (k : Nat) (hk : k < G.prods.length) : (G.prods[k].prec = -1 ∨ (1 ≤ G.prods[k].prec ∧ G.prods[k].prec < G.terms)) := by
  obtain ⟨terms, syms, prods⟩ := G
  have := (rightG_parts h).2.2
  cases prods with
  | nil => simp at hk
  | cons p r =>
    simp only [prodsG, Bool.and_eq_true, List.all_eq_true] at this
    obtain ⟨h1, h2⟩ := this
    cases k with
    | zero =>
      unfold firstG at h1
      simp only [Bool.and_eq_true, decide_eq_true_eq] at h1
      exact .inl h1.2.2.2.2.1
    | succ k =>
      have hk' : k < r.length := by simpa using hk
      have h3 := h2 r[k] (List.getElem_mem _)
      simp only [List.getElem_cons_succ]
      generalize r[k] = p at *
      unfold prodG at h3
      simp only [Bool.and_eq_true, Bool.not_eq_true', Bool.or_eq_false_iff, Bool.and_eq_false_iff, decide_eq_false_iff_not, Bool.not_eq_false', decide_eq_true_eq] at h3
      obtain ⟨_, ⟨h4, _⟩, _⟩ := h3
      omega
end Go.Proofs.Ytpnihegmhalcfaa
namespace Go.Proofs.Ytpnihegmhalcfaa
open Go.RowKit
set_option maxHeartbeats 400000

def encI (x : It) : List Value := [.int .i64 x.1, .int .i64 x.2]
def itVal (x : It) : Value := .agg #[.int .i64 x.1, .int .i64 x.2]
def ItAt (w : World) (b o : Nat) (x : It) : Prop := (i64 x.1 ∧ i64 x.2) ∧ Cells w b o (encI x)
/-- A slice value that reads as items. -/
def IsItems (w : World) (v : Value) (l : List It) : Prop := Rows' v 2 (ItAt w) l
theorem ItAt.fr {ch : Nat → Prop} {w w' : World} {b o : Nat} {x : It} (h : ItAt w b o x) (k : Fr ch w w') (hc : ¬ ch b) : ItAt w' b o x := ⟨h.1, h.2.fr k hc⟩
theorem IsItems.fr {w w' : World} {v : Value} {l : List It} (h : IsItems w v l) (k : Fr nothing w w') : IsItems w' v l := Rows'.mono h fun _ _ _ h => h.fr k id
theorem isItems_nil (w : World) : IsItems w (.slice none 0 0) [] := ⟨by simp, none, 0, rfl, Nat.le_refl _, by unfold maxLen; omega, .inl rfl⟩
theorem IsItems.parts {w : World} {v : Value} {l : List It} (h : IsItems w v l) : ∃ a c, v = .slice a l.length c ∧ l.length ≤ c ∧ c ≤ maxLen ∧ l.length ≤ 17592186044416 := by
  obtain ⟨h1, a, c, hv, h2, h3, _⟩ := h
  exact ⟨a, c, hv, h2, h3, h1⟩
theorem IsItems.at {w : World} {a : Option Addr} {n c : Nat} {l : List It} (h : IsItems w (.slice a n c) l) {k : Nat} (hk : k < l.length) :
    ∃ b o, a = some ⟨b, o, none⟩ ∧ w.cell? ⟨b, o + k * 2, none⟩ = some (.int .i64 l[k].1) ∧ w.cell? ⟨b, o + k * 2 + 1, none⟩ = some (.int .i64 l[k].2) ∧ i64 l[k].1 ∧ i64 l[k].2 := by
  obtain ⟨h1, a', c', e, h2, h3, h4⟩ := h
  simp only [Value.slice.injEq] at e
  obtain ⟨rfl, rfl, rfl⟩ := e
  rcases h4 with rfl | ⟨b, o, rfl, hx⟩
  · simp at hk
  · obtain ⟨⟨i1, i2⟩, hc⟩ := hx k hk
    have c0 := hc 0 (by simp [encI])
    have c1 := hc 1 (by simp [encI])
    simp only [encI, List.getElem_cons_zero, List.getElem_cons_succ, Nat.add_zero] at c0 c1
    exact ⟨b, o, rfl, c0, c1, i1, i2⟩
/-- A list of items of its own, in new memory. -/
def OwnI (w : World) (B : Nat) (v : Value) (l : List It) : Prop := w.ownsRow B 102 2 v l.length (l.flatMap encI)
theorem enc_flat_at {l : List It} {i : Nat} (hi : i < l.length) (j : Nat) (hj : j < 2) : (l.flatMap encI)[i * 2 + j]? = (encI l[i])[j]? := flat_get encI 2 (fun _ => rfl) l i j hi hj
theorem OwnI.nil (w : World) (B : Nat) : OwnI w B (.slice none 0 0) [] := World.ownsRow_nil _ _ _ _
theorem enc_len (l : List It) : (l.flatMap encI).length = l.length * 2 := by
  induction l with
  | nil => rfl
  | cons x l ih => rw [List.flatMap_cons, List.length_append, ih, List.length_cons]; simp [encI]; omega
theorem own_as_cells2 {w : World} {B : Nat} {e : TypeId} {size : Nat} {v : Value} {n : Nat} {xs : List Value} (h : w.ownsRow B e size v n xs) :
    ∃ a cap, v = .slice a n cap ∧ n ≤ cap ∧ cap ≤ maxLen ∧ (xs = [] ∨ ∃ g, a = some ⟨g, 0, none⟩ ∧ B ≤ g ∧ Cells w g 0 xs) := by
  obtain ⟨h1, h2⟩ := h
  rcases h2 with ⟨rfl, rfl⟩ | ⟨g, cap, cur, rfl, hb, hg, r1, r2, r3, r4⟩
  · exact ⟨none, 0, rfl, Nat.le_refl _, by unfold maxLen; omega, .inl (List.eq_nil_of_length_eq_zero (by simpa using h1))⟩
  · refine ⟨_, cap, rfl, r1, r2, .inr ⟨g, rfl, hb, fun i hi => ?_⟩⟩
    have e1 : xs[i]? = cur.toList[i]? := by rw [← r4, List.getElem?_take, if_pos (by omega)]
    simp only [World.cell?, hg, Nat.zero_add]
    rw [List.getElem?_eq_getElem hi] at e1
    simpa using e1.symm
theorem OwnI.items {w : World} {B : Nat} {v : Value} {l : List It} (h : OwnI w B v l) (hi : ∀ x ∈ l, i64 x.1 ∧ i64 x.2) (hl : l.length ≤ 17592186044416) : IsItems w v l := by
  obtain ⟨a, c, rfl, h1, h2, h3⟩ := own_as_cells2 h
  refine ⟨hl, a, c, rfl, h1, h2, ?_⟩
  rcases h3 with h3 | ⟨g, rfl, _, hc⟩
  · left
    cases l with
    | nil => rfl
    | cons x l => simp [encI] at h3
  · refine .inr ⟨g, 0, rfl, fun i hi' => ⟨hi _ (List.getElem_mem hi'), fun j hj => ?_⟩⟩
    have hj2 : j < 2 := by simpa [encI] using hj
    have hlt : i * 2 + j < (l.flatMap encI).length := by rw [enc_len]; omega
    have h5 := hc (i * 2 + j) hlt
    have h6 := enc_flat_at hi' j hj2
    rw [List.getElem?_eq_getElem hlt, List.getElem?_eq_getElem hj] at h6
    simp only [Nat.zero_add, Option.some.injEq] at h5 h6 ⊢
    rw [h5, h6]

theorem intsAt {w : World} {a : Option Addr} {n c : Nat} {xs : List Int} (h : Ints w (.slice a n c) xs) {k : Nat} (hk : k < xs.length) : ∃ b o, a = some ⟨b, o, none⟩ ∧ n = xs.length ∧ n ≤ c ∧ w.cell? ⟨b, o + k, none⟩ = some (.int .i64 xs[k]) ∧ i64 xs[k] := by
  obtain ⟨h0, _, a', c', e, h1, h2, h3⟩ := h
  simp only [Value.slice.injEq] at e
  obtain ⟨rfl, rfl, rfl⟩ := e
  rcases h3 with rfl | ⟨b, o, rfl, hc⟩
  · simp at hk
  · have := hc k (by simpa using hk)
    exact ⟨b, o, rfl, rfl, h1, by simpa using this, h0 _ (List.getElem_mem hk)⟩

def behT (o : Option Int) : Value := match o with | some s => .tuple #[.int .i64 s, .bool true] | none => .tuple #[.int .i64 0, .bool false]

end Go.Proofs.Ytpnihegmhalcfaa
namespace Go.Proofs.Ytpnihegmhalcfaa
open Go.RowKit
set_option maxHeartbeats 400000

theorem Lent.fr {ch : Nat → Prop} {w w' : World} {B : Nat} {v : Value} {xs : List Int} (h : Lent w B v xs) (k : Fr ch w w') (hc : ∀ g, B ≤ g → ¬ ch g) : Lent w' B v xs := by
  obtain ⟨g, cap, h1, h2, h3, h4, h5⟩ := h
  exact ⟨g, cap, h1, h2, h3, h4, h5.fr k (hc g h2)⟩
theorem Lent.mono {w : World} {B B' : Nat} {v : Value} {xs : List Int} (h : Lent w B v xs) (hb : B' ≤ B) : Lent w B' v xs := by
  obtain ⟨g, cap, h1, h2, h3⟩ := h
  exact ⟨g, cap, h1, Nat.le_trans hb h2, h3⟩
theorem Lent.ints {w : World} {B : Nat} {v : Value} {xs : List Int} (h : Lent w B v xs) (hx : ∀ x ∈ xs, -9223372036854775808 ≤ x ∧ x ≤ 9223372036854775807) (hl : xs.length ≤ 17592186044416) : Ints w v xs := by
  obtain ⟨g, cap, rfl, _, h3, h4, h5⟩ := h
  refine ⟨hx, hl, some ⟨g, 0, none⟩, cap, rfl, by omega, h4, .inr ⟨g, 0, rfl, fun i hi => ?_⟩⟩
  have hi' : i < xs.length := by simpa using hi
  have := h5 i (by simp; omega)
  rw [this, List.getElem_map, List.getElem_append_left hi', List.getElem_map]

set_option maxRecDepth 100000 in
set_option maxHeartbeats 2000000 in
theorem sameProd_any (u v : Value) (p : Prd) (w : World) (hu : IsPrd w u p) (hv : IsPrd w v p) :
    Calls Try.prog 82 #[u, v] w fun e w' => e = .returned (.bool true) ∧ Below w.heap.size w w' := by
  obtain ⟨_, ra, hra, rfl⟩ := hu
  obtain ⟨_, rb, hrb, rfl⟩ := hv
  have ha := hra
  have hb := hrb
  obtain ⟨_, _, a, ac, rfl, _⟩ := hra
  obtain ⟨_, _, b, bc, rfl, _⟩ := hrb
  obtain ⟨left, right, prec, has, action, whr⟩ := p
  simp only at ha hb
  unfold prdVal
  simp only
  obtain ⟨w1, hw1⟩ : ∃ w1, w1 = (w.alloc (.cells #[.int .i64 left, .slice a right.length ac, .int .i64 prec, .bool has, .string action, .int .i64 whr] 46 (0, 0))).alloc (.cells #[.int .i64 left, .slice b right.length bc, .int .i64 prec, .bool has, .string action, .int .i64 whr] 46 (0, 0)) := ⟨_, rfl⟩
  have hx := two_boxes w (.cells #[.int .i64 left, .slice a right.length ac, .int .i64 prec, .bool has, .string action, .int .i64 whr] 46 (0, 0)) (.cells #[.int .i64 left, .slice b right.length bc, .int .i64 prec, .bool has, .string action, .int .i64 whr] 46 (0, 0))
  rw [← hw1] at hx
  obtain ⟨o0, o1, hB1⟩ := hx
  have hS := same_any _ _ right right w1 (ha.fr (Fr.new hB1)) (hb.fr (Fr.new hB1))
  have HS := Lib.hid (hS.mono fun e w' hh => (show e = .returned (.bool true) ∧ ∃ q : After w1, w' = q.w from by
    obtain ⟨he, n, rfl⟩ := hh
    exact ⟨by rw [he]; simp [sameI], ⟨w1.drewN n, below_drewN (Below.refl _ _) n⟩, rfl⟩))
  have g0 : ∀ q : After w1, q.w.cell? ⟨w.heap.size, 0, none⟩ = some (.int .i64 left) := after_obj o0 0 rfl
  have g1 : ∀ q : After w1, q.w.cell? ⟨w.heap.size, 1, none⟩ = some (.slice a right.length ac) := after_obj o0 1 rfl
  have g2 : ∀ q : After w1, q.w.cell? ⟨w.heap.size, 2, none⟩ = some (.int .i64 prec) := after_obj o0 2 rfl
  have g3 : ∀ q : After w1, q.w.cell? ⟨w.heap.size, 3, none⟩ = some (.bool has) := after_obj o0 3 rfl
  have g4 : ∀ q : After w1, q.w.cell? ⟨w.heap.size, 4, none⟩ = some (.string action) := after_obj o0 4 rfl
  have g5 : ∀ q : After w1, q.w.cell? ⟨w.heap.size, 5, none⟩ = some (.int .i64 whr) := after_obj o0 5 rfl
  have k0 : ∀ q : After w1, q.w.cell? ⟨w.heap.size + 1, 0, none⟩ = some (.int .i64 left) := after_obj o1 0 rfl
  have k1 : ∀ q : After w1, q.w.cell? ⟨w.heap.size + 1, 1, none⟩ = some (.slice b right.length bc) := after_obj o1 1 rfl
  have k2 : ∀ q : After w1, q.w.cell? ⟨w.heap.size + 1, 2, none⟩ = some (.int .i64 prec) := after_obj o1 2 rfl
  have k3 : ∀ q : After w1, q.w.cell? ⟨w.heap.size + 1, 3, none⟩ = some (.bool has) := after_obj o1 3 rfl
  have k4 : ∀ q : After w1, q.w.cell? ⟨w.heap.size + 1, 4, none⟩ = some (.string action) := after_obj o1 4 rfl
  have k5 : ∀ q : After w1, q.w.cell? ⟨w.heap.size + 1, 5, none⟩ = some (.int .i64 whr) := after_obj o1 5 rfl
  have z0 := g0 ⟨w1, Below.refl _ _⟩
  have z1 := g1 ⟨w1, Below.refl _ _⟩
  have y0 := k0 ⟨w1, Below.refl _ _⟩
  have y1 := k1 ⟨w1, Below.refl _ _⟩
  simp only at z0 z1 y0 y1
  have HW := Lib.hid hw1
  have HB := Lib.hid hB1
  clear hw1 hB1 o0 o1 hS ha hb
  generalize right.length = n at *
  go_enter Try.func82, Try.ntmps82
  go_upto_region 1 with fail
  rw [← HW.out]
  go_wp2_with (go_at_call 15; refine HS.out.mono ?_; rintro e w' ⟨rfl, q, rfl⟩)
  go_ret
  exact ⟨rfl, HB.out.trans (q.ok.mono HB.out.size)⟩

theorem kept_below (B : Nat) (v u : Value) (xs : List Int) (w : World) (hv : Lent w B v xs) (hu : Ints w u xs) :
    Calls Try.prog 26 #[v, u] w fun e w' => e = .returned (.bool true) ∧ Below w.heap.size w w' :=
  (kept_any B v u xs w hv hu).mono fun _ _ ⟨he, n, hw⟩ => ⟨he, hw ▸ below_drewN (Below.refl _ _) n⟩
set_option maxRecDepth 100000 in
set_option maxHeartbeats 2000000 in
theorem keptProd_any (B : Nat) (ra v : Value) (p : Prd) (w : World) (hok : PrdOk p) (hl : Lent w B ra p.right) (hra : Ints w ra p.right) (hv : IsPrd w v p) :
    Calls Try.prog 81 #[prdVal p ra, v] w fun e w' => e = .returned (.bool true) ∧ Below w.heap.size w w' := by
  have hu : IsPrd w (prdVal p ra) p := ⟨hok, ra, hra, rfl⟩
  have hv' := hv
  obtain ⟨_, rb, hrb, rfl⟩ := hv
  have hb := hrb
  obtain ⟨_, _, a, ac, rfl, _⟩ := hra
  obtain ⟨_, _, b, bc, rfl, _⟩ := hrb
  obtain ⟨left, right, prec, has, action, whr⟩ := p
  simp only at hb hl
  unfold prdVal at hu hv'
  unfold prdVal
  simp only at hu hv'
  simp only
  obtain ⟨w1, hw1⟩ : ∃ w1, w1 = (w.alloc (.cells #[.int .i64 left, .slice a right.length ac, .int .i64 prec, .bool has, .string action, .int .i64 whr] 46 (0, 0))).alloc (.cells #[.int .i64 left, .slice b right.length bc, .int .i64 prec, .bool has, .string action, .int .i64 whr] 46 (0, 0)) := ⟨_, rfl⟩
  have hx := two_boxes w (.cells #[.int .i64 left, .slice a right.length ac, .int .i64 prec, .bool has, .string action, .int .i64 whr] 46 (0, 0)) (.cells #[.int .i64 left, .slice b right.length bc, .int .i64 prec, .bool has, .string action, .int .i64 whr] 46 (0, 0))
  rw [← hw1] at hx
  obtain ⟨o0, o1, hB1⟩ := hx
  have hS := sameProd_any _ _ _ w1 (hu.fr (Fr.new hB1)) (hv'.fr (Fr.new hB1))
  have HS := Lib.hid (hS.mono fun e w' hh => (show e = .returned (.bool true) ∧ ∃ q : After w1, w' = q.w from ⟨hh.1, ⟨w', hh.2⟩, rfl⟩))
  have HK := Lib.hid fun q : After w1 => after_call q (kept_below B _ _ right q.w ((hl.fr (ch := nothing) (Fr.new hB1) fun _ _ e => e).fr (ch := nothing) (Fr.new q.ok) fun _ _ e => e) ((hb.fr (Fr.new hB1)).fr (Fr.new q.ok)))
  have g1 : ∀ q : After w1, q.w.cell? ⟨w.heap.size, 1, none⟩ = some (.slice a right.length ac) := after_obj o0 1 rfl
  have k1 : ∀ q : After w1, q.w.cell? ⟨w.heap.size + 1, 1, none⟩ = some (.slice b right.length bc) := after_obj o1 1 rfl
  have z0 : w1.cell? ⟨w.heap.size, 0, none⟩ = some (.int .i64 left) := obj_cell o0 0 rfl
  have z1 : w1.cell? ⟨w.heap.size, 1, none⟩ = some (.slice a right.length ac) := obj_cell o0 1 rfl
  have z2 : w1.cell? ⟨w.heap.size, 2, none⟩ = some (.int .i64 prec) := obj_cell o0 2 rfl
  have z3 : w1.cell? ⟨w.heap.size, 3, none⟩ = some (.bool has) := obj_cell o0 3 rfl
  have z4 : w1.cell? ⟨w.heap.size, 4, none⟩ = some (.string action) := obj_cell o0 4 rfl
  have z5 : w1.cell? ⟨w.heap.size, 5, none⟩ = some (.int .i64 whr) := obj_cell o0 5 rfl
  have y0 : w1.cell? ⟨w.heap.size + 1, 0, none⟩ = some (.int .i64 left) := obj_cell o1 0 rfl
  have y1 : w1.cell? ⟨w.heap.size + 1, 1, none⟩ = some (.slice b right.length bc) := obj_cell o1 1 rfl
  have y2 : w1.cell? ⟨w.heap.size + 1, 2, none⟩ = some (.int .i64 prec) := obj_cell o1 2 rfl
  have y3 : w1.cell? ⟨w.heap.size + 1, 3, none⟩ = some (.bool has) := obj_cell o1 3 rfl
  have y4 : w1.cell? ⟨w.heap.size + 1, 4, none⟩ = some (.string action) := obj_cell o1 4 rfl
  have y5 : w1.cell? ⟨w.heap.size + 1, 5, none⟩ = some (.int .i64 whr) := obj_cell o1 5 rfl
  have HW := Lib.hid hw1
  have HB := Lib.hid hB1
  clear hw1 hB1 o0 o1 hS hu hv' hb hl hok
  generalize right.length = n at *
  go_enter Try.func81, Try.ntmps81
  go_upto_region 1 with fail
  rw [← HW.out]
  go_wp2_with (first | (go_at_call 82; refine HS.out.mono ?_; rintro e w' ⟨rfl, q, rfl⟩) | (go_at_call 26; refine (HK.out _).mono ?_; rintro e w' ⟨rfl, q', rfl⟩))
  go_ret
  exact ⟨rfl, HB.out.trans (q'.ok.mono HB.out.size)⟩

set_option maxRecDepth 100000 in
set_option maxHeartbeats 2000000 in
theorem sameProds_any (v u : Value) (l : List Prd) (w : World) (hv : IsPrds w v l) (hu : IsPrds w u l) :
    Calls Try.prog 80 #[v, u] w fun e w' => e = .returned (.bool true) ∧ Below w.heap.size w w' := by
  obtain ⟨_, a', cap, rfl, _, _, hx'⟩ := id hv
  obtain ⟨hlen, a, cap', rfl, _, _, hx⟩ := id hu
  clear hx hx'
  have HV := Lib.hid hv
  have HU := Lib.hid hu
  clear hu hv
  generalize hN : l.length = N at *
  have HN := Lib.hid hN
  clear hN
  go_enter Try.func80, Try.ntmps80
  go_wp2
  go_loopw [5] (fun i wr => ∃ k : Nat, k ≤ N ∧ i = .int .i64 k ∧ Below w.heap.size w wr) (fun i _ => N - (intOf i).toNat)
  case atStart => exact ⟨0, by omega, rfl, Below.refl _ _⟩
  case round =>
    obtain ⟨k, hk, rfl, hB⟩ := hrel
    have hne := after_ne wr
    by_cases hlt : k < N
    · have hk1 : k < l.length := by rw [HN.out]; exact hlt
      obtain ⟨b, o, ra, rc, rfl, hq, hcx⟩ := HU.out.get k hk1
      obtain ⟨b', o', ra', rc', rfl, hq', hcg⟩ := HV.out.get k hk1
      have hS := fun q : After wr => after_call q (sameProd_any _ _ _ q.w ((hq'.fr (Fr.new hB)).fr (Fr.new q.ok)) ((hq.fr (Fr.new hB)).fr (Fr.new q.ok)))
      unfold prdVal at hS
      generalize l[k].right.length = rl at *
      generalize l[k] = s at *
      have HS := Lib.hid hS
      have x0 := after_cell ((Fr.new hB).cell (hcx 0 (by simp [prdCells])) fun e => e)
      have x1 := after_cell ((Fr.new hB).cell (hcx 1 (by simp [prdCells])) fun e => e)
      have x2 := after_cell ((Fr.new hB).cell (hcx 2 (by simp [prdCells])) fun e => e)
      have x3 := after_cell ((Fr.new hB).cell (hcx 3 (by simp [prdCells])) fun e => e)
      have x4 := after_cell ((Fr.new hB).cell (hcx 4 (by simp [prdCells])) fun e => e)
      have x5 := after_cell ((Fr.new hB).cell (hcx 5 (by simp [prdCells])) fun e => e)
      have y0 := after_cell ((Fr.new hB).cell (hcg 0 (by simp [prdCells])) fun e => e)
      have y1 := after_cell ((Fr.new hB).cell (hcg 1 (by simp [prdCells])) fun e => e)
      have y2 := after_cell ((Fr.new hB).cell (hcg 2 (by simp [prdCells])) fun e => e)
      have y3 := after_cell ((Fr.new hB).cell (hcg 3 (by simp [prdCells])) fun e => e)
      have y4 := after_cell ((Fr.new hB).cell (hcg 4 (by simp [prdCells])) fun e => e)
      have y5 := after_cell ((Fr.new hB).cell (hcg 5 (by simp [prdCells])) fun e => e)
      simp only [prdCells, List.getElem_cons_zero, List.getElem_cons_succ, Nat.add_zero] at x0 x1 x2 x3 x4 x5 y0 y1 y2 y3 y4 y5
      have HB := Lib.hid hB
      clear hB hcx hcg hS hq hq'
      go_wp2_with fail
      refine wp_region_after wr (by kernel_rfl) (by kernel_rfl) (Below.refl _ _) ?_
      repeat (go_big_quiet_step (exact HS.out _))
      refine wpQuiet_nil ?_
      intro _ hw'
      obtain ⟨q, hw''⟩ := hw'
      subst hw''
      go_wp2
      go_roundw
      case rel => exact ⟨k + 1, by omega, by simp, HB.out.trans (q.ok.mono HB.out.size)⟩
      case measure => simp [intOf]; omega
    · obtain rfl : k = N := by omega
      clear hlt
      go_wp2
      go_ret
      exact ⟨rfl, hB⟩
end Go.Proofs.Ytpnihegmhalcfaa
