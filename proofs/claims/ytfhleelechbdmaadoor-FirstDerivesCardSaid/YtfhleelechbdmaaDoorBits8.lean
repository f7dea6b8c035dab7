/-
  Rows of truths and of rows in memory; Pick.
-/
import Derived.Test.YtfhleelechbdmaaDoorBits7
import Derived.Test.YtfhleelechbdmaaDoorJoinsLaw
import Derived.Test.YtfhleelechbdmaaDoorGram
namespace Go.Proofs.YtfhleelechbdmaaDoor
open Go.RowKit Go.Shelf
set_option maxHeartbeats 400000

theorem obj_frozen {w : World} {b : Nat} {cs : Array Value} {t : TypeId} (h : w.heap[b]? = some (.cells cs t (0, 0))) (i : Nat) : w.frozen? ⟨b, i, none⟩ = false := by
  simp only [World.frozen?, h]
  simp
theorem setCell_obj {w : World} {b i : Nat} {cs : Array Value} {t : TypeId} {f : Nat × Nat} (h : w.heap[b]? = some (.cells cs t f)) (v : Value) : (w.setCell ⟨b, i, none⟩ v).heap[b]? = some (.cells (cs.setIfInBounds i v) t f) := by
  obtain ⟨hb, he⟩ := Array.getElem?_eq_some_iff.1 h
  simp [World.setCell, hb, Array.getElem_modify, he]
theorem own_ne {w : World} {B e size n b : Nat} {v : Value} {xs : List Value} {cs : Array Value} {t : TypeId} {f : Nat × Nat} (h : w.ownsRow B e size v n xs) (hb : w.heap[b]? = some (.cells cs t f)) (hne : e ≠ t) : v.ownBlock ≠ some b := fun hv => by
  obtain ⟨_, h2⟩ := h
  rcases h2 with ⟨rfl, _⟩ | ⟨g, cap, cur, rfl, _, hg, _⟩
  · cases hv
  · simp only [Value.ownBlock, Option.some.injEq] at hv
    subst hv
    rw [hb] at hg
    simp only [Option.some.injEq, Obj.cells.injEq] at hg
    exact hne hg.2.1.symm
theorem own_apart {w : World} {B e size n B' e' size' n' : Nat} {v v' : Value} {xs xs' : List Value} (h : w.ownsRow B e size v n xs) (h' : w.ownsRow B' e' size' v' n' xs') (hne : e ≠ e') : ∀ g, v.ownBlock = some g → v'.ownBlock = some g → False := fun g hv hv' => by
  obtain ⟨_, h2⟩ := h'
  rcases h2 with ⟨rfl, _⟩ | ⟨g', cap, cur, rfl, _, hg, _⟩
  · cases hv'
  · simp only [Value.ownBlock, Option.some.injEq] at hv'
    subst hv'
    exact own_ne h hg hne hv
theorem own_obj {w : World} {B e g n : Nat} {xs : List Value} (h : w.ownsRow B e 1 (.slice (some ⟨g, 0, none⟩) n n) n xs) : w.heap[g]? = some (.cells xs.toArray e (0, 0)) := by
  obtain ⟨h1, h2⟩ := h
  rcases h2 with ⟨h2, _⟩ | ⟨g', cap, cur, h2, _, hg, _, _, hc, ht⟩
  · cases h2
  · simp only [Value.slice.injEq, Option.some.injEq, Addr.mk.injEq] at h2
    obtain ⟨⟨rfl, -⟩, -, rfl⟩ := h2
    rw [hg]
    have : cur.toList = xs := by rw [← ht, List.take_of_length_le (by simp; omega)]
    rw [← this]
def boolsObj (L : List Bool) : Obj := .cells (L.map Value.bool).toArray 4 (0, 0)
theorem bools_cell {w : World} {b : Nat} {L : List Bool} (h : w.heap[b]? = some (boolsObj L)) (i : Nat) (hi : i < L.length) : w.cell? ⟨b, i, none⟩ = some (.bool (L[i]?.getD false)) := by
  rw [List.getElem?_eq_getElem hi]
  exact obj_cell h i (by simp [hi])
theorem bools_set {w : World} {b : Nat} {L : List Bool} (h : w.heap[b]? = some (boolsObj L)) (i : Nat) (x : Bool) : (w.setCell ⟨b, i, none⟩ (.bool x)).heap[b]? = some (boolsObj (L.set i x)) := by
  have := setCell_obj (i := i) h (.bool x)
  rw [this]
  unfold boolsObj
  simp [List.map_set]
theorem made_bools {w : World} {B g n : Nat} (h : w.ownsRow B 4 1 (.slice (some ⟨g, 0, none⟩) n n) n (madeCells (Value.bool false).cells (n * 1)).toList) : w.heap[g]? = some (boolsObj (zeros n)) := by
  have := own_obj h
  rw [this]
  have h2 : (madeCells (Value.bool false).cells (n * 1)).toList = List.replicate n (.bool false) := by rw [Nat.mul_one]; exact toList_madeCells_one _ _
  rw [h2]
  simp [boolsObj, zeros]
theorem Tryd.infoBool : (Tryd.prog.info? 4).map (fun i => (i.zero, i.size, i.bytes)) = some (some (.bool false), 1, 1) := by kernel_rfl
theorem Tryd.infoSetP : (Tryd.prog.info? 52).map (fun i => (i.zero, i.size, i.bytes)) = some (some (.pointer none), 1, 8) := by kernel_rfl

/-- A slice value that reads as rows of numbers. -/
def IntRows (w : World) (v : Value) (rows : List (List Int)) : Prop :=
  ∃ a cap, v = .slice a rows.length cap ∧ rows.length ≤ 17592186044416 ∧ ∀ k, (h : k < rows.length) → ∃ b o x, a = some ⟨b, o, none⟩ ∧ w.cell? ⟨b, o + k, none⟩ = some x ∧ Ints w x rows[k]
theorem IntRows.fr {w w' : World} {v : Value} {rows : List (List Int)} (h : IntRows w v rows) (k : Fr nothing w w') : IntRows w' v rows := by
  obtain ⟨a, cap, hv, hl, hx⟩ := h
  refine ⟨a, cap, hv, hl, fun i hi => ?_⟩
  obtain ⟨b, o, x, ha, hc, hi'⟩ := hx i hi
  exact ⟨b, o, x, ha, k.cell hc (fun e => e), hi'.fr k⟩

theorem tmod_pick (x : Int) (n : Nat) (h : 0 < n) (hx : -9223372036854775808 ≤ x ∧ x ≤ 9223372036854775807) : (¬ x.tmod n < 0 → x.tmod n = ((pickN n x : Nat) : Int)) ∧ (x.tmod n < 0 → x.tmod n + n = ((pickN n x : Nat) : Int)) := by
  rw [pickN_int n x h]
  have h1 := Int.emod_nonneg x (b := (n : Int)) (by omega)
  have h2 := Int.emod_lt_of_pos x (b := (n : Int)) (by omega)
  rcases Int.lt_or_le x 0 with h0 | h0
  · obtain ⟨y, rfl⟩ : ∃ y : Nat, x = -(y : Int) := ⟨(-x).toNat, by omega⟩
    have e1 : (-(y : Int)).tmod n = -((y % n : Nat) : Int) := by rw [Int.neg_tmod]; rfl
    have hm := Nat.mod_lt y h
    rw [e1]
    have e2 : (-(y : Int)) % n = if y % n = 0 then 0 else (n : Int) - ((y % n : Nat) : Int) := by
      have hd := Nat.div_add_mod y n
      have e3 : (-(y : Int)) = (n : Int) * (-((y / n : Nat) : Int)) - ((y % n : Nat) : Int) := by
        have : (y : Int) = (n : Int) * ((y / n : Nat) : Int) + ((y % n : Nat) : Int) := by exact_mod_cast hd.symm
        rw [Int.mul_neg]; omega
      split
      · rename_i hz
        rw [e3, hz]; simp
      · rename_i hz
        rw [e3, show (n : Int) * (-((y / n : Nat) : Int)) - ((y % n : Nat) : Int) = ((n : Int) - ((y % n : Nat) : Int)) + (n : Int) * (-((y / n : Nat) : Int) - 1) by rw [Int.mul_sub]; omega, Int.add_mul_emod_self_left]
        exact Int.emod_eq_of_lt (by omega) (by omega)
    rw [e2]
    split <;> omega
  · rw [Int.tmod_eq_emod_of_nonneg h0]
    omega
theorem pick_any (x : Int) (n : Nat) (h : 0 < n) (hn : n ≤ 1000000) (w : World) (hx : -9223372036854775808 ≤ x ∧ x ≤ 9223372036854775807) :
    Calls Tryd.prog 7 #[.int .i64 x, .int .i64 n] w fun e w' => e = .returned (.int .i64 (pickN n x : Nat)) ∧ w = w' := by
  obtain ⟨h1, h2⟩ := tmod_pick x n h hx
  have hlt := pickN_lt n x h
  have hb1 : decide ((n : Int) < 1) = false := decide_eq_false (by omega)
  have hb2 : ((n : Int) == 0) = false := by simp; omega
  generalize pickN n x = k at *
  by_cases h0 : x.tmod n < 0
  · have h2' := h2 h0
    clear h1 h2
    generalize hy : x.tmod n = y at *
    go_enter Tryd.func7, Tryd.ntmps7
    go_wp2
    go_ret
    exact ⟨rfl, rfl⟩
  · have h1' := h1 h0
    clear h1 h2
    have hk : ¬ ((k : Int) < 0) := by omega
    rw [h1'] at h0
    generalize hy : x.tmod n = y at *
    subst h1'
    go_enter Tryd.func7, Tryd.ntmps7
    go_wp2
    go_ret
    exact ⟨rfl, rfl⟩

theorem PSet.lt {w : World} {B p : Nat} {v : Value} {bs : List Bool} (h : PSet w B p v bs) : p < w.heap.size ∧ ∀ g, v.ownBlock = some g → g < w.heap.size := by
  refine ⟨?_, fun g e => ?_⟩
  · obtain ⟨ws, h, _⟩ := h
    exact (Array.getElem?_eq_some_iff.1 h.hp).1
  · obtain ⟨o, ho, _⟩ := h.cells g e
    exact (Array.getElem?_eq_some_iff.1 ho).1
theorem PSet.ge {w : World} {B p : Nat} {v : Value} {bs : List Bool} (h : PSet w B p v bs) : B ≤ p ∧ ∀ g, v.ownBlock = some g → B ≤ g := by
  obtain ⟨ws, h, _⟩ := h
  refine ⟨h.hB, fun g e => ?_⟩
  rcases h.own.2 with ⟨rfl, _⟩ | ⟨g', cap, cur, rfl, hb, _⟩
  · cases e
  · cases e; exact hb
theorem PSet.off {w : World} {B p B' e size n : Nat} {v u : Value} {bs : List Bool} {xs : List Value} (h : PSet w B p v bs) (ho : w.ownsRow B' e size u n xs) (h1 : e ≠ 71) (h2 : e ≠ 76) :
    u.ownBlock ≠ some p ∧ ∀ g, v.ownBlock = some g → u.ownBlock ≠ some g := by
  obtain ⟨ws, h, _⟩ := h
  exact ⟨own_ne ho h.hp h1, fun g e1 e2 => own_apart ho h.own h2 g e2 e1⟩
/-- Sets that have what rows of numbers make of them. -/
def SetsI (w : World) (B : Nat) (ps : List (Nat × Value)) (rs : List (List Int)) : Prop :=
  ps.length = rs.length ∧ ∀ (i : Nat) (p : Nat × Value) (r : List Int), ps[i]? = some p → rs[i]? = some r → PSet w B p.1 p.2 (rowB r)
theorem SetsI.fr {w w' : World} {ch : Nat → Prop} {B : Nat} {ps : List (Nat × Value)} {rs : List (List Int)} (h : SetsI w B ps rs) (k : Fr ch w w') (hc : ∀ (p : Nat) (v : Value) (bs : List Bool), PSet w B p v bs → ¬ ch p ∧ ∀ g, v.ownBlock = some g → ¬ ch g) : SetsI w' B ps rs :=
  ⟨h.1, fun i p r hp hr => by
    have hs := h.2 i p r hp hr
    exact hs.fr k (hc _ _ _ hs).1 (hc _ _ _ hs).2⟩
theorem SetsI.snoc {w : World} {B : Nat} {ps : List (Nat × Value)} {rs : List (List Int)} (h : SetsI w B ps rs) (p : Nat × Value) (r : List Int) (hp : PSet w B p.1 p.2 (rowB r)) : SetsI w B (ps ++ [p]) (rs ++ [r]) := by
  refine ⟨by simp [h.1], fun i q s hq hs => ?_⟩
  rcases Nat.lt_or_ge i ps.length with hi | hi
  · rw [List.getElem?_append_left hi] at hq
    rw [List.getElem?_append_left (by rw [← h.1]; exact hi)] at hs
    exact h.2 i q s hq hs
  · have hi' : i = ps.length := by
      have := (List.getElem?_eq_some_iff.1 hq).1
      simp at this; omega
    subst hi'
    rw [List.getElem?_append_right (Nat.le_refl _)] at hq
    rw [h.1, List.getElem?_append_right (Nat.le_refl _)] at hs
    simp at hq hs
    subst hq hs
    exact hp
theorem PSet.weaken {w : World} {B B' p : Nat} {v : Value} {bs : List Bool} (h : PSet w B p v bs) (hB : B' ≤ B) : PSet w B' p v bs := by
  obtain ⟨ws, h, hr⟩ := h
  refine ⟨ws, ⟨h.hp, ⟨h.own.1, ?_⟩, h.len, h.hn, h.hw, Nat.le_trans hB h.hB⟩, hr⟩
  rcases h.own.2 with hn | ⟨g, cap, cur, hv, hb, rest⟩
  · exact .inl hn
  · exact .inr ⟨g, cap, cur, hv, Nat.le_trans hB hb, rest⟩
/-- A world of a class. -/
structure OfC (C : World → Prop) where
  w : World
  ok : C w
theorem wp_region_class {P : Program} {id : Nat} {Q : Exit → Act → World → Prop} {a : Act} {w : World} {l : List Oper} (C : World → Prop) (hm : P.follows .mixedOrders = true) (hB : Region.lexB .any l.toArray = true) (h0 : C w.drew)
    (h : wpQuiet P l.toArray (fun w' => ∃ p : OfC C, w' = p.w) (fun a' => ∀ w', (∃ p : OfC C, w' = p.w) → Q .normal a' w') l a) : (Code.region id l.toArray true).wp P Q a w :=
  wp_region_quiet (C := fun w' => ∃ p : OfC C, w' = p.w) hm hB ⟨⟨w.drew, h0⟩, rfl⟩ (by simpa using h)
def ptrV (p : Nat × Value) : Value := .pointer (some ⟨p.1, 0, none⟩)
end Go.Proofs.YtfhleelechbdmaaDoor
