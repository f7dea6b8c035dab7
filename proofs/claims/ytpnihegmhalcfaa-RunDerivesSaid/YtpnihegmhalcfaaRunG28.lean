/-
  The lookaheads that the document tells may be.
  Tables: in plain Lean and in memory; what gristmillref23.Make makes.
  A table aL it is made: its rows in lists of their own.
  The automaton of package run, in plain Lean.
-/
import Derived.Test.YtpnihegmhalcfaaRunG25
import Derived.Test.YtpnihegmhalcfaaRunG27
import Derived.Test.YtpnihegmhalcfaaRunG19
namespace Go.Proofs.Ytpnihegmhalcfaa
open Go.RowKit
set_option maxHeartbeats 400000

def ltA (a b : Ah) : Prop := a.1 < b.1 ∨ a.1 = b.1 ∧ a.2.1 < b.2.1
theorem trueIx_ris (L : List Bool) (k : Nat) : (trueIx L k).Pairwise (· < ·) := by
  unfold trueIx
  rw [List.pairwise_map]
  refine List.Pairwise.imp (R := fun a b : Nat => a < b) (fun h => by omega) (List.Pairwise.filter _ List.pairwise_lt_range)
/-- What is told is in its place. -/
structure OutOk (n p t : Nat) (l : List Ah) : Prop where
  ris : l.Pairwise ltA
  all : ∀ x ∈ l, 0 ≤ x.1 ∧ x.1 < (n : Int) ∧ 1 ≤ x.2.1 ∧ x.2.1 < (p : Int) ∧ (∀ y ∈ x.2.2, 0 ≤ y ∧ y < (t : Int)) ∧ x.2.2.Pairwise (· < ·) ∧ x.2.2.length ≤ t
theorem placeRow_ok (G : Gram) (Ls : List (List It)) (A : Tabs) (s p : Nat) : (∀ y ∈ placeRow G Ls A s p, 0 ≤ y ∧ y < (G.terms.toNat : Int)) ∧ (placeRow G Ls A s p).Pairwise (· < ·) ∧ (placeRow G Ls A s p).length ≤ G.terms.toNat := by
  unfold placeRow rowAtI
  split
  · exact ⟨fun y h => (by cases h), List.Pairwise.nil, Nat.zero_le _⟩
  · exact ⟨fun y h => trueIx_in h, trueIx_ris _ _, trueIx_len _ _⟩
theorem outP_ok (G : Gram) (Ls : List (List It)) (A : Tabs) (s : Nat) {o : List Ah} (ho : OutOk s G.prods.length G.terms.toNat o) : ∀ n : Nat, n ≤ G.prods.length → (outP G Ls A s n o).Pairwise ltA ∧
    ∀ x ∈ outP G Ls A s n o, x ∈ o ∨ (x.1 = (s : Int) ∧ 1 ≤ x.2.1 ∧ x.2.1 < (n : Int) ∧ (∀ y ∈ x.2.2, 0 ≤ y ∧ y < (G.terms.toNat : Int)) ∧ x.2.2.Pairwise (· < ·) ∧ x.2.2.length ≤ G.terms.toNat)
  | 0, _ => ⟨ho.ris, fun x hx => .inl hx⟩
  | n + 1, hn => by
    obtain ⟨h1, h2⟩ := outP_ok G Ls A s ho n (by omega)
    obtain ⟨p1, p2, p3⟩ := placeRow_ok G Ls A s n
    rw [outP_succ]
    unfold outStep
    split
    · refine ⟨h1, fun x hx => (h2 x hx).imp id fun h => ⟨h.1, h.2.1, by have := h.2.2.1; omega, h.2.2.2⟩⟩
    · rename_i hne
      split
      · refine ⟨h1, fun x hx => (h2 x hx).imp id fun h => ⟨h.1, h.2.1, by have := h.2.2.1; omega, h.2.2.2⟩⟩
      · refine ⟨?_, fun x hx => ?_⟩
        · rw [List.pairwise_append]
          refine ⟨h1, List.pairwise_singleton _ _, fun a ha b hb => ?_⟩
          rw [List.mem_singleton.1 hb]
          rcases h2 a ha with h | h
          · exact .inl (ho.all a h).2.1
          · exact .inr ⟨h.1, h.2.2.1⟩
        · rcases List.mem_append.1 hx with hx | hx
          · exact (h2 x hx).imp id fun h => ⟨h.1, h.2.1, by have := h.2.2.1; omega, h.2.2.2⟩
          · rw [List.mem_singleton.1 hx]
            exact .inr ⟨rfl, by show (1 : Int) ≤ (n : Int); omega, by show (n : Int) < _; omega, p1, p2, p3⟩
theorem outA_ok (G : Gram) (Ls : List (List It)) (A : Tabs) : ∀ n : Nat, OutOk n G.prods.length G.terms.toNat (outA G Ls A n)
  | 0 => ⟨List.Pairwise.nil, fun x hx => by cases hx⟩
  | n + 1 => by
    have ih := outA_ok G Ls A n
    obtain ⟨h1, h2⟩ := outP_ok G Ls A n ih G.prods.length (Nat.le_refl _)
    rw [outA_succ]
    refine ⟨h1, fun x hx => ?_⟩
    rcases h2 x hx with h | ⟨q0, q1, q2, q3, q4, q5⟩
    · obtain ⟨q0, q1, q2, q3, q4⟩ := ih.all x h
      exact ⟨q0, by omega, q2, q3, q4⟩
    · exact ⟨by omega, by omega, q1, q2, q3, q4, q5⟩
theorem OutOk.good {n p t : Nat} {l : List Ah} (h : OutOk n p t l) : AhGood n p t l :=
  ⟨fun x hx => ⟨(h.all x hx).1, (h.all x hx).2.1⟩, fun x hx => ⟨(h.all x hx).2.2.1, (h.all x hx).2.2.2.1⟩, fun i hi => List.pairwise_iff_getElem.1 h.ris i (i + 1) (by omega) hi (by omega),
   fun x hx => (h.all x hx).2.2.2.2.1, fun x hx i hi => List.pairwise_iff_getElem.1 (h.all x hx).2.2.2.2.2.1 i (i + 1) (by omega) hi (by omega)⟩
/-- Aheads' memory reads as its lookaheads. -/
theorem aheadL_ok (G : Gram) (ks : List (List It)) (gs : List (List (Int × Int))) : OutOk ks.length G.prods.length G.terms.toNat (aheadL G ks gs) := outA_ok _ _ _ _
theorem ahead_reads {G : Gram} (hr : rightG G = true) {ks : List (List It)} {gs : List (List (Int × Int))} (hk : ks.length ≤ 256) {w : World} {B : Nat} {v : Value} {vs : List Value} (h : AhM w B v vs (aheadL G ks gs)) (hlen : (aheadL G ks gs).length ≤ 1000000) : IsAheads w v (aheadL G ks gs) := by
  have hg := (rightG_parts hr).1
  refine h.aheads (fun x hx => ?_) hlen
  obtain ⟨q0, q1, q2, q3, q4, -, q5⟩ := (aheadL_ok G ks gs).all x hx
  unfold i64
  exact ⟨by omega, by omega, fun y hy => by have := q4 y hy; omega, by omega⟩
end Go.Proofs.Ytpnihegmhalcfaa
namespace Go.Proofs.Ytpnihegmhalcfaa
open Go.RowKit
set_option maxHeartbeats 400000

/-- A table: what each state does, where it goes. -/
structure Tbl where
  acts : List (List Ac)
  gotos : List (List Int)
def ActRow (w : World) (b o : Nat) (l : List Ac) : Prop := ∃ r, w.cell? ⟨b, o, none⟩ = some r ∧ IsActs w r l
def NumRow (w : World) (b o : Nat) (l : List Int) : Prop := ∃ r, w.cell? ⟨b, o, none⟩ = some r ∧ Ints w r l
/-- A value that reads as a table. -/
def IsTbl (w : World) (v : Value) (T : Tbl) : Prop := ∃ a g, v = .agg #[a, g] ∧ Rows' a 1 (ActRow w) T.acts ∧ Rows' g 1 (NumRow w) T.gotos
theorem IsTbl.fr {w w' : World} {v : Value} {T : Tbl} (h : IsTbl w v T) (k : Fr nothing w w') : IsTbl w' v T := by
  obtain ⟨a, g, hv, h1, h2⟩ := h
  exact ⟨a, g, hv, Rows'.mono h1 fun _ _ _ ⟨r, h3, h4⟩ => ⟨r, k.cell h3 id, h4.fr k⟩, Rows'.mono h2 fun _ _ _ ⟨r, h3, h4⟩ => ⟨r, k.cell h3 id, h4.fr k⟩⟩

/-! What Make makes. -/
def entA (x : Ac) : Ent := ⟨x.kind, x.dst⟩
def actGo (G : Gram) (term : Nat) : Ac → List Ac → Ac
  | cur, [] => cur
  | cur, x :: r => if (pickE G (term : Int) (entA cur) (entA x)).1 = 2 then ⟨0, 0⟩ else if (pickE G (term : Int) (entA cur) (entA x)).1 = 1 then actGo G term x r else actGo G term cur r
def actOf (G : Gram) (term : Nat) : List Ac → Ac
  | [] => ⟨0, 0⟩
  | x :: r => actGo G term x r
def actRow (G : Gram) (K : List It) (E : List (Int × Int)) (i : Nat) (l : List Ah) : List Ac := (List.range G.terms.toNat).map fun term => actOf G term (mayL K E i term l)
def gotoRow (G : Gram) (E : List (Int × Int)) : List Int := (List.range (G.syms.length - G.terms.toNat)).map fun j => toE (-1) ((G.terms.toNat + j : Nat) : Int) E
def makeT (G : Gram) (ks : List (List It)) (gs : List (List (Int × Int))) (l : List Ah) (n : Nat) : Tbl :=
  ⟨(List.range n).map fun i => actRow G (ks.getD i []) (gs.getD i []) i l, (List.range n).map fun i => gotoRow G (gs.getD i [])⟩

/-! Entries of a list of its own. -/
theorem ac_len (l : List Ac) : (l.flatMap acCells).length = l.length * 2 := by
  induction l with
  | nil => rfl
  | cons x l ih => rw [List.flatMap_cons, List.length_append, ih, List.length_cons]; simp [acCells]; omega
theorem ac_at {l : List Ac} {i : Nat} (hi : i < l.length) (j : Nat) (hj : j < 2) : (l.flatMap acCells)[i * 2 + j]? = (acCells l[i])[j]? := flat_get acCells 2 (fun _ => rfl) l i j hi hj
theorem OwnAc.cell {w : World} {B g n c : Nat} {l : List Ac} (h : OwnAc w B (.slice (some ⟨g, 0, none⟩) n c) l) (i : Nat) (hi : i < l.length) : w.cell? ⟨g, i * 2, none⟩ = some (.int .u8 l[i].kind) ∧ w.cell? ⟨g, i * 2 + 1, none⟩ = some (.int .i64 l[i].dst) := by
  obtain ⟨a, c', e, h1, h2, h3⟩ := own_as_cells2 h
  simp only [Value.slice.injEq] at e
  obtain ⟨rfl, rfl, rfl⟩ := e
  have hne : l.flatMap acCells ≠ [] := fun e => by
    have := ac_len l
    rw [e] at this
    simp at this
    omega
  rcases h3 with h3 | ⟨g', e', -, hc⟩
  · exact absurd h3 hne
  · simp only [Option.some.injEq, Addr.mk.injEq, and_true] at e'
    subst e'
    have key : ∀ j, j < 2 → w.cell? ⟨g, i * 2 + j, none⟩ = (acCells l[i])[j]? := fun j hj => by
      have hlt : i * 2 + j < (l.flatMap acCells).length := by rw [ac_len]; omega
      have h5 := hc (i * 2 + j) hlt
      have h6 := ac_at hi j hj
      rw [List.getElem?_eq_getElem hlt] at h6
      rw [Nat.zero_add] at h5
      rw [h5, h6]
    exact ⟨key 0 (by omega), key 1 (by omega)⟩
theorem ac_set (l : List Ac) (d : Nat) (x : Ac) : (((l.flatMap acCells).set (d * 2) (.int .u8 x.kind)).set (d * 2 + 1) (.int .i64 x.dst)) = (l.set d x).flatMap acCells := by
  refine List.ext_getElem? fun t => ?_
  by_cases ht : t < l.length * 2
  · have h1 : t / 2 < (l.set d x).length := by rw [List.length_set]; omega
    have h2 := ac_at h1 (t % 2) (by omega)
    have e : t / 2 * 2 + t % 2 = t := by omega
    rw [e] at h2
    rw [h2, List.getElem_set]
    have h3 := ac_at (l := l) (i := t / 2) (by omega) (t % 2) (by omega)
    rw [e] at h3
    by_cases e1 : d = t / 2
    · rw [if_pos e1]
      rcases Nat.lt_or_ge (t % 2) 1 with h | h
      · have e2 : t = d * 2 := by omega
        rw [List.getElem?_set_ne (by omega), e2, List.getElem?_set_self (by rw [ac_len]; omega), show d * 2 % 2 = 0 by omega]
        rfl
      · have e2 : t = d * 2 + 1 := by omega
        rw [e2, List.getElem?_set_self (by rw [List.length_set, ac_len]; omega), show (d * 2 + 1) % 2 = 1 by omega]
        rfl
    · rw [if_neg e1, List.getElem?_set_ne (by omega), List.getElem?_set_ne (by omega), h3]
  · rw [List.getElem?_eq_none (by rw [List.length_set, List.length_set, ac_len]; omega), List.getElem?_eq_none (by rw [ac_len, List.length_set]; omega)]
theorem OwnAc.store {w : World} {B g n c d : Nat} {l : List Ac} (h : OwnAc w B (.slice (some ⟨g, 0, none⟩) n c) l) (hn : l.length = n) (x : Ac) :
    OwnAc ((w.setCell ⟨g, d * 2, none⟩ (.int .u8 x.kind)).setCell ⟨g, d * 2 + 1, none⟩ (.int .i64 x.dst)) B (.slice (some ⟨g, 0, none⟩) n c) (l.set d x) := by
  unfold OwnAc at h ⊢
  subst hn
  rw [List.length_set, ← ac_set l d x]
  exact ((World.ownsRow.stored h (d * 2) _).1.stored (d * 2 + 1) _).1
theorem OwnAc.frozen {w : World} {B g n c : Nat} {l : List Ac} (h : OwnAc w B (.slice (some ⟨g, 0, none⟩) n c) l) (j : Nat) : w.frozen? ⟨g, j, none⟩ = false := by
  obtain ⟨_, cs, hc⟩ := ownObj h g rfl
  simp [World.frozen?, hc]
theorem OwnAc.acts {w : World} {B : Nat} {v : Value} {l : List Ac} (h : OwnAc w B v l) (hi : ∀ x ∈ l, (0 ≤ x.kind ∧ x.kind < 256) ∧ i64 x.dst) (hl : l.length ≤ 17592186044416) : IsActs w v l := by
  obtain ⟨a, c, rfl, h1, h2, h3⟩ := own_as_cells2 h
  refine ⟨hl, a, c, rfl, h1, h2, ?_⟩
  rcases h3 with h3 | ⟨g, rfl, _, hc⟩
  · left
    cases l with
    | nil => rfl
    | cons x l => simp [acCells] at h3
  · refine .inr ⟨g, 0, rfl, fun i hi' => ⟨(hi _ (List.getElem_mem hi')).1, (hi _ (List.getElem_mem hi')).2, fun j hj => ?_⟩⟩
    have hj2 : j < 2 := by simpa [acCells] using hj
    have hlt : i * 2 + j < (l.flatMap acCells).length := by rw [ac_len]; omega
    have h5 := hc (i * 2 + j) hlt
    have h6 := ac_at hi' j hj2
    rw [List.getElem?_eq_getElem hlt, List.getElem?_eq_getElem hj] at h6
    simp only [Nat.zero_add, Option.some.injEq] at h5 h6 ⊢
    rw [h5, h6]
/-- What make lays. -/
theorem made_acs {w : World} {B g n : Nat} (h : w.ownsRow B 81 2 (.slice (some ⟨g, 0, none⟩) n n) n (madeCells (Value.agg #[.int .u8 0, .int .i64 0]).cells (n * 2)).toList) : OwnAc w B (.slice (some ⟨g, 0, none⟩) n n) (List.replicate n ⟨0, 0⟩) := by
  have e : (madeCells (Value.agg #[.int .u8 0, .int .i64 0]).cells (n * 2)).toList = (List.replicate n (⟨0, 0⟩ : Ac)).flatMap acCells := by
    refine List.ext_getElem? fun t => ?_
    by_cases ht : t < n * 2
    · have h1 : t / 2 < (List.replicate n (⟨0, 0⟩ : Ac)).length := by simp; omega
      have h2 := ac_at h1 (t % 2) (by omega)
      have e : t / 2 * 2 + t % 2 = t := by omega
      rw [e] at h2
      rw [h2]
      have h3 : (madeCells (Value.agg #[.int .u8 0, .int .i64 0]).cells (n * 2)).toList[t]? = some ((#[Value.int .u8 0, .int .i64 0] : Array Value)[t % 2]!) := by
        simp [madeCells, Value.cells, ht]
      rw [h3, List.getElem_replicate]
      rcases Nat.mod_two_eq_zero_or_one t with h | h
      · rw [h]; rfl
      · rw [h]; rfl
    · rw [List.getElem?_eq_none (by simp [size_madeCells]; omega), List.getElem?_eq_none (by rw [ac_len]; simp; omega)]
  unfold OwnAc
  rw [← e, List.length_replicate]
  exact h
end Go.Proofs.Ytpnihegmhalcfaa
namespace Go.Proofs.Ytpnihegmhalcfaa
open Go.RowKit
set_option maxHeartbeats 400000

def IntRow (w : World) (B : Nat) (v : Value) (l : List Int) : Prop := w.ownsRow B 3 1 v l.length (l.map (Value.int .i64))
structure TblM (w : World) (B tb : Nat) (av gv : Value) (aL gsv : List Value) (T : Tbl) : Prop where
  obj : w.heap[tb]? = some (.cells #[av, gv] 29 (0, 0))
  oa : w.ownsRow B 52 1 av aL.length aL
  og : w.ownsRow B 30 1 gv gsv.length gsv
  la : T.acts.length = aL.length
  lg : T.gotos.length = gsv.length
  ra : ∀ i (h : i < aL.length), OwnAc w B aL[i] (T.acts.getD i [])
  rg : ∀ i (h : i < gsv.length), IntRow w B gsv[i] (T.gotos.getD i [])
/-- Blocks that hold clashes at a world. -/
def isClash (w : World) : Nat → Prop := fun b => ∃ cs f, w.heap[b]? = some (.cells cs 129 f)
theorem own_noClash {w : World} {B e size n : Nat} {v : Value} {xs : List Value} (h : w.ownsRow B e size v n xs) (he : e ≠ 129) : ∀ g, v.ownBlock = some g → ¬ isClash w g := fun g hg ⟨cs, f, hc⟩ => by
  obtain ⟨_, cs', hc'⟩ := ownObj h g hg
  rw [hc] at hc'
  simp only [Option.some.injEq, Obj.cells.injEq] at hc'
  exact he hc'.2.1.symm
theorem obj_noClash {w : World} {b : Nat} {cs : Array Value} {e : TypeId} {f : Nat × Nat} (h : w.heap[b]? = some (.cells cs e f)) (he : e ≠ 129) : ¬ isClash w b := fun ⟨cs', f', hc⟩ => by
  rw [h] at hc
  simp only [Option.some.injEq, Obj.cells.injEq] at hc
  exact he hc.2.1
theorem TblM.fr {w w' : World} {B tb : Nat} {av gv : Value} {aL gsv : List Value} {T : Tbl} (h : TblM w B tb av gv aL gsv T) (k : Fr (isClash w) w w') : TblM w' B tb av gv aL gsv T :=
  ⟨k.obj h.obj (obj_noClash h.obj (by decide)), own_fr h.oa k (own_noClash h.oa (by decide)), own_fr h.og k (own_noClash h.og (by decide)), h.la, h.lg, fun i hi => own_fr (h.ra i hi) k (own_noClash (h.ra i hi) (by decide)), fun i hi => own_fr (h.rg i hi) k (own_noClash (h.rg i hi) (by decide))⟩
theorem TblM.keep {w w' : World} {B tb : Nat} {av gv : Value} {aL gsv : List Value} {T : Tbl} (h : TblM w B tb av gv aL gsv T) (k : Fr nothing w w') : TblM w' B tb av gv aL gsv T := h.fr k.wide
theorem getD_snoc {α : Type} {l : List α} {x d : α} {i n : Nat} (hn : l.length = n) (hi : i < n + 1) : (l ++ [x]).getD i d = if i < n then l.getD i d else x := by
  subst hn
  by_cases e : i < l.length
  · rw [if_pos e, List.getD_eq_getElem?_getD, List.getElem?_append_left e, ← List.getD_eq_getElem?_getD]
  · have : i = l.length := by omega
    subst this
    rw [if_neg e, List.getD_eq_getElem?_getD, List.getElem?_concat_length]
    rfl
/-- A row of entries has been appended. -/
theorem TblM.snocA {w w1 : World} {B tb : Nat} {av gv av' rv : Value} {aL gsv : List Value} {T : Tbl} {r : List Ac} (h : TblM w B tb av gv aL gsv T) (hr : OwnAc w B rv r) (hown : w1.ownsRow B 52 1 av' (aL.length + 1) (aL ++ [rv])) (k : Fr (fun b => av.ownBlock = some b) w w1) :
    TblM (w1.setCell ⟨tb, 0, none⟩ av') B tb av' gv (aL ++ [rv]) gsv ⟨T.acts ++ [r], T.gotos⟩ := by
  have off : ∀ {B' e size n : Nat} {u : Value} {xs : List Value}, w.ownsRow B' e size u n xs → e ≠ 52 → w1.ownsRow B' e size u n xs := fun ho he => own_fr ho k fun g hg hc => by
    obtain ⟨_, cs, hcs⟩ := ownObj ho g hg
    exact own_ne h.oa hcs (Ne.symm he) hc
  have hob := k.obj h.obj fun hc => own_ne h.oa h.obj (by decide) hc
  have hs := Fr.setCell w1 ⟨tb, 0, none⟩ av'
  have off2 : ∀ {B' e size n : Nat} {u : Value} {xs : List Value}, w1.ownsRow B' e size u n xs → e ≠ 29 → (w1.setCell ⟨tb, 0, none⟩ av').ownsRow B' e size u n xs := fun ho he => own_fr ho hs fun g hg hc => by
    have e' : g = tb := hc
    subst e'
    exact own_ne ho hob he hg
  refine ⟨?_, off2 (by simpa using hown) (by decide), off2 (off h.og (by decide)) (by decide), by simp [h.la], h.lg, fun i hi => ?_, fun i hi => off2 (off (h.rg i hi) (by decide)) (by decide)⟩
  · have := setCell_obj hob (i := 0) av'
    simpa using this
  · simp only [List.length_append, List.length_singleton] at hi
    show OwnAc _ B _ ((T.acts ++ [r]).getD i [])
    rw [getD_snoc h.la hi]
    by_cases e : i < aL.length
    · rw [if_pos e, List.getElem_append_left e]
      exact off2 (off (h.ra i e) (by decide)) (by decide)
    · have : i = aL.length := by omega
      subst this
      rw [if_neg e, List.getElem_concat_length rfl]
      exact off2 (off hr (by decide)) (by decide)
/-- A row of numbers has been appended. -/
theorem TblM.snocG {w w1 : World} {B tb : Nat} {av gv gv' rv : Value} {aL gsv : List Value} {T : Tbl} {r : List Int} (h : TblM w B tb av gv aL gsv T) (hr : IntRow w B rv r) (hown : w1.ownsRow B 30 1 gv' (gsv.length + 1) (gsv ++ [rv])) (k : Fr (fun b => gv.ownBlock = some b) w w1) :
    TblM (w1.setCell ⟨tb, 1, none⟩ gv') B tb av gv' aL (gsv ++ [rv]) ⟨T.acts, T.gotos ++ [r]⟩ := by
  have off : ∀ {B' e size n : Nat} {u : Value} {xs : List Value}, w.ownsRow B' e size u n xs → e ≠ 30 → w1.ownsRow B' e size u n xs := fun ho he => own_fr ho k fun g hg hc => by
    obtain ⟨_, cs, hcs⟩ := ownObj ho g hg
    exact own_ne h.og hcs (Ne.symm he) hc
  have hob := k.obj h.obj fun hc => own_ne h.og h.obj (by decide) hc
  have hs := Fr.setCell w1 ⟨tb, 1, none⟩ gv'
  have off2 : ∀ {B' e size n : Nat} {u : Value} {xs : List Value}, w1.ownsRow B' e size u n xs → e ≠ 29 → (w1.setCell ⟨tb, 1, none⟩ gv').ownsRow B' e size u n xs := fun ho he => own_fr ho hs fun g hg hc => by
    have e' : g = tb := hc
    subst e'
    exact own_ne ho hob he hg
  refine ⟨?_, off2 (off h.oa (by decide)) (by decide), off2 (by simpa using hown) (by decide), h.la, by simp [h.lg], fun i hi => off2 (off (h.ra i hi) (by decide)) (by decide), fun i hi => ?_⟩
  · have := setCell_obj hob (i := 1) gv'
    simpa using this
  · simp only [List.length_append, List.length_singleton] at hi
    show IntRow _ B _ ((T.gotos ++ [r]).getD i [])
    rw [getD_snoc h.lg hi]
    by_cases e : i < gsv.length
    · rw [if_pos e, List.getElem_append_left e]
      exact off2 (off (h.rg i e) (by decide)) (by decide)
    · have : i = gsv.length := by omega
      subst this
      rw [if_neg e, List.getElem_concat_length rfl]
      exact off2 (off hr (by decide)) (by decide)
/-- What is made so reads aL the table. -/
theorem TblM.reads {w : World} {B tb : Nat} {av gv : Value} {aL gsv : List Value} {T : Tbl} (h : TblM w B tb av gv aL gsv T) (ha : ∀ r ∈ T.acts, r.length ≤ 1000000 ∧ ∀ x ∈ r, (0 ≤ x.kind ∧ x.kind < 256) ∧ i64 x.dst) (hg : ∀ r ∈ T.gotos, r.length ≤ 1000000 ∧ ∀ x ∈ r, -9223372036854775808 ≤ x ∧ x ≤ 9223372036854775807) (hl : aL.length ≤ 1000000 ∧ gsv.length ≤ 1000000) : IsTbl w (.agg #[av, gv]) T := by
  refine ⟨av, gv, rfl, ⟨by have := h.la; omega, ?_⟩, ⟨by have := h.lg; omega, ?_⟩⟩
  · obtain ⟨a, c, hv, h1, h2, h3⟩ := own_as_cells h.oa
    refine ⟨a, c, by rw [hv, h.la], by rw [h.la]; exact h1, h2, ?_⟩
    rcases h3 with h3 | ⟨g, rfl, -, hc⟩
    · left
      exact List.eq_nil_of_length_eq_zero (by rw [h.la, h3]; rfl)
    · refine .inr ⟨g, 0, rfl, fun i hi => ?_⟩
      have hi' : i < aL.length := by rw [← h.la]; exact hi
      have h4 := hc i hi'
      have h5 := h.ra i hi'
      rw [List.getD_eq_getElem?_getD, List.getElem?_eq_getElem hi] at h5
      have h6 := ha _ (List.getElem_mem hi)
      exact ⟨aL[i], by simpa using h4, OwnAc.acts h5 h6.2 (by have := h6.1; show T.acts[i].length ≤ _; omega)⟩
  · obtain ⟨a, c, hv, h1, h2, h3⟩ := own_as_cells h.og
    refine ⟨a, c, by rw [hv, h.lg], by rw [h.lg]; exact h1, h2, ?_⟩
    rcases h3 with h3 | ⟨g, rfl, -, hc⟩
    · left
      exact List.eq_nil_of_length_eq_zero (by rw [h.lg, h3]; rfl)
    · refine .inr ⟨g, 0, rfl, fun i hi => ?_⟩
      have hi' : i < gsv.length := by rw [← h.lg]; exact hi
      have h4 := hc i hi'
      have h5 := h.rg i hi'
      rw [List.getD_eq_getElem?_getD, List.getElem?_eq_getElem hi] at h5
      have h6 := hg _ (List.getElem_mem hi)
      exact ⟨gsv[i], by simpa using h4, own_ints h5 h6.2 (by have := h6.1; show T.gotos[i].length ≤ _; omega)⟩
/-- A row of entries, the first of them told. -/
def rowTo (n t : Nat) (f : Nat → Ac) : List Ac := (List.range n).map fun i => if i < t then f i else ⟨0, 0⟩
theorem rowTo_zero (n : Nat) (f : Nat → Ac) : rowTo n 0 f = List.replicate n ⟨0, 0⟩ := by
  refine List.ext_getElem (by simp [rowTo]) fun i h1 h2 => ?_
  simp [rowTo]
theorem rowTo_all (n : Nat) (f : Nat → Ac) : rowTo n n f = (List.range n).map f := by
  unfold rowTo
  refine List.map_congr_left fun i hi => ?_
  rw [if_pos (List.mem_range.1 hi)]
theorem rowTo_set {n t : Nat} (_ : t < n) (f : Nat → Ac) : (rowTo n t f).set t (f t) = rowTo n (t + 1) f := by
  refine List.ext_getElem (by simp [rowTo]) fun i h1 h2 => ?_
  rw [List.getElem_set]
  simp only [rowTo, List.getElem_map, List.getElem_range]
  by_cases e : t = i
  · subst e; simp
  · rw [if_neg e]
    by_cases e2 : i < t
    · rw [if_pos e2, if_pos (by omega)]
    · rw [if_neg e2, if_neg (by omega)]
theorem rowTo_same {n t : Nat} (_ : t < n) (f : Nat → Ac) : (rowTo n t f).set t ⟨0, 0⟩ = rowTo n t f := by
  refine List.ext_getElem (by simp [rowTo]) fun i h1 h2 => ?_
  rw [List.getElem_set]
  simp only [rowTo, List.getElem_map, List.getElem_range]
  by_cases e : t = i
  · subst e; simp
  · rw [if_neg e]
theorem rowTo_len (n t : Nat) (f : Nat → Ac) : (rowTo n t f).length = n := by simp [rowTo]
theorem TblM.low {ch : Nat → Prop} {w w' : World} {B tb : Nat} {av gv : Value} {aL gsv : List Value} {T : Tbl} (h : TblM w B tb av gv aL gsv T) (hB : B ≤ tb) (k : Fr ch w w') (hc : ∀ g, B ≤ g → ¬ ch g) : TblM w' B tb av gv aL gsv T :=
  ⟨k.obj h.obj (hc _ hB), own_fr h.oa k fun g hg => hc g (ownObj h.oa g hg).1, own_fr h.og k fun g hg => hc g (ownObj h.og g hg).1, h.la, h.lg, fun i hi => own_fr (h.ra i hi) k fun g hg => hc g (ownObj (h.ra i hi) g hg).1, fun i hi => own_fr (h.rg i hi) k fun g hg => hc g (ownObj (h.rg i hi) g hg).1⟩
def AcOk (x : Ac) : Prop := (0 ≤ x.kind ∧ x.kind < 256) ∧ i64 x.dst
theorem zero_ok : AcOk ⟨0, 0⟩ := ⟨⟨by show (0 : Int) ≤ 0; omega, by show (0 : Int) < 256; omega⟩, ⟨by show (-9223372036854775808 : Int) ≤ 0; omega, by show (0 : Int) ≤ 9223372036854775807; omega⟩⟩
theorem actGo_ok {G : Gram} {term : Nat} : ∀ (l : List Ac) (cur : Ac), AcOk cur → (∀ x ∈ l, AcOk x) → AcOk (actGo G term cur l)
  | [], _, h, _ => h
  | x :: r, cur, h, hl => by
    unfold actGo
    split
    · exact zero_ok
    · split
      · exact actGo_ok r x (hl x (.head _)) fun y hy => hl y (.tail _ hy)
      · exact actGo_ok r cur h fun y hy => hl y (.tail _ hy)
theorem actOf_ok {G : Gram} {term : Nat} {l : List Ac} (hl : ∀ x ∈ l, AcOk x) : AcOk (actOf G term l) := by
  cases l with
  | nil => exact zero_ok
  | cons x r => exact actGo_ok r x (hl x (.head _)) fun y hy => hl y (.tail _ hy)
theorem toE_i64 {z s : Int} (hz : i64 z) : ∀ {l : List (Int × Int)}, (∀ x ∈ l, i64 x.2) → i64 (toE z s l)
  | [], _ => hz
  | x :: l, h => by
    unfold toE
    split
    · exact h x (.head _)
    · exact toE_i64 hz fun y hy => h y (.tail _ hy)
theorem mayL_ok {K : List It} {E : List (Int × Int)} {i term : Nat} {l : List Ah} (hE : ∀ x ∈ E, i64 x.2) (hl : ∀ a ∈ l, i64 a.2.1) : ∀ x ∈ mayL K E i term l, AcOk x := fun x hx => by
  unfold mayL at hx
  rcases List.mem_append.1 hx with hx | hx
  · rcases List.mem_append.1 hx with hx | hx
    · unfold shfL at hx
      split at hx
      · rw [List.mem_singleton.1 hx]
        exact ⟨⟨by show (0 : Int) ≤ 1; omega, by show (1 : Int) < 256; omega⟩, toE_i64 (by unfold i64; omega) hE⟩
      · cases hx
    · unfold kerL at hx
      split at hx
      · obtain ⟨_, _, rfl⟩ := List.mem_map.1 hx
        exact ⟨⟨by show (0 : Int) ≤ 3; omega, by show (3 : Int) < 256; omega⟩, ⟨by show (-9223372036854775808 : Int) ≤ 0; omega, by show (0 : Int) ≤ 9223372036854775807; omega⟩⟩
      · cases hx
  · unfold ahdL at hx
    obtain ⟨a, ha, rfl⟩ := List.mem_map.1 hx
    exact ⟨⟨by show (0 : Int) ≤ 2; omega, by show (2 : Int) < 256; omega⟩, hl a (List.mem_filter.1 ha).1⟩
theorem Try.infoActs : (Try.prog.info? 52).map (fun i => (i.zero, i.size, i.bytes)) = some (some (.slice none 0 0), 1, 24) := by kernel_rfl
theorem Try.infoIntsR : (Try.prog.info? 30).map (fun i => (i.zero, i.size, i.bytes)) = some (some (.slice none 0 0), 1, 24) := by kernel_rfl
theorem Try.infoClash : (Try.prog.info? 129).map (fun i => (i.zero, i.size, i.bytes)) = some (some (.agg #[.int .i64 0, .int .i64 0, .int .u8 0, .int .i64 0, .int .u8 0, .int .i64 0, .int .i64 0, .bool false]), 8, 64) := by kernel_rfl
end Go.Proofs.Ytpnihegmhalcfaa
namespace Go.Proofs.Ytpnihegmhalcfaa
set_option maxHeartbeats 400000

/-- A row of trees: the first one's production, place, parts; what stands behind it. -/
inductive Fo where
  | nil : Fo
  | cons (p a : Int) (kids rest : Fo) : Fo
structure Tr where
  p : Int
  a : Int
  kids : Fo
def Fo.len : Fo → Nat
  | .nil => 0
  | .cons _ _ _ r => r.len + 1
def foOf : List Tr → Fo
  | [] => .nil
  | t :: r => .cons t.p t.a t.kids (foOf r)
theorem foOf_len : ∀ l : List Tr, (foOf l).len = l.length
  | [] => rfl
  | _ :: r => by simp [foOf, Fo.len, foOf_len r]
def noTr : Tr := ⟨0, 0, .nil⟩

/-- May an entry stand at a terminal? -/
def entryB (G : Gram) (n : Nat) (t : Int) (x : Ac) : Bool :=
  if x.kind = 0 then x.dst == 0 else if x.kind = 3 then x.dst == 0 else if x.kind = 1 then decide (0 < t) && (decide (0 ≤ x.dst) && decide (x.dst < (n : Int))) else if x.kind = 2 then decide (1 ≤ x.dst) && decide (x.dst < (G.prods.length : Int)) else false
def entsB (G : Gram) (n : Nat) : Nat → List Ac → Bool
  | _, [] => true
  | t, x :: r => entryB G n (t : Int) x && entsB G n (t + 1) r
def gotosB (n : Nat) (l : List Int) : Bool := l.all fun x => !(decide (x < -1) || decide ((n : Int) ≤ x))
def rowsB (G : Gram) (n : Nat) : List (List Ac) → List (List Int) → Bool
  | [], _ => true
  | _ :: _, [] => true
  | a :: r, g :: s => (decide ((a.length : Int) = G.terms) && decide ((g.length : Int) = (G.syms.length : Int) - G.terms) && gotosB n g && entsB G n 0 a) && rowsB G n r s
/-- Is a table right, for a grammar? -/
def rightT (G : Gram) (T : Tbl) : Bool := rightG G && decide (1 ≤ T.acts.length) && decide (T.acts.length ≤ 256) && decide (T.gotos.length = T.acts.length) && rowsB G T.acts.length T.acts T.gotos

theorem entsB_at {G : Gram} {n : Nat} : ∀ (l : List Ac) (t k : Nat) (hk : k < l.length), entsB G n t l = true → entryB G n ((t + k : Nat) : Int) l[k] = true
  | [], _, _, hk, _ => by simp at hk
  | x :: r, t, 0, _, h => by
    simp only [entsB, Bool.and_eq_true] at h
    exact h.1
  | x :: r, t, k + 1, hk, h => by
    simp only [entsB, Bool.and_eq_true] at h
    have := entsB_at r (t + 1) k (by simpa using hk) h.2
    rw [show t + (k + 1) = t + 1 + k by omega]
    simpa using this
theorem entsB_all {G : Gram} {n : Nat} : ∀ (l : List Ac) (t : Nat), (∀ k (hk : k < l.length), entryB G n ((t + k : Nat) : Int) l[k] = true) → entsB G n t l = true
  | [], _, _ => rfl
  | x :: r, t, h => by
    simp only [entsB, Bool.and_eq_true]
    refine ⟨by have h0 := h 0 (by simp); simp only [Nat.add_zero, List.getElem_cons_zero] at h0; exact h0, entsB_all r (t + 1) fun k hk => ?_⟩
    have := h (k + 1) (by simpa using hk)
    rw [show t + (k + 1) = t + 1 + k by omega] at this
    simpa using this
theorem entsB_off {G : Gram} {n : Nat} (l : List Ac) (t k : Nat) (hk : k < l.length) (h : entryB G n ((t + k : Nat) : Int) l[k] = false) : entsB G n t l = false := by
  cases e : entsB G n t l with
  | false => rfl
  | true => rw [entsB_at l t k hk e] at h; cases h
/-- One row of a table, whether it is right. -/
def rowB (G : Gram) (n : Nat) (a : List Ac) (g : List Int) : Bool := decide ((a.length : Int) = G.terms) && decide ((g.length : Int) = (G.syms.length : Int) - G.terms) && gotosB n g && entsB G n 0 a
theorem rowsB_at {G : Gram} {n : Nat} : ∀ (A : List (List Ac)) (S : List (List Int)) (k : Nat) (hk : k < A.length) (hs : k < S.length), rowsB G n A S = true → rowB G n A[k] S[k] = true
  | [], _, _, hk, _, _ => by simp at hk
  | _ :: _, [], _, _, hs, _ => by simp at hs
  | a :: r, g :: s, 0, _, _, h => by
    simp only [rowsB, Bool.and_eq_true] at h
    simp only [List.getElem_cons_zero, rowB, Bool.and_eq_true]
    exact h.1
  | a :: r, g :: s, k + 1, hk, hs, h => by
    simp only [rowsB, Bool.and_eq_true] at h
    simpa using rowsB_at r s k (by simpa using hk) (by simpa using hs) h.2
theorem rowsB_all {G : Gram} {n : Nat} : ∀ (A : List (List Ac)) (S : List (List Int)), (∀ k (hk : k < A.length) (hs : k < S.length), rowB G n A[k] S[k] = true) → rowsB G n A S = true
  | [], _, _ => by simp [rowsB]
  | _ :: _, [], _ => by simp [rowsB]
  | a :: r, g :: s, h => by
    simp only [rowsB, Bool.and_eq_true]
    refine ⟨?_, rowsB_all r s fun k hk hs => ?_⟩
    · have := h 0 (by simp) (by simp)
      simpa [rowB, Bool.and_eq_true] using this
    · have := h (k + 1) (by simpa using hk) (by simpa using hs)
      simpa using this
theorem rowsB_off {G : Gram} {n : Nat} (A : List (List Ac)) (S : List (List Int)) (k : Nat) (hk : k < A.length) (hs : k < S.length) (h : rowB G n A[k] S[k] = false) : rowsB G n A S = false := by
  cases e : rowsB G n A S with
  | false => rfl
  | true => rw [rowsB_at A S k hk hs e] at h; cases h

/-! The automaton. -/
structure Au where
  stack : List (Int × Tr)
  pos : Nat
  since : Nat
  prods : List Int
def startU : Au := ⟨[(0, noTr)], 0, 0, []⟩
def lastN (l : List (Int × Tr)) : Int := (l.getD (l.length - 1) (0, noTr)).1
def lastT (l : List (Int × Tr)) : Tr := (l.getD (l.length - 1) (0, noTr)).2
def nextT (G : Gram) (terms : List Int) (pos : Nat) : Option Int :=
  if pos < terms.length then (if 1 ≤ terms.getD pos 0 ∧ terms.getD pos 0 < G.terms then some (terms.getD pos 0) else none) else some 0
def entAt (T : Tbl) (s t : Int) : Ac := (T.acts.getD s.toNat []).getD t.toNat ⟨0, 0⟩
def gotoAt (T : Tbl) (s j : Int) : Int := (T.gotos.getD s.toNat []).getD j.toNat 0
def noPrd : Prd := ⟨0, [], 0, false, .empty, 0⟩
def prdAt (G : Gram) (k : Int) : Prd := G.prods.getD k.toNat noPrd
/-- One step: an end, or on. -/
def stepU (G : Gram) (T : Tbl) (terms : List Int) (st : Au) : Sum (Int × Au) Au :=
  match nextT G terms st.pos with
  | none => .inl (309, st)
  | some t =>
    if (entAt T (lastN st.stack) t).kind = 1 then .inr ⟨st.stack ++ [((entAt T (lastN st.stack) t).dst, ⟨-1, (st.pos : Int), .nil⟩)], st.pos + 1, 0, st.prods⟩
    else if (entAt T (lastN st.stack) t).kind = 2 then
      if 4096 < st.since + 1 then .inl (104, st)
      else if st.stack.length < (prdAt G (entAt T (lastN st.stack) t).dst).right.length + 1 then .inl (4, st)
      else if gotoAt T (lastN (st.stack.take (st.stack.length - (prdAt G (entAt T (lastN st.stack) t).dst).right.length))) ((prdAt G (entAt T (lastN st.stack) t).dst).left - G.terms) < 0 then .inl (4, st)
      else .inr ⟨st.stack.take (st.stack.length - (prdAt G (entAt T (lastN st.stack) t).dst).right.length) ++ [(gotoAt T (lastN (st.stack.take (st.stack.length - (prdAt G (entAt T (lastN st.stack) t).dst).right.length))) ((prdAt G (entAt T (lastN st.stack) t).dst).left - G.terms),
            ⟨(entAt T (lastN st.stack) t).dst, 0, foOf ((st.stack.drop (st.stack.length - (prdAt G (entAt T (lastN st.stack) t).dst).right.length)).map Prod.snd)⟩)], st.pos, st.since + 1, st.prods ++ [(entAt T (lastN st.stack) t).dst]⟩
    else if (entAt T (lastN st.stack) t).kind = 3 then (if st.stack.length = 1 then .inl (4, st) else .inl (0, st))
    else .inl (308, st)
def runU (G : Gram) (T : Tbl) (terms : List Int) : Nat → Au → Option (Int × Au)
  | 0, _ => none
  | k + 1, st => match stepU G T terms st with
    | .inl r => some r
    | .inr st' => runU G T terms k st'
/-- What it ends with. -/
def RunTo (G : Gram) (T : Tbl) (terms : List Int) (r : Int × Au) : Prop := if rightT G T = true then ∃ k, runU G T terms k startU = some r else r = (4, startU)
/-- A state that it comes to. -/
def Comes (G : Gram) (T : Tbl) (terms : List Int) (st : Au) : Prop := ∃ k, ∀ j, runU G T terms (k + j) startU = runU G T terms j st
theorem Comes.start {G : Gram} {T : Tbl} {terms : List Int} : Comes G T terms startU := ⟨0, fun j => by rw [Nat.zero_add]⟩
theorem Comes.next {G : Gram} {T : Tbl} {terms : List Int} {st st' : Au} (h : Comes G T terms st) (e : stepU G T terms st = .inr st') : Comes G T terms st' := by
  obtain ⟨k, hk⟩ := h
  refine ⟨k + 1, fun j => ?_⟩
  rw [show k + 1 + j = k + (j + 1) by omega, hk]
  show (match stepU G T terms st with | .inl r => some r | .inr st' => runU G T terms j st') = _
  rw [e]
theorem Comes.ends {G : Gram} {T : Tbl} {terms : List Int} {st : Au} {r : Int × Au} (h : Comes G T terms st) (hT : rightT G T = true) (e : stepU G T terms st = .inl r) : RunTo G T terms r := by
  obtain ⟨k, hk⟩ := h
  unfold RunTo
  rw [if_pos hT]
  refine ⟨k + 1, ?_⟩
  rw [hk 1]
  show (match stepU G T terms st with | .inl r => some r | .inr st' => runU G T terms 0 st') = _
  rw [e]
theorem runU_mono {G : Gram} {T : Tbl} {terms : List Int} : ∀ (k j : Nat) (st : Au) (r : Int × Au), runU G T terms k st = some r → runU G T terms (k + j) st = some r
  | 0, _, _, _, h => by simp [runU] at h
  | k + 1, j, st, r, h => by
    rw [show k + 1 + j = (k + j) + 1 by omega]
    unfold runU at h ⊢
    cases e : stepU G T terms st with
    | inl x => rw [e] at h; exact h
    | inr st' => rw [e] at h; exact runU_mono k j st' r h
theorem RunTo.one {G : Gram} {T : Tbl} {terms : List Int} {r r' : Int × Au} (h : RunTo G T terms r) (h' : RunTo G T terms r') : r = r' := by
  unfold RunTo at h h'
  split at h
  · rename_i hT
    rw [if_pos hT] at h'
    obtain ⟨k, hk⟩ := h
    obtain ⟨j, hj⟩ := h'
    have h1 := runU_mono k j _ _ hk
    have h2 := runU_mono j k _ _ hj
    rw [Nat.add_comm j k, h1] at h2
    exact Option.some.inj h2
  · rename_i hT
    rw [if_neg hT] at h'
    rw [h, h']

/-- What holds at each state that it comes to. -/
structure AuOk (G : Gram) (T : Tbl) (terms : List Int) (st : Au) : Prop where
  ne : 1 ≤ st.stack.length
  len : st.stack.length ≤ 1 + st.pos * 4098 + st.since
  prods : st.prods.length ≤ st.pos * 4098 + st.since
  since : st.since ≤ 4096
  pos : st.pos ≤ terms.length
  num : ∀ x ∈ st.stack, 0 ≤ x.1 ∧ x.1 < (T.acts.length : Int)
  prd : ∀ k ∈ st.prods, 1 ≤ k ∧ k < (G.prods.length : Int)
theorem lastN_mem {l : List (Int × Tr)} (h : 1 ≤ l.length) : ∃ x ∈ l, lastN l = x.1 ∧ lastT l = x.2 := by
  refine ⟨l[l.length - 1], List.getElem_mem _, ?_, ?_⟩
  · unfold lastN
    rw [List.getD_eq_getElem?_getD, List.getElem?_eq_getElem (by omega)]
    rfl
  · unfold lastT
    rw [List.getD_eq_getElem?_getD, List.getElem?_eq_getElem (by omega)]
    rfl
theorem nextT_range {G : Gram} {terms : List Int} {pos : Nat} {t : Int} (h0 : 1 ≤ G.terms) (h : nextT G terms pos = some t) : 0 ≤ t ∧ t < G.terms ∧ (pos < terms.length → 1 ≤ t ∧ t = terms.getD pos 0) ∧ (terms.length ≤ pos → t = 0) := by
  unfold nextT at h
  split at h
  · split at h
    · obtain rfl := Option.some.inj h
      exact ⟨by omega, by omega, fun _ => ⟨by omega, rfl⟩, fun h => by omega⟩
    · cases h
  · obtain rfl := Option.some.inj h
    exact ⟨by omega, by omega, fun h => by omega, fun _ => rfl⟩
end Go.Proofs.Ytpnihegmhalcfaa
