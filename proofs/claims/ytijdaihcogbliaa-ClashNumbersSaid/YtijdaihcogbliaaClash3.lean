/-
  Package clash: may entries meet?
-/
import Derived.Test.YtijdaihcogbliaaClash1
import Derived.Test.YtijdaihcogbliaaMap2
import Derived.Test.YtijdaihcogbliaaSym3
namespace Go.Proofs.Ytijdaihcogbliaa
open Go.RowKit Go.MapKept Go.ChangeMaps
set_option maxHeartbeats 400000

/-- 'm[k] = v', at the operation, by what the map holds. -/
theorem wpList_store_map {P : Program} (w : World) {ops : Array Oper} {rest : List Oper} {o : Oper} {a : Act} {Q : Exit → Act → World → Prop}
    (hg : o.guard = none) (m x v : Operand) (t : TypeId) (hop : o.op = Op.mapUpdate t m x v) (kt et : TypeId) (d : TypeDesc) (ht : P.underlying t = some (.map kt et)) (hd : P.underlying kt = some d)
    (b : Nat) (f f' : Value → Option Value) (hm : a.eval m = .map (some b)) (h : MapIs w d b f) (key val : Value) (hx : a.eval x = key) (hv : a.eval v = val) (hk : IsKey d key)
    (hf' : f' key = some val) (hother : ∀ k', IsKey d k' → k' ≠ key → f' k' = f k')
    (hK : ∀ w', MapIs w' d b f' → Fr (only b) w w' → wpList P ops Q rest (a.put o.dst undef) w') : wpList P ops Q (o :: rest) a w := by
  refine wpList_plain hg fun K' hK' => ?_
  obtain ⟨w', hrun, r1, r2⟩ := h.store ht hd hk val hf' hother
  unfold Oper.wp
  simp [execOp, hop, hm, hx, hv, hrun, Result.andThen]
  exact hK' _ _ (hK w' r1 r2)

/-- How many entries are of a kind; a map of these numbers. -/
def cntK (l : List Ent) (n : Int) : Nat := (l.filter fun e => decide (e.kind = n)).length
def cntF (l : List Ent) : Value → Option Value
  | .int _ n => if cntK l n = 0 then none else some (.int .i64 (cntK l n))
  | _ => none
theorem cntK_le (l : List Ent) (n : Int) : cntK l n ≤ l.length := List.length_filter_le _ _
theorem cntK_add (l : List Ent) (e : Ent) (n : Int) : cntK (l ++ [e]) n = cntK l n + if e.kind = n then 1 else 0 := by
  simp only [cntK, List.filter_append, List.length_append]
  by_cases h : e.kind = n <;> simp [h]
theorem cntF_same (l : List Ent) (e : Ent) : cntF (l ++ [e]) (.int .u8 e.kind) = some (.int .i64 (cntK l e.kind + 1 : Nat)) := by
  simp [cntF, cntK_add]
theorem cntF_other (l : List Ent) (e : Ent) (k : Value) (h : IsKey (.int .u8) k) (hne : k ≠ .int .u8 e.kind) : cntF (l ++ [e]) k = cntF l k := by
  unfold IsKey at h
  split at h <;> try trivial
  rename_i k1 k2 n heq
  cases heq
  subst h
  have : ¬ e.kind = n := fun h => hne (by rw [h])
  simp [cntF, cntK_add, this]
theorem cntF_get (l : List Ent) (n : Int) (k : IntKind) : (cntF l (.int k n)).getD (.int .i64 0) = .int .i64 (cntK l n) := by
  unfold cntF
  simp only
  split
  · rename_i h
    simp [h]
  · rfl

/-- May an entry meet another? -/
def okE (np : Nat) (term : Int) (a : Ent) : Bool :=
  (decide (a.kind = 2) && (decide (1 ≤ a.to) && decide (a.to < (np : Int)))) || ((decide (a.kind = 3) && (decide (a.to = 0) && decide (term = 0))) || (decide (a.kind = 1) && (decide (0 ≤ a.to) && decide (0 < term))))
def mayE (np : Nat) (term : Int) (l : List Ent) : Bool := l.all (okE np term) && decide (1 ≤ cntK l 2)
def EntAt (w : World) (b o : Nat) (e : Ent) : Prop := EntOk e ∧ Cells w b o [.int .u8 e.kind, .int .i64 e.to]
def IsEnts (w : World) (v : Value) (l : List Ent) : Prop := Rows' v 2 (EntAt w) l
theorem EntAt.fr {w w' : World} {b o : Nat} {s : Ent} (h : EntAt w b o s) (k : Fr nothing w w') : EntAt w' b o s := ⟨h.1, h.2.fr k fun e => e⟩
theorem IsEnts.fr {w w' : World} {v : Value} {l : List Ent} (h : IsEnts w v l) (k : Fr nothing w w') : IsEnts w' v l := Rows'.mono h fun _ _ _ h => h.fr k

theorem mayE_false (np : Nat) (term : Int) (l : List Ent) (k : Nat) (h : k < l.length) (hf : okE np term l[k] = false) : mayE np term l = false := by
  have : l.all (okE np term) = false := by
    cases e : l.all (okE np term)
    · rfl
    · rw [List.all_eq_true] at e
      rw [e _ (List.getElem_mem h)] at hf
      cases hf
  simp [mayE, this]
theorem okE_iff (np : Nat) (term k t : Int) : okE np term ⟨k, t⟩ = true ↔ (k = 2 ∧ 1 ≤ t ∧ t < (np : Int)) ∨ (k = 3 ∧ t = 0 ∧ term = 0) ∨ (k = 1 ∧ 0 ≤ t ∧ 0 < term) := by
  simp [okE]
theorem okE_not (np : Nat) (term k t : Int) (h : ¬((k = 2 ∧ 1 ≤ t ∧ t < (np : Int)) ∨ (k = 3 ∧ t = 0 ∧ term = 0) ∨ (k = 1 ∧ 0 ≤ t ∧ 0 < term))) : okE np term ⟨k, t⟩ = false := by
  cases e : okE np term ⟨k, t⟩
  · rfl
  · exact absurd ((okE_iff _ _ _ _).1 e) h

set_option maxRecDepth 100000 in
set_option maxHeartbeats 2000000 in
theorem may_any (terms term : Int) (vs : Value) (b : Option Addr) (np cp : Nat) (v : Value) (l : List Ent) (w : World) (hl : IsEnts w v l) :
    Calls Try.prog 32 #[.agg #[.int .i64 terms, vs, .slice b np cp, .int .i64 term], v] w fun e w' => e = .returned (.bool (mayE np term l)) ∧ Below w.heap.size w w' := by
  obtain ⟨hlen, a, c, rfl, _, _, hx⟩ := hl
  have hmm := @run_makeMap Try.prog
  go_enter Try.func32, Try.ntmps32
  go_wp2
  clear hmm
  go_loopw [4, 7, 11] (fun _ _ i wr => ∃ k : Nat, k ≤ l.length ∧ i = .int .i64 k ∧ (l.take k).all (okE np term) = true ∧ wr.heap[w.heap.size]? = some (.cells #[.int .i64 terms, vs, .slice b np cp, .int .i64 term] 73 (0, 0)) ∧
      MapIs wr (.int .u8) (w.heap.size + 1) (cntF (l.take k)) ∧ Below w.heap.size w wr)
     (fun _ _ i _ => l.length - (intOf i).toNat)
  case atStart =>
    have h1 := two_boxes w (.cells #[.int .i64 terms, vs, .slice b np cp, .int .i64 term] 73 (0, 0)) (.map #[] 0)
    refine ⟨0, Nat.zero_le _, rfl, rfl, h1.1, ?_, h1.2.2⟩
    have h2 := mapIs_new (w.alloc (.cells #[.int .i64 terms, vs, .slice b np cp, .int .i64 term] 73 (0, 0))) (.int .u8)
    have h3 := h2.congr (f' := cntF []) (fun k hk => by cases k <;> simp [cntF, cntK])
    simpa using h3
  case round =>
    obtain ⟨k, hk, rfl, he, hob, hmap, hB⟩ := hrel
    have hc1 := obj_cell hob 2 rfl
    have hc3 := obj_cell hob 3 rfl
    have HOB := Lib.hid hob
    clear hob
    by_cases hlt : k < l.length
    · obtain ⟨b', o, rfl, hcx⟩ : ∃ b' o, a = some ⟨b', o, none⟩ ∧ ∀ i, (h : i < l.length) → EntAt w b' (o + i * 2) l[i] := by
        rcases hx with rfl | h
        · simp at hlt
        · exact h
      obtain ⟨hok, hcs⟩ := (hcx k hlt).fr (Fr.new hB)
      have tk : l.take (k + 1) = l.take k ++ [l[k]] := by rw [List.take_add_one, List.getElem?_eq_getElem hlt]; rfl
      have tf := mayE_false np term l k hlt
      have hcnt := cntK_le (l.take k) l[k].kind
      have hsame := cntF_same (l.take k) l[k]
      have hother := cntF_other (l.take k) l[k]
      simp only [List.length_take] at hcnt
      rw [← tk] at hsame hother
      generalize l[k] = s at *
      obtain ⟨kind, tov⟩ := s
      have s0 := hcs 0 (by simp)
      have s1 := hcs 1 (by simp)
      simp only [List.getElem_cons_zero, List.getElem_cons_succ, Nat.add_zero] at s0 s1
      have hlk := fun ob => (hmap.fr (Fr.alloc (ch := nothing) wr ob) fun e => e).look (P := Try.prog) (t := 109) (kt := 26) (et := 3) (k := .int .u8 kind) rfl rfl rfl (z := .int .i64 0) rfl false
      simp only [cntF_get, Bool.false_eq_true, if_false] at hlk
      have hcc2 : ∀ ob, (wr.alloc ob).cell? ⟨w.heap.size, 2, none⟩ = some (.slice b np cp) := fun ob => (Fr.alloc (ch := nothing) wr ob).cell hc1 fun e => e
      have hcc3 : ∀ ob, (wr.alloc ob).cell? ⟨w.heap.size, 3, none⟩ = some (.int .i64 term) := fun ob => (Fr.alloc (ch := nothing) wr ob).cell hc3 fun e => e
      have hlt0 := World.block_lt_of_cell? wr _ hc1
      simp only at hcnt hsame hother hlk
      generalize hcn : cntK (l.take k) kind = cn at *
      have hcnt' : cn ≤ 17592186044416 := by omega
      have x1 : IntKind.i64.wrap ((cn : Int) + 1) = (cn : Int) + 1 := IntWalk.i64_in _ (by omega)
      have HM := Lib.hid hmap
      have HT := Lib.hid (And.intro tk (And.intro tf he))
      have HS := Lib.hid (And.intro hsame hother)
      have HX := Lib.hid (And.intro hx hcx)
      have hB1 := Lib.hid hB
      have hcell : ∀ w2, Fr (only (w.heap.size + 1)) (wr.alloc (.cells #[.int .u8 kind, .int .i64 tov] 28 (0, 0))) w2 → w2.cell? ⟨wr.heap.size, 0, none⟩ = some (.int .u8 kind) ∧ w2.cell? ⟨wr.heap.size, 1, none⟩ = some (.int .i64 tov) ∧ w2.cell? ⟨w.heap.size, 2, none⟩ = some (.slice b np cp) ∧ w2.cell? ⟨w.heap.size, 3, none⟩ = some (.int .i64 term) := fun w2 hf => by
        have h1 := alloc_obj wr (.cells #[.int .u8 kind, .int .i64 tov] 28 (0, 0))
        have h2 := HM.out
        have h3 : w.heap.size + 1 < wr.heap.size := by
          obtain ⟨es, cl, h4, _⟩ := h2
          exact (Array.getElem?_eq_some_iff.1 h4).1
        have h5 := hf.obj h1 (fun e => by unfold only at e; omega)
        exact ⟨obj_cell h5 0 rfl, obj_cell h5 1 rfl, hf.cell (hcc2 _) (fun e => by unfold only at e; simp at e), hf.cell (hcc3 _) (fun e => by unfold only at e; simp at e)⟩
      clear hmap tk tf he hsame hother hx hcx hcs hB hc1 hc3 hlt0
      have hz : term = 0 ∨ (¬ term = 0 ∧ (term == 0) = false) := by
        by_cases h : term = 0
        · exact .inl h
        · exact .inr ⟨h, by simp [h]⟩
      rcases hz with rfl | ⟨hz1, hz2⟩
      all_goals go_wp2_with (at_mapUpdate; refine wpList_store_map _ rfl _ _ _ 109 rfl 26 3 (.int .u8) rfl rfl (w.heap.size + 1) _ _ rfl (HM.out.fr (Fr.alloc (ch := nothing) wr _) fun e => e) _ _ rfl rfl rfl HS.out.1 HS.out.2 ?_; intro w2 hm2 hf2; obtain ⟨z0, z1, z2, z3⟩ := hcell _ hf2; clear hlk hcc2 hcc3)
      all_goals clear s0 s1 z0 z1 z2 z3 x1 hcell hcnt hcnt' hlen
      all_goals first
        | (go_ret
           exact ⟨congrArg (fun t => Ending.returned (Value.bool t)) (HT.out.2.1 (okE_not _ _ _ _ (by omega))).symm, (hB1.out.alloc hB1.out.size _).trans (hf2.below (by have := hB1.out.size; simp; omega) (fun j e => by unfold only at e; omega))⟩)
        | skip
      all_goals go_roundw
      all_goals first
        | (simp [intOf]; omega)
        | (have hlt0 := World.block_lt_of_cell? wr _ (obj_cell HOB.out 0 rfl)
           refine ⟨k + 1, by omega, by simp, ?_, hf2.obj ((Fr.alloc (ch := nothing) wr _).obj HOB.out fun e => e) (fun e => by unfold only at e; omega), hm2, (hB1.out.alloc hB1.out.size _).trans (hf2.below (by have := hB1.out.size; simp; omega) (fun j e => by unfold only at e; omega))⟩
           rw [HT.out.1, List.all_append, HT.out.2.2, List.all_cons, (okE_iff _ _ _ _).2 (by omega)]
           rfl)
    · obtain rfl : k = l.length := by omega
      have hlk := hmap.look (P := Try.prog) (t := 109) (kt := 26) (et := 3) (k := .int .u8 2) rfl rfl rfl (z := .int .i64 0) rfl false
      simp only [cntF_get, Bool.false_eq_true, if_false, List.take_length] at hlk he
      have HE : mayE np term l = decide (1 ≤ (cntK l 2 : Int)) := by
        unfold mayE
        rw [he, Bool.true_and]
        exact decide_eq_decide.2 (by omega)
      have hcnt := cntK_le l 2
      generalize cntK l 2 = n at *
      have HH := Lib.hid HE
      clear he hlt hmap hx HE hc1 hc3
      go_wp2
      go_ret
      exact ⟨congrArg (fun t => Ending.returned (Value.bool t)) HH.out.symm, hB⟩
end Go.Proofs.Ytijdaihcogbliaa
