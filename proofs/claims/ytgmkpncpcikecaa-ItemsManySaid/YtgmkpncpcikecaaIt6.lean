/-
  Maps of numbers to lists of their own that grow; the productions of each symbol.
-/
import Derived.Test.YtgmkpncpcikecaaIt5
import Derived.Test.YtgmkpncpcikecaaAnyT
import Derived.BigQuiet
import Derived.Deep.AppendLies
namespace Go.Proofs.Ytgmkpncpcikecaa
open Go.RowKit Go.MapKept Go.ChangeMaps
set_option maxHeartbeats 400000

/-- 'm[k] = v', at the operation, by what the map holds. -/
theorem wpList_store_map {P : Program} (w : World) {ops : Array Oper} {rest : List Oper} {o : Oper} {a : Act} {Q : Exit → Act → World → Prop}
    (hg : o.guard = none) (m x v : Operand) (t : TypeId) (hop : o.op = Op.mapUpdate t m x v) (kt et : TypeId) (d : TypeDesc) (ht : P.underlying t = some (.map kt et)) (hd : P.underlying kt = some d)
    (b : Nat) (f f' : Value → Option Value) (hm : a.eval m = .map (some b)) (h : MapIs w d b f) (key val : Value) (hx : a.eval x = key) (hv : a.eval v = val) (hk : IsKey d key)
    (hf' : f' key = some val) (hother : ∀ k', IsKey d k' → k' ≠ key → f' k' = f k')
    (hK : ∀ w', MapIs w' d b f' → Fr (only b) w w' → wpList P ops Q rest (a.put o.dst undef) w') : wpList P ops Q (o :: rest) a w := by
  refine wpList_plain hg fun K' hK' => ?_
  obtain ⟨w', hrun, r1, r2⟩ := h.store ht hd hk val hf' hother
  unfold Oper.wp
  simp [execOp, hop, hm, hx, hv, hrun, Result.andThen]
  exact hK' _ _ (hK w' r1 r2)
/-- The same at one operation. -/
theorem wp_store_map {P : Program} (w : World) {o : Oper} {a : Act} {K : Act → World → Prop} {Q : Exit → Act → World → Prop}
    (m x v : Operand) (t : TypeId) (hop : o.op = Op.mapUpdate t m x v) (kt et : TypeId) (d : TypeDesc) (ht : P.underlying t = some (.map kt et)) (hd : P.underlying kt = some d)
    (b : Nat) (f f' : Value → Option Value) (hm : a.eval m = .map (some b)) (h : MapIs w d b f) (key val : Value) (hx : a.eval x = key) (hv : a.eval v = val) (hk : IsKey d key)
    (hf' : f' key = some val) (hother : ∀ k', IsKey d k' → k' ≠ key → f' k' = f k')
    (hK : ∀ w', MapIs w' d b f' → Fr (only b) w w' → K (a.put o.dst undef) w') : o.wp P a w K Q := by
  obtain ⟨w', hrun, r1, r2⟩ := h.store ht hd hk val hf' hother
  unfold Oper.wp
  simp [execOp, hop, hm, hx, hv, hrun, Result.andThen]
  exact hK w' r1 r2
theorem ownObj {w : World} {B e size n : Nat} {v : Value} {xs : List Value} (h : w.ownsRow B e size v n xs) : ∀ g, v.ownBlock = some g → B ≤ g ∧ ∃ cs, w.heap[g]? = some (.cells cs e (0, 0)) := fun g hg => by
  rcases h.2 with ⟨e, _⟩ | ⟨g', c, cur, e, hb, hg', _⟩
  · rw [e] at hg; cases hg
  · rw [e] at hg
    simp only [Value.ownBlock, Option.some.injEq] at hg
    subst hg
    exact ⟨hb, _, hg'⟩
theorem MapIs.obj {w : World} {d : TypeDesc} {b : Nat} {f : Value → Option Value} (h : MapIs w d b f) : ∃ es c, w.heap[b]? = some (.map es c) := by
  obtain ⟨es, c, h1, _⟩ := h
  exact ⟨es, c, h1⟩
/-- A map of numbers to lists of their own, no two in one block: L tells each list's length and cells. -/
structure GrpM (w : World) (B : Nat) (e : TypeId) (size m : Nat) (f : Value → Option Value) (L : Int → Nat × List Value) : Prop where
  map : MapIs w (.int .i64) m f
  hB : B ≤ m
  row : ∀ s, ((L s).1 = 0 ∧ (L s).2 = [] ∧ f (.int .i64 s) = none) ∨ (0 < (L s).1 ∧ ∃ v, f (.int .i64 s) = some v ∧ w.ownsRow B e size v (L s).1 (L s).2)
  apart : ∀ s s' v v' g, s ≠ s' → f (.int .i64 s) = some v → f (.int .i64 s') = some v' → v.ownBlock = some g → v'.ownBlock ≠ some g
theorem GrpM.own {w : World} {B : Nat} {e : TypeId} {size m : Nat} {f : Value → Option Value} {L : Int → Nat × List Value} (h : GrpM w B e size m f L) (s : Int) :
    w.ownsRow B e size ((f (.int .i64 s)).getD (.slice none 0 0)) (L s).1 (L s).2 := by
  rcases h.row s with ⟨h1, h2, h3⟩ | ⟨_, v, h2, h3⟩
  · rw [h3, h1, h2]
    exact World.ownsRow_nil _ _ _ _
  · rw [h2]
    exact h3
theorem GrpM.new (w : World) {B : Nat} (hB : B ≤ w.heap.size) (e : TypeId) (size : Nat) : GrpM (w.alloc (.map #[] 0)) B e size w.heap.size (fun _ => none) (fun _ => (0, [])) :=
  ⟨mapIs_new w _, hB, fun _ => .inl ⟨rfl, rfl, rfl⟩, fun _ _ _ _ _ _ h => by cases h⟩
theorem GrpM.fr {ch : Nat → Prop} {w w' : World} {B : Nat} {e : TypeId} {size m : Nat} {f : Value → Option Value} {L : Int → Nat × List Value} (h : GrpM w B e size m f L) (k : Fr ch w w') (hc : ∀ g, B ≤ g → ¬ ch g) : GrpM w' B e size m f L := by
  refine ⟨h.map.fr k (hc _ h.hB), h.hB, fun s => ?_, h.apart⟩
  rcases h.row s with h1 | ⟨h1, v, h2, h3⟩
  · exact .inl h1
  · refine .inr ⟨h1, v, h2, own_fr h3 k fun g hg => hc g (ownObj h3 g hg).1⟩
def updF (f : Value → Option Value) (s : Int) (v : Value) : Value → Option Value := fun k => match k with | .int .i64 t => if t = s then some v else f k | _ => f k
theorem updF_same (f : Value → Option Value) (s : Int) (v : Value) : updF f s v (.int .i64 s) = some v := by simp [updF]
theorem updF_other (f : Value → Option Value) (s : Int) (v : Value) {t : Int} (h : t ≠ s) : updF f s v (.int .i64 t) = f (.int .i64 t) := by simp [updF, h]
theorem updF_key (f : Value → Option Value) (s : Int) (v : Value) : ∀ k', IsKey (.int .i64) k' → k' ≠ .int .i64 s → updF f s v k' = f k' := fun k' hk hne => by
  unfold updF
  split
  · rename_i t
    split
    · rename_i e
      exact absurd (by rw [e]) hne
    · rfl
  · rfl
def updL (L : Int → Nat × List Value) (s : Int) (x : Nat × List Value) : Int → Nat × List Value := fun t => if t = s then x else L t
/-- A list that has grown in memory, stored at its key. -/
theorem GrpM.add {w w1 w2 : World} {B : Nat} {e : TypeId} {size m g cap n' : Nat} {f : Value → Option Value} {L : Int → Nat × List Value} {xs' : List Value} {s : Int} (h : GrpM w B e size m f L) (hn : 0 < n')
    (hown : w1.ownsRow B e size (.slice (some ⟨g, 0, none⟩) n' cap) n' xs') (hgrow : w.grownBy w1 ((f (.int .i64 s)).getD (.slice none 0 0)).ownBlock) (hat : ((f (.int .i64 s)).getD (.slice none 0 0)).ownBlock = some g ∨ w.heap.size ≤ g)
    (hm : MapIs w2 (.int .i64) m (updF f s (.slice (some ⟨g, 0, none⟩) n' cap))) (hF : Fr (only m) w1 w2) : GrpM w2 B e size m (updF f s (.slice (some ⟨g, 0, none⟩) n' cap)) (updL L s (n', xs')) := by
  have k1 := Fr.grown hgrow
  have hmo := h.map.obj
  have hm1 : ¬ ((f (.int .i64 s)).getD (.slice none 0 0)).ownBlock = some m := fun e => by
    obtain ⟨_, cs, hc⟩ := ownObj (h.own s) m e
    obtain ⟨es, c, hes⟩ := hmo
    rw [hc] at hes
    cases hes
  have hne : ∀ t v, t ≠ s → f (.int .i64 t) = some v → ∀ g', v.ownBlock = some g' → ((f (.int .i64 s)).getD (.slice none 0 0)).ownBlock ≠ some g' := fun t v ht hv g' hg' => by
    cases hs : f (.int .i64 s) with
    | none => simp [Value.ownBlock]
    | some u =>
      simp only [Option.getD_some]
      intro hu
      exact h.apart s t u v g' (fun e => ht e.symm) hs hv hu hg'
  have oldr : ∀ t, t ≠ s → ((L t).1 = 0 ∧ (L t).2 = [] ∧ f (.int .i64 t) = none) ∨ (0 < (L t).1 ∧ ∃ v, f (.int .i64 t) = some v ∧ w2.ownsRow B e size v (L t).1 (L t).2) := fun t ht => by
    rcases h.row t with h1 | ⟨h1, v, h2, h3⟩
    · exact .inl h1
    · refine .inr ⟨h1, v, h2, own_fr (own_fr h3 k1 fun g' hg' => hne t v ht h2 g' hg') hF fun g' hg' e => ?_⟩
      have e' : g' = m := e
      subst e'
      obtain ⟨_, cs, hc⟩ := ownObj h3 _ hg'
      obtain ⟨es, c, hes⟩ := hmo
      rw [hc] at hes
      cases hes
  have hlt : ∀ t v, f (.int .i64 t) = some v → ∀ g', v.ownBlock = some g' → g' < w.heap.size := fun t v hv g' hg' => by
    rcases h.row t with ⟨_, _, h1⟩ | ⟨_, u, h2, h3⟩
    · rw [h1] at hv; cases hv
    · rw [h2] at hv
      cases hv
      obtain ⟨_, cs, hc⟩ := ownObj h3 g' hg'
      exact (Array.getElem?_eq_some_iff.1 hc).1
  have hgne : ∀ t v, t ≠ s → f (.int .i64 t) = some v → v.ownBlock ≠ some g := fun t v ht hv hg => by
    rcases hat with e | e
    · exact hne t v ht hv g hg e
    · have := hlt t v hv g hg
      omega
  refine ⟨hm, h.hB, fun t => ?_, fun t t' v v' g' htt hv hv' hg' => ?_⟩
  · by_cases e : t = s
    · subst e
      refine .inr ?_
      simp only [updL, if_true]
      refine ⟨hn, _, updF_same _ _ _, own_fr hown hF fun g' hg' e => ?_⟩
      have e' : g' = m := e
      subst e'
      simp only [Value.ownBlock, Option.some.injEq] at hg'
      subst hg'
      rcases hat with e | e
      · exact hm1 e
      · obtain ⟨es, c, hes⟩ := hmo
        have := (Array.getElem?_eq_some_iff.1 hes).1
        omega
    · simp only [updL, if_neg e, updF_other _ _ _ e]
      exact oldr t e
  · by_cases e : t = s
    · subst e
      rw [updF_same] at hv
      cases hv
      rw [updF_other _ _ _ (fun e => htt e.symm)] at hv'
      simp only [Value.ownBlock, Option.some.injEq] at hg'
      subst hg'
      exact hgne t' v' (fun e => htt e.symm) hv'
    · rw [updF_other _ _ _ e] at hv
      by_cases e' : t' = s
      · subst e'
        rw [updF_same] at hv'
        cases hv'
        simp only [Value.ownBlock, ne_eq, Option.some.injEq]
        intro hgg
        subst hgg
        exact hgne t v e hv hg'
      · rw [updF_other _ _ _ e'] at hv'
        exact h.apart t t' v v' g' htt hv hv' hg'
/-- The first k productions of a symbol, by their numbers. -/
def ownN (G : Gram) (k : Nat) (s : Int) : List Nat := (List.range k).filter fun p => decide ((G.prods[p]?.map (·.left)).getD (-1) = s)
theorem ownN_succ (G : Gram) {k : Nat} (hk : k < G.prods.length) (s : Int) : ownN G (k + 1) s = if G.prods[k].left = s then ownN G k s ++ [k] else ownN G k s := by
  unfold ownN
  rw [List.range_succ, List.filter_append, List.filter_cons, List.getElem?_eq_getElem hk]
  simp only [Option.map_some, Option.getD_some, decide_eq_true_eq, List.filter_nil]
  split
  · rfl
  · simp
def ownL (G : Gram) (k : Nat) (s : Int) : Nat × List Value := ((ownN G k s).length, (ownN G k s).map fun p : Nat => Value.int .i64 (p : Int))
theorem ownL_succ (G : Gram) {k : Nat} (hk : k < G.prods.length) : ownL G (k + 1) = updL (ownL G k) G.prods[k].left ((ownL G k G.prods[k].left).1 + 1, (ownL G k G.prods[k].left).2 ++ [.int .i64 (k : Int)]) := by
  funext s
  unfold ownL updL
  rw [ownN_succ G hk s]
  by_cases e : s = G.prods[k].left
  · subst e
    simp
  · rw [if_neg e, if_neg fun h => e h.symm]
theorem ownN_len (G : Gram) (k : Nat) (s : Int) : (ownN G k s).length ≤ k := by
  unfold ownN
  have := List.length_filter_le (fun p => decide ((G.prods[p]?.map (·.left)).getD (-1) = s)) (List.range k)
  rwa [List.length_range] at this
end Go.Proofs.Ytgmkpncpcikecaa
