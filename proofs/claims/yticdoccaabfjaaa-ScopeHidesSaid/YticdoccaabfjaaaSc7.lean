/-
  Package scope: Declare: what it leaves.
-/
import Derived.Test.YticdoccaabfjaaaSc6
namespace Go.Proofs.Yticdoccaabfjaaa
open Go.RowKit Go.MapKept Go.ChangeMaps
set_option maxHeartbeats 400000

/-- 'm[k] = v', at the operation, by what the map holds. -/
theorem wpList_store_map {P : Program} (w : World) {ops : Array Oper} {rest : List Oper} {o : Oper} {a : Act} {Q : Exit → Act → World → Prop}
    (hg : o.guard = none) (m x v : Operand) (t : TypeId) (hop : o.op = Op.mapUpdate t m x v) (kt et : TypeId) (d : TypeDesc) (ht : P.underlying t = some (.map kt et)) (hd : P.underlying kt = some d)
    (b : Nat) (f f' : Value → Option Value) (hm : a.eval m = .map (some b)) (h : MapIs w d b f) (key val : Value) (hx : a.eval x = key) (hv : a.eval v = val) (hk : IsKey d key)
    (hf' : f' key = some val) (hother : ∀ k', IsKey d k' → k' ≠ key → f' k' = f k')
    (hK : ∀ w', MapIs w' d b f' → Fr (only b) w w' → wpList P ops Q rest (a.put o.dst undef) w') : wpList P ops Q (o :: rest) a w := by
  refine wpList_plain hg fun K' hK' => ?_
  obtain ⟨w', hrun, r1, r2⟩ := h.store ht hd hk val hf' hother
  unfold Oper.wp
  simp [execOp, hop, hm, hx, hv, hrun, Result.andThen]
  exact hK' _ _ (hK w' r1 r2)
theorem own_obj {w : World} {B e size n : Nat} {v : Value} {xs : List Value} (h : w.ownsRow B e size v n xs) : ∀ g, v.ownBlock = some g → ∃ cs, w.heap[g]? = some (.cells cs e (0, 0)) := fun g hg => by
  rcases h.2 with ⟨e, _⟩ | ⟨g', c, cur, e, _, hg', _⟩
  · rw [e] at hg; cases hg
  · rw [e] at hg
    simp only [Value.ownBlock, Option.some.injEq] at hg
    subst hg
    exact ⟨_, hg'⟩
theorem obj_ne {w : World} {a b : Nat} {cs cs' : Array Value} {t t' : TypeId} {f f' : Nat × Nat} (h : w.heap[a]? = some (.cells cs t f)) (h' : w.heap[b]? = some (.cells cs' t' f')) (hne : t ≠ t') : a ≠ b := fun e => by
  subst e
  rw [h] at h'
  simp only [Option.some.injEq, Obj.cells.injEq] at h'
  exact hne h'.2.1
theorem obj_ne_map {w : World} {a b c : Nat} {cs : Array Value} {t : TypeId} {f : Nat × Nat} {es : Array MapEntry} (h : w.heap[a]? = some (.cells cs t f)) (h' : w.heap[b]? = some (.map es c)) : a ≠ b := fun e => by
  subst e
  rw [h] at h'
  cases h'
theorem findTh_snoc (l : List Th) (x : Th) (s : ByteArray) : findTh (l ++ [x]) s = match findTh l s with | some y => some y | none => if x.nm.s = s then some x else none := by
  unfold findTh
  rw [List.find?_append]
  cases List.find? (fun x => decide (x.nm.s = s)) l with
  | some y => rfl
  | none =>
    by_cases h : x.nm.s = s <;> simp [h]
theorem findTh_none {l : List Th} {s : ByteArray} (h : findTh l s = none) : s ∉ l.map fun x => x.nm.s := fun hm => by
  obtain ⟨x, hx⟩ := findTh_of hm
  rw [h] at hx
  cases hx

/-- What turns where a name is declared. -/
def declCh (g : Nat) (b : MB) (k : Nat) : Prop := k = g ∨ b.nv.ownBlock = some k ∨ k = b.mb
theorem declare_fin {w w' : World} {F : Nat → Prop} {p : Nat} {L : List MB} {b : MB} (h : IsScope w F p (L ++ [b])) {g cap : Nat} {x : Th} {v' : Value} (hobj : w.heap[p]? = some (.cells #[.slice (some ⟨g, 0, none⟩) (L.length + 1) cap, .bool true] 28 (0, 0)))
    (hg : ∃ cs, w.heap[g]? = some (.cells cs 58 (0, 0))) (hgF : F g) (hfr : Fr (declCh g b) w w')
    (hown' : w'.ownsRow 0 9 1 v' (b.l.length + 1) (nameCells (b.l ++ [x]))) (hv' : ∀ k, v'.ownBlock = some k → b.nv.ownBlock = some k ∨ w.heap.size ≤ k)
    (hrow : w'.ownsRow 0 58 2 (.slice (some ⟨g, 0, none⟩) (L.length + 1) cap) (L.length + 1) (L.flatMap blkCells ++ [v', .map (some b.mb)]))
    (hmap : MapIs w' .string b.mb (blkMap (b.l ++ [x]))) (hx : ThingAt w' (Rng w.heap.size w'.heap.size) x) (hnew : findTh b.l x.nm.s = none) :
    IsScope w' (grow F w w') p (L ++ [⟨v', b.mb, b.l ++ [x]⟩]) ∧ Fr F w w' := by
  obtain ⟨csg, hgo⟩ := hg
  have hb : IsBlk w F b := h.blk b (by simp)
  obtain ⟨es, mc, hmo⟩ := hb.map.obj
  have hchF : ∀ k, declCh g b k → F k := fun k e => by
    rcases e with rfl | e | rfl
    · exact hgF
    · exact hb.own k e
    · exact hb.hF
  have hnoT : ∀ k, declCh g b k → ¬ TyB w k := fun k e => by
    rintro ⟨cs, hk⟩
    rcases e with rfl | e | rfl
    · exact obj_ne hk hgo (by decide) rfl
    · obtain ⟨cs', hk'⟩ := own_obj hb.names k e
      exact obj_ne hk hk' (by decide) rfl
    · exact obj_ne_map hk hmo rfl
  have hnoTh : ∀ y (k : Nat), ThingAt w F y → declCh g b y.pos → False := fun y k hy e => by
    obtain ⟨_, _, _, _, ho, _⟩ := hy
    rcases e with e | e | e
    · exact obj_ne ho hgo (by decide) e
    · obtain ⟨cs', hk'⟩ := own_obj hb.names _ e
      exact obj_ne ho hk' (by decide) rfl
    · exact obj_ne_map ho hmo e
  have hxF : w.heap.size ≤ x.pos ∧ x.pos < w'.heap.size := by
    obtain ⟨_, _, _, _, _, hh⟩ := hx
    exact hh
  have hoff := h.off
  rw [List.pairwise_append] at hoff
  have hposs := h.poss
  refine ⟨⟨⟨.slice (some ⟨g, 0, none⟩) (L.length + 1) cap, hfr.obj hobj ?_, by simpa [blkCells] using hrow, fun k hk => ?_⟩, .inl h.hF, fun c hc => ?_, ?_, ?_⟩, hfr.mono fun k _ e => hchF k e⟩
  · rintro (e | e | e)
    · exact obj_ne hobj hgo (by decide) e
    · obtain ⟨cs', hk'⟩ := own_obj hb.names _ e
      exact obj_ne hobj hk' (by decide) rfl
    · exact obj_ne_map hobj hmo e
  · simp only [Value.ownBlock, Option.some.injEq] at hk
    subst hk
    exact .inl hgF
  · rcases List.mem_append.1 hc with hc | hc
    · have hcb := h.blk c (List.mem_append_left _ hc)
      have hof := hoff.2.2 c hc b (by simp)
      refine hcb.frG hfr (fun k e => ?_) (fun e => ?_) (fun y hy e => hnoTh y y.pos (hcb.things y hy) e) hnoT fun k hk => .inl hk
      · rcases e with rfl | e | rfl
        · exact own_ne hcb.names hgo (by decide)
        · exact fun e2 => hof.2 k e2 e
        · intro e2
          obtain ⟨cs', hk'⟩ := own_obj hcb.names _ e2
          exact obj_ne_map hk' hmo rfl
      · obtain ⟨es', mc', hmo'⟩ := hcb.map.obj
        rcases e with e | e | e
        · exact obj_ne_map hgo hmo' e.symm
        · obtain ⟨cs', hk'⟩ := own_obj hb.names _ e
          exact obj_ne_map hk' hmo' rfl
        · exact hof.1 e
    · simp only [List.mem_singleton] at hc
      subst hc
      refine ⟨by simpa using hown', fun k hk => ?_, hmap, .inl hb.hF, fun y hy => ?_, ?_⟩
      · rcases hv' k hk with e | e
        · exact .inl (hb.own k e)
        · exact .inr ⟨e, (hown'.lt k hk).2⟩
      · rcases List.mem_append.1 hy with hy | hy
        · obtain ⟨v, S, q0, q1, q2, q3⟩ := hb.things y hy
          exact ⟨v, S, q0.frT hfr hnoT, fun k hk => .inl (q1 k hk), hfr.obj q2 (fun e => hnoTh y y.pos (hb.things y hy) e), .inl q3⟩
        · simp only [List.mem_singleton] at hy
          subst hy
          obtain ⟨v, S, q0, q1, q2, q3⟩ := hx
          exact ⟨v, S, q0, fun k hk => .inr (q1 k hk), q2, .inr q3⟩
      · rw [List.map_append, List.nodup_append]
        refine ⟨hb.nodup, by simp, fun a ha c hc e => ?_⟩
        simp only [List.map_cons, List.map_nil, List.mem_singleton] at hc
        subst hc
        subst e
        exact findTh_none hnew ha
  · rw [List.pairwise_append]
    refine ⟨hoff.1, by simp, fun c hc d hd => ?_⟩
    simp only [List.mem_singleton] at hd
    subst hd
    have hof := hoff.2.2 c hc b (by simp)
    refine ⟨hof.1, fun k hk e => ?_⟩
    rcases hv' k e with e2 | e2
    · exact hof.2 k hk e2
    · have := ((h.blk c (List.mem_append_left _ hc)).names.lt k hk).2
      omega
  · rw [List.flatMap_append, List.flatMap_singleton] at hposs ⊢
    simp only [List.map_append, List.map_cons, List.map_nil]
    rw [← List.append_assoc, List.nodup_append]
    refine ⟨hposs, by simp, fun a ha c hc e => ?_⟩
    simp only [List.mem_singleton] at hc
    subst hc
    subst e
    have hall : ∀ c ∈ L ++ [b], ∀ y ∈ c.l, y.pos < w.heap.size := fun c hc y hy => by
      obtain ⟨_, _, _, _, ho, _⟩ := (h.blk c hc).things y hy
      exact obj_lt ho
    rcases List.mem_append.1 ha with ha | ha
    · obtain ⟨c, hc, ha⟩ := List.mem_flatMap.1 ha
      obtain ⟨y, hy, e⟩ := List.mem_map.1 ha
      have := hall c (List.mem_append_left _ hc) y hy
      omega
    · obtain ⟨y, hy, e⟩ := List.mem_map.1 ha
      have := hall b (by simp) y hy
      omega
end Go.Proofs.Yticdoccaabfjaaa
