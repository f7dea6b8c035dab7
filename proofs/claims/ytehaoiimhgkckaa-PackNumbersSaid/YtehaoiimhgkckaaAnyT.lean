/-
  A region that draws its order, walked with its reads taken first: behind operation j the facts F j are to be shown anew; a read asks for facts R that follow from F j for those j alone that may come up while it is still to come (T). So a region's last stores may turn what it has read.
  A region that draws its order, by an invariant: one obligation for each operation (whenever those that it waits for have come up), however many orders there are.
-/
import Derived.Test.YtehaoiimhgkckaaBase
import Derived.Deep.RegionHeld
namespace Go.Proofs.Ytehaoiimhgkckaa
open Go.RowKit

section
variable {P : Program} {md : Region.Mode} {ops : Array Oper} {Q : Exit → Act → World → Prop} {F : Nat → World → Prop}
/-- Whatever order is drawn: behind operation j the facts F j hold. -/
def AnyT (P : Program) (md : Region.Mode) (ops : Array Oper) (Q : Exit → Act → World → Prop) (F : Nat → World → Prop) : Nat → Array Bool → Act → World → Prop
  | 0, listed, a, w => Region.ready md ops listed = [] ∧ Q .normal a w
  | n + 1, listed, a, w => (Region.ready md ops listed = [] → Q .normal a w) ∧
      ∀ j ∈ Region.ready md ops listed, wpOp P ops Q j (fun a' w' => F j w' ∧ AnyT P md ops Q F n (listed.setIfInBounds j true) a' w') a w
theorem anyT_any : ∀ (n : Nat) (listed : Array Bool) (a : Act) (w : World), AnyT P md ops Q F n listed a w → wpAny P md ops Q n listed a w
  | 0, _, _, _, h => h
  | n + 1, _, _, _, h => ⟨h.1, fun j hj => wpOp_mono (fun a' w' k => anyT_any n _ a' w' k.2) (h.2 j hj)⟩
/-- Operation j waits for operation i, itself or by others. -/
def waitsB (md : Region.Mode) (ops : Array Oper) : Nat → Nat → Nat → Bool
  | 0, _, _ => false
  | n + 1, j, i => match ops[j]? with
    | some o => o.after.toList.any fun e => Region.binds md e && (decide (e.on = i) || waitsB md ops n e.on i)
    | none => false
/-- What stands behind others is listed behind them. -/
def closedB (md : Region.Mode) (ops : Array Oper) (listed : Array Bool) : Bool :=
  (List.range ops.size).all fun j => !(listed[j]?.getD false) || (match ops[j]? with
    | some o => o.after.toList.all fun e => !Region.binds md e || listed[e.on]?.getD false
    | none => true)
theorem closed_spec {listed : Array Bool} : closedB md ops listed = true ↔ ∀ (j : Nat) (o : Oper), ops[j]? = some o → listed[j]?.getD false = true → ∀ e ∈ o.after, Region.binds md e = true → listed[e.on]?.getD false = true := by
  unfold closedB
  rw [List.all_eq_true]
  constructor
  · intro h j o hj hl e he hb
    have := h j (List.mem_range.2 (Array.getElem?_eq_some_iff.1 hj).1)
    rw [hj, hl] at this
    simp only [Bool.not_true, Bool.false_or, List.all_eq_true] at this
    have := this e (Array.mem_toList_iff.2 he)
    rw [hb] at this
    simpa using this
  · intro h j _
    cases hl : listed[j]?.getD false
    · simp
    · cases hj : ops[j]? with
      | none => simp
      | some o =>
        simp only [Bool.not_true, Bool.false_or, List.all_eq_true]
        intro e he
        cases hb : Region.binds md e
        · simp
        · simpa using h j o hj hl e (Array.mem_toList_iff.1 he) hb
theorem waits_not {listed : Array Bool} {i : Nat} (hc : closedB md ops listed = true) (hi : listed[i]?.getD false = false) :
    ∀ (n j : Nat), (∀ o, ops[j]? = some o → ∀ e ∈ o.after, Region.binds md e = true → listed[e.on]?.getD false = true) → waitsB md ops n j i = false
  | 0, _, _ => rfl
  | n + 1, j, h => by
    unfold waitsB
    cases hj : ops[j]? with
    | none => rfl
    | some o =>
      simp only
      rw [List.any_eq_false]
      intro e he
      cases hb : Region.binds md e
      · simp
      · have hl := h o hj e (Array.mem_toList_iff.1 he) hb
        have hne : e.on ≠ i := fun x => by rw [x, hi] at hl; cases hl
        have := waits_not hc hi n e.on fun o' ho' e' he' hb' => closed_spec.1 hc e.on o' ho' hl e' he' hb'
        simp [hne, this]
theorem up_step {listed : Array Bool} (j k : Nat) (hk : listed[k]?.getD false = true) : (listed.setIfInBounds j true)[k]?.getD false = true := by
  by_cases e : j = k
  · subst e
    cases hl : listed[j]? with
    | none => rw [hl] at hk; cases hk
    | some z =>
      rw [Array.getElem?_setIfInBounds_self_of_lt (Array.getElem?_eq_some_iff.1 hl).1]
      rfl
  · rw [Array.getElem?_setIfInBounds_ne e]
    exact hk
theorem closed_step {listed : Array Bool} {j : Nat} (hc : closedB md ops listed = true) (hj : j ∈ Region.ready md ops listed) : closedB md ops (listed.setIfInBounds j true) = true := by
  obtain ⟨hun, oj, hoj, hall⟩ := mem_ready.1 hj
  rw [closed_spec]
  intro k o hk hl e he hb
  by_cases ejk : j = k
  · subst ejk
    rw [hoj] at hk
    obtain rfl := Option.some.inj hk
    exact up_step _ _ (by simpa using hall e he hb)
  · rw [Array.getElem?_setIfInBounds_ne ejk] at hl
    exact up_step _ _ (closed_spec.1 hc k o hk hl e he hb)
theorem anyT_take {i : Nat} {oi : Oper} {v : Value} {R : World → Prop} (T : Nat → Bool) (hTF : ∀ j w, T j = true → F j w → R w) (hFi : ∀ w, R w → F i w) (hi : ops[i]? = some oi) (hs : Region.noSelect ops = true)
    (hQ : ∀ c a w, Q (.panic c) (a.put oi.dst v) w → Q (.panic c) a w) :
    ∀ (n : Nat) (listed : Array Bool) (a : Act) (w : World), ((List.range ops.size).all fun j => (listed[j]?.getD false) || T j || waitsB md ops ops.size j i) = true → closedB md ops listed = true →
      Region.free md ops listed i = true → (Region.ready md ops listed).contains i = true → YieldsIf P ops R oi v a → R w →
      AnyT P md ops Q F n (listed.setIfInBounds i true) (a.put oi.dst v) w → AnyT P md ops Q F (n + 1) listed a w := by
  have key : ∀ (n : Nat) (listed : Array Bool) (a : Act) (w : World), (∀ j < ops.size, listed[j]?.getD false = true ∨ T j = true ∨ waitsB md ops ops.size j i = true) → closedB md ops listed = true →
      (∀ j oj, ops[j]? = some oj → j ≠ i → listed.getD j true = false → (∀ e ∈ oj.after, Region.binds md e = true → e.on ≠ i) → oi.apart ops oj = true) →
      i ∈ Region.ready md ops listed → YieldsIf P ops R oi v a → R w → AnyT P md ops Q F n (listed.setIfInBounds i true) (a.put oi.dst v) w → AnyT P md ops Q F (n + 1) listed a w := by
    intro n
    induction n with
    | zero =>
      intro listed a w _ _ _ hr hy hS H
      refine ⟨fun h => absurd (h ▸ hr) (by simp), fun j hj => ?_⟩
      by_cases e : j = i
      · subst e
        exact hy.wpOp hi hS ⟨hFi w hS, H⟩
      · have := ready_mono hj e
        rw [H.1] at this
        cases this
    | succ n ih =>
      intro listed a w hT hc hfree hr hy hS H
      refine ⟨fun h => absurd (h ▸ hr) (by simp), fun j hj => ?_⟩
      by_cases e : j = i
      · subst e
        exact hy.wpOp hi hS ⟨hFi w hS, H⟩
      · obtain ⟨hun, oj, hoj, hall⟩ := mem_ready.1 hj
        have hnot : ∀ e ∈ oj.after, Region.binds md e = true → e.on ≠ i := fun ed he hb heq => by
          have k1 := (mem_ready.1 hr).1
          have k2 := hall ed he hb
          rw [heq] at k2
          cases hl : listed[i]? with
          | none => simp [hl] at k2
          | some z =>
            simp [hl] at k1 k2
            rw [k1] at k2
            cases k2
        have hTj : T j = true := by
          rcases hT j (Array.getElem?_eq_some_iff.1 hoj).1 with h2 | h2 | h2
          · exfalso
            cases hl : listed[j]? with
            | none => rw [hl] at h2; cases h2
            | some z =>
              simp [hl] at hun h2
              rw [hun] at h2
              cases h2
          · exact h2
          · have hun' : listed[i]?.getD false = false := by
              have k1 := (mem_ready.1 hr).1
              cases hl : listed[i]? with
              | none => rfl
              | some z => simpa [hl] using k1
            rw [waits_not hc hun' ops.size j fun o ho e he hb => by rw [hoj] at ho; obtain rfl := Option.some.inj ho; simpa using hall e he hb] at h2
            cases h2
        have hp := wpOp_putIf hoj (hfree j oj hoj e hun hnot) (fun cs b => Region.noSelect_spec hs i oi cs b hi) (fun cs b => Region.noSelect_spec hs j oj cs b hoj) hQ hy (H.2 j (ready_mono hj e))
        refine wpOp_mono (fun a' w' k => ⟨k.2.1, ih (listed.setIfInBounds j true) a' w' (fun m hm => (hT m hm).imp (up_step j m) id) (closed_step hc hj) (fun m om hm hmi hmu hmn => ?_) (ready_mono hr (Ne.symm e)) k.1 (hTF j w' hTj k.2.1) ?_⟩) hp
        · refine hfree m om hm hmi ?_ hmn
          by_cases ejm : j = m
          · subst ejm
            exact hun
          · rw [getD_set_ne true ejm] at hmu
            exact hmu
        · rw [Array.setIfInBounds_comm _ _ e]
          exact k.2.2
  intro n listed a w hT hc hf hr hy hS H
  refine key n listed a w (fun j hj => ?_) hc (Region.free_spec hi hf) (by simpa using hr) hy hS H
  have := List.all_eq_true.1 hT j (List.mem_range.2 hj)
  simp only [Bool.or_eq_true] at this
  rcases this with (h | h) | h
  · exact .inl h
  · exact .inr (.inl h)
  · exact .inr (.inr h)
theorem anyT_ready {rs : List Nat} {n : Nat} {listed : Array Bool} {a : Act} {w : World} (hr : Region.ready md ops listed = rs) (hne : rs ≠ [])
    (h : ∀ j ∈ rs, wpOp P ops Q j (fun a' w' => F j w' ∧ AnyT P md ops Q F n (listed.setIfInBounds j true) a' w') a w) : AnyT P md ops Q F (n + 1) listed a w :=
  ⟨fun h0 => absurd (hr ▸ h0) hne, hr ▸ h⟩
theorem anyT_done {listed : Array Bool} {a : Act} {w : World} (hr : Region.ready md ops listed = []) (h : Q .normal a w) : ∀ n, AnyT P md ops Q F n listed a w
  | 0 => ⟨hr, h⟩
  | _ + 1 => ⟨fun _ => h, by rw [hr]; simp⟩
theorem wpOp_plain {j : Nat} {o : Oper} {a : Act} {w : World} {K : Act → World → Prop} (hj : ops[j]? = some o) (hg : o.guard = none) (h : Oper.wp P o a w K Q) : wpOp P ops Q j K a w := by
  unfold wpOp
  simp only [hj, Region.wanted, hg, if_true]
  exact .inl h
theorem wp_region_anyT {id : Nat} {a : Act} {w : World} (F : Nat → World → Prop) (hm : P.follows .mixedOrders = true) (h : AnyT P .any ops Q F ops.size (Array.replicate ops.size false) a w.drew) : (Code.region id ops true).wp P Q a w := by
  exact wp_region_any hm (anyT_any _ _ _ _ h)
/-- Two kinds of facts: S ahead of operation N (the first store), S' behind that one and behind operation i0. -/
def Lv (S' S : World → Prop) (N i0 j : Nat) (w : World) : Prop := (j = i0 ∨ j = N → S' w) ∧ (j < N → j ≠ i0 → S w)
variable {S' S : World → Prop} {N i0 : Nat}
theorem lv_weak (h : ∀ w, S w → S' w) (j : Nat) (w : World) (hj : decide (j ≤ N) = true) (k : Lv S' S N i0 j w) : S' w := by
  by_cases e : j = i0 ∨ j = N
  · exact k.1 e
  · have := of_decide_eq_true hj
    exact h w (k.2 (by omega) (by omega))
theorem lv_self (w : World) (h : S' w) : Lv S' S N i0 i0 w := ⟨fun _ => h, fun _ e => absurd rfl e⟩
theorem lv_strong (j : Nat) (w : World) (hj : decide (j < N ∧ j ≠ i0) = true) (k : Lv S' S N i0 j w) : S w := k.2 (of_decide_eq_true hj).1 (of_decide_eq_true hj).2
theorem lv_of {j : Nat} {w : World} (h0 : j ≠ i0) (hN : j ≠ N) (h : S w) : Lv S' S N i0 j w := ⟨fun e => absurd e (by omega), fun _ _ => h⟩
theorem lv_end {w : World} (h : S' w) : Lv S' S N i0 N w := ⟨fun _ => h, fun e => absurd e (Nat.lt_irrefl _)⟩
theorem lv_past {j : Nat} {w : World} (h0 : i0 < j) (hN : N < j) : Lv S' S N i0 j w := ⟨fun e => by omega, fun e => by omega⟩
end
end Go.Proofs.Ytehaoiimhgkckaa
namespace Go.Proofs.Ytehaoiimhgkckaa
open Go.RowKit

/-- The state in which those operations have yielded of which σ tells a value. -/
def fillL : List (Option Tmp) → Nat → (Nat → Option Value) → Act → Act
  | [], _, _, a => a
  | d :: r, i, σ, a => fillL r (i + 1) σ (match σ i with | some v => a.put d v | none => a)
def updS (σ : Nat → Option Value) (j : Nat) (v : Value) : Nat → Option Value := fun k => if k = j then some v else σ k
theorem fill_congr {σ σ' : Nat → Option Value} : ∀ (ds : List (Option Tmp)) (i : Nat) (a : Act), (∀ k, i ≤ k → k < i + ds.length → σ k = σ' k) → fillL ds i σ a = fillL ds i σ' a
  | [], _, _, _ => rfl
  | d :: r, i, a, h => by
    unfold fillL
    rw [h i (Nat.le_refl _) (by simp)]
    exact fill_congr r (i + 1) _ fun k h1 h2 => h k (by omega) (by simp only [List.length_cons]; omega)
theorem fill_put {σ : Nat → Option Value} {d : Option Tmp} {v : Value} : ∀ (ds : List (Option Tmp)) (i : Nat) (a : Act), (∀ e ∈ ds, ∀ x, e = some x → d ≠ some x) → (fillL ds i σ a).put d v = fillL ds i σ (a.put d v)
  | [], _, _, _ => rfl
  | e :: r, i, a, h => by
    unfold fillL
    rw [fill_put r (i + 1) _ fun e' he => h e' (List.mem_cons_of_mem _ he)]
    congr 1
    cases σ i with
    | none => rfl
    | some u => exact Act.put_comm a u v (h e (List.mem_cons_self ..))
/-- No two write one slot. -/
def ApartL (ds : List (Option Tmp)) : Prop := ds.Pairwise fun d e => ∀ x, d = some x → e ≠ some x
theorem fill_upd {σ : Nat → Option Value} {v : Value} : ∀ (ds : List (Option Tmp)) (i k : Nat) (a : Act) (d : Option Tmp), ApartL ds → ds[k]? = some d → σ (i + k) = none → fillL ds i (updS σ (i + k) v) a = (fillL ds i σ a).put d v
  | [], _, _, _, _, _, h, _ => by simp at h
  | e :: r, i, 0, a, d, hp, h, hn => by
    simp only [List.getElem?_cons_zero, Option.some.injEq] at h
    subst h
    simp only [Nat.add_zero] at hn ⊢
    obtain ⟨h1, h2⟩ := List.pairwise_cons.1 hp
    unfold fillL
    rw [hn]
    simp only [updS, if_true]
    rw [fill_put r (i + 1) a fun e' he x hx hd => (h1 e' he x hd) hx]
    exact fill_congr r (i + 1) _ fun k h1 _ => by unfold updS; rw [if_neg (by omega)]
  | e :: r, i, k + 1, a, d, hp, h, hn => by
    obtain ⟨h1, h2⟩ := List.pairwise_cons.1 hp
    unfold fillL
    have e1 : i + (k + 1) = i + 1 + k := by omega
    rw [show updS σ (i + (k + 1)) v i = σ i from if_neg (by omega), e1]
    exact fill_upd r (i + 1) k _ d h2 (by simpa using h) (by rw [← e1]; exact hn)
theorem eval_put_same {a : Act} {s : Tmp} {v : Value} (h : s < a.tmps.size) : (a.put (some s) v).eval (.tmp s) = v := by simp [Act.put, Act.eval, h]
theorem eval_put_other {a : Act} {s : Tmp} {d : Option Tmp} {v : Value} (h : d ≠ some s) : (a.put d v).eval (.tmp s) = a.eval (.tmp s) := by
  cases d with
  | none => rfl
  | some x =>
    have : x ≠ s := fun e => h (e ▸ rfl)
    simp [Act.put, Act.eval, this]
theorem size_put {a : Act} {d : Option Tmp} {v : Value} : (a.put d v).tmps.size = a.tmps.size := by cases d <;> simp [Act.put]
theorem fill_other {σ : Nat → Option Value} {s : Tmp} : ∀ (ds : List (Option Tmp)) (i : Nat) (a : Act), (∀ d ∈ ds, d ≠ some s) → (fillL ds i σ a).eval (.tmp s) = a.eval (.tmp s)
  | [], _, _, _ => rfl
  | d :: r, i, a, h => by
    unfold fillL
    rw [fill_other r (i + 1) _ fun d' hd => h d' (List.mem_cons_of_mem _ hd)]
    cases σ i with
    | none => rfl
    | some v => exact eval_put_other (h d (List.mem_cons_self ..))
theorem fill_at {σ : Nat → Option Value} {s : Tmp} {v : Value} : ∀ (ds : List (Option Tmp)) (i k : Nat) (a : Act), ApartL ds → s < a.tmps.size → ds[k]? = some (some s) → σ (i + k) = some v → (fillL ds i σ a).eval (.tmp s) = v
  | [], _, _, _, _, _, h, _ => by simp at h
  | e :: r, i, 0, a, hp, hs, h, hn => by
    simp only [List.getElem?_cons_zero, Option.some.injEq] at h
    subst h
    obtain ⟨h1, _⟩ := List.pairwise_cons.1 hp
    unfold fillL
    rw [fill_other r (i + 1) _ fun d hd => h1 d hd s rfl]
    simp only [Nat.add_zero] at hn
    rw [hn]
    exact eval_put_same hs
  | e :: r, i, k + 1, a, hp, hs, h, hn => by
    obtain ⟨_, h2⟩ := List.pairwise_cons.1 hp
    unfold fillL
    refine fill_at r (i + 1) k _ h2 ?_ (by simpa using h) (by rw [← hn]; congr 1; omega)
    cases σ i with
    | none => exact hs
    | some u => rw [size_put]; exact hs

theorem filter_less {p q : Nat → Bool} {j : Nat} (hp : p j = true) (hq : q j = false) (h : ∀ k, k ≠ j → q k = p k) : ∀ n, j < n → ((List.range n).filter p).length = ((List.range n).filter q).length + 1
  | 0, h0 => by omega
  | n + 1, hj => by
    rw [List.range_succ, List.filter_append, List.filter_append, List.length_append, List.length_append]
    by_cases e : j = n
    · subst e
      have : (List.range j).filter q = (List.range j).filter p := List.filter_congr fun k hk => h k (by have := List.mem_range.1 hk; omega)
      rw [this]
      simp [hp, hq]
    · rw [filter_less hp hq h n (by omega)]
      have : q n = p n := h n (fun x => e x.symm)
      simp only [List.filter_cons, List.filter_nil, this]
      omega

section
variable {P : Program} {ops : Array Oper} {Q : Exit → Act → World → Prop}
/-- The slots that the operations write, in the order of the text. -/
def dstL (ops : Array Oper) : List (Option Tmp) := ops.toList.map (·.dst)
def factsB (ops : Array Oper) : Bool :=
  ((List.range ops.size).all fun j => match ops[j]? with
    | some o => o.guard.isNone && o.after.toList.all fun e => !Region.binds .any e || decide (e.on < j)
    | none => true)
def apartB (ops : Array Oper) : Bool := decide ((dstL ops).Pairwise fun d e => d = none ∨ d ≠ e)
theorem apart_spec (h : apartB ops = true) : ApartL (dstL ops) := (of_decide_eq_true h).imp fun k x hx e => by
  rcases k with k | k
  · rw [k] at hx; cases hx
  · exact k (hx.trans e.symm)
/-- Inv σ w: what is known when those operations have come up of which σ tells a value. -/
theorem region_inv {a0 : Act} {w0 : World} (Inv : (Nat → Option Value) → World → Prop) (hB : factsB ops = true) (hd : apartB ops = true) (h0 : Inv (fun _ => none) w0)
    (hstep : ∀ (j : Nat) (o : Oper), ops[j]? = some o → ∀ (σ : Nat → Option Value) (w : World) (A : Act), Inv σ w → σ j = none → (∀ i, waitsB .any ops 1 j i = true → ∃ v, σ i = some v) →
      (∀ s, ((dstL ops).all fun d => decide (d ≠ some s)) = true → A.tmps[s]?.getD undef = a0.tmps[s]?.getD undef) → (∀ k s v, (dstL ops)[k]? = some (some s) → s < a0.tmps.size → σ k = some v → A.tmps[s]?.getD undef = v) →
      Oper.wp P o A w (fun a' w' => ∃ v, a' = A.put o.dst v ∧ Inv (updS σ j v) w') Q)
    (hend : ∀ (σ : Nat → Option Value) (w : World), Inv σ w → (∀ k, k < ops.size → ∃ v, σ k = some v) → Q .normal (fillL (dstL ops) 0 σ a0) w) :
    wpAny P .any ops Q ops.size (Array.replicate ops.size false) a0 w0 := by
  have hlen : (dstL ops).length = ops.size := by simp [dstL]
  have spec : ∀ (j : Nat) (o : Oper), ops[j]? = some o → o.guard = none ∧ ∀ e ∈ o.after, Region.binds .any e = true → e.on < j := by
    intro j o hj
    have := List.all_eq_true.1 hB j (List.mem_range.2 (Array.getElem?_eq_some_iff.1 hj).1)
    rw [hj] at this
    simp only [Bool.and_eq_true, Option.isNone_iff_eq_none, List.all_eq_true] at this
    refine ⟨this.1, fun e he hb => ?_⟩
    have h2 := this.2 e (Array.mem_toList_iff.2 he)
    rw [hb] at h2
    simpa using h2
  have key : ∀ (n : Nat) (listed : Array Bool) (σ : Nat → Option Value) (w : World), listed.size = ops.size → (∀ j, j < ops.size → ((σ j).isSome = listed[j]?.getD false)) → Inv σ w →
      ((List.range ops.size).filter fun j => !(listed[j]?.getD false)).length = n → wpAny P .any ops Q n listed (fillL (dstL ops) 0 σ a0) w := by
    intro n
    induction n with
    | zero =>
      intro listed σ w hs hσ hm hc
      have hall : ∀ j, j < ops.size → listed[j]?.getD false = true := fun j hj => by
        have h1 := List.eq_nil_of_length_eq_zero hc
        rw [List.filter_eq_nil_iff] at h1
        have := h1 j (List.mem_range.2 hj)
        simpa using this
      refine ⟨?_, ?_⟩
      · rw [List.eq_nil_iff_forall_not_mem]
        intro j hj
        obtain ⟨h1, o, ho, _⟩ := mem_ready.1 hj
        have hlt := (Array.getElem?_eq_some_iff.1 ho).1
        have h2 := hall j hlt
        simp [hs, hlt] at h1 h2
        rw [h1] at h2
        cases h2
      · exact hend σ w hm fun k hk => by
          have h1 := hσ k hk
          rw [hall k hk] at h1
          exact Option.isSome_iff_exists.1 h1
    | succ n ih =>
      intro listed σ w hs hσ hm hc
      refine ⟨fun hnil => ?_, fun j hj => ?_⟩
      · exfalso
        have hall : ∀ j, j < ops.size → listed[j]?.getD false = true := fun j => by
          induction j using Nat.strongRecOn with
          | _ j ihj =>
            intro hlt
            cases hl : listed[j]?.getD false with
            | true => rfl
            | false =>
              exfalso
              have hmem : j ∈ Region.ready .any ops listed := by
                refine mem_ready.2 ⟨?_, ops[j], by simp [hlt], fun e he hb => ?_⟩
                · have : j < listed.size := by omega
                  simpa [this] using hl
                · have h1 := (spec j ops[j] (by simp [hlt])).2 e he hb
                  have h2 := ihj e.on h1 (by omega)
                  simpa using h2
              rw [hnil] at hmem
              cases hmem
        have : (List.range ops.size).filter (fun j => !(listed[j]?.getD false)) = [] := by
          rw [List.filter_eq_nil_iff]
          intro j hj
          rw [hall j (List.mem_range.1 hj)]
          simp
        rw [this] at hc
        simp at hc
      · obtain ⟨hun, o, ho, hall⟩ := mem_ready.1 hj
        have hlt := (Array.getElem?_eq_some_iff.1 ho).1
        have hjl : listed[j]?.getD false = false := by
          have : j < listed.size := by omega
          simpa [this] using hun
        have hnone : σ j = none := by
          have h1 := hσ j hlt
          rw [hjl] at h1
          simpa using h1
        have hdep : ∀ i, waitsB .any ops 1 j i = true → ∃ v, σ i = some v := fun i hw => by
          unfold waitsB at hw
          rw [ho] at hw
          simp only [waitsB, Bool.or_false, List.any_eq_true, Bool.and_eq_true, decide_eq_true_eq] at hw
          obtain ⟨e, he, hb, rfl⟩ := hw
          have he := Array.mem_toList_iff.1 he
          have h1 := (spec j o ho).2 e he hb
          have h2 := hσ e.on (by omega)
          have h3 : listed[e.on]?.getD false = true := by simpa using hall e he hb
          rw [h3] at h2
          exact Option.isSome_iff_exists.1 h2
        refine wpOp_plain ho (spec j o ho).1 (Oper.wp_mono ?_ (hstep j o ho σ w _ hm hnone hdep (fun s hs' => by simpa [Act.eval] using fill_other _ 0 a0 fun d hd' => of_decide_eq_true (List.all_eq_true.1 hs' d hd')) (fun k s v h1 h2 h3 => by simpa [Act.eval] using fill_at (dstL ops) 0 k a0 (apart_spec hd) h2 h1 (by rw [Nat.zero_add]; exact h3))))
        rintro a' w' ⟨v, rfl, r1⟩
        have hdj : (dstL ops)[j]? = some o.dst := by simp [dstL, ho]
        rw [← fill_upd (v := v) (dstL ops) 0 j a0 o.dst (apart_spec hd) hdj (by rw [Nat.zero_add]; exact hnone), Nat.zero_add]
        refine ih _ _ _ (by simp [hs]) (fun k hk => ?_) r1 ?_
        · by_cases e : k = j
          · subst e
            have : k < listed.size := by omega
            simp [updS, this]
          · rw [Array.getElem?_setIfInBounds_ne (fun x => e x.symm), ← hσ k hk]
            simp [updS, e]
        · have h1 := filter_less (p := fun k => !(listed[k]?.getD false)) (q := fun k => !((listed.setIfInBounds j true)[k]?.getD false)) (j := j) (by simp [hjl]) (by
            have : j < listed.size := by omega
            simp [this]) (fun k hk => by rw [Array.getElem?_setIfInBounds_ne (fun x => hk x.symm)]) ops.size hlt
          omega
  have hstart := key ops.size (Array.replicate ops.size false) (fun _ => none) w0 (by simp) (fun j hj => by simp [hj]) h0 (by
    have : (List.range ops.size).filter (fun j => !((Array.replicate ops.size false)[j]?.getD false)) = List.range ops.size := by
      rw [List.filter_eq_self]
      intro j hj
      simp [List.mem_range.1 hj]
    rw [this, List.length_range])
  have hfill : ∀ (ds : List (Option Tmp)) (i : Nat), fillL ds i (fun _ => none) a0 = a0 := by
    intro ds
    induction ds with
    | nil => intro i; rfl
    | cons d r ihr => intro i; exact ihr (i + 1)
  rw [hfill] at hstart
  exact hstart
end
end Go.Proofs.Ytehaoiimhgkckaa
