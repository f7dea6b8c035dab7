/-
  A region that draws its order, by an invariant: one obligation for each operation (whenever those that it waits for have come up), however many orders there are.
-/
import Derived.Test.YtgmkpncpcikecaaAnyT
namespace Go.Proofs.Ytgmkpncpcikecaa
open Go.RowKit

/-- The state in which those operations have yielded of which σ tells a value. -/
def fillL : List (Option Tmp) → Nat → (Nat → Option Value) → Act → Act
  | [], _, _, a => a
  | d :: r, i, σ, a => fillL r (i + 1) σ (match σ i with | some v => a.put d v | none => a)
def updS (σ : Nat → Option Value) (j : Nat) (v : Value) : Nat → Option Value := fun k => if k = j then some v else σ k
theorem fill_congr {σ σ' : Nat → Option Value} : ∀ (ds : List (Option Tmp)) (i : Nat) (a : Act), (∀ k, i ≤ k → k < i + ds.length → σ k = σ' k) → fillL ds i σ a = fillL ds i σ' a
  | [], _, _, _ => rfl
  | d :: r, i, a, h => by
    unfold fillL
    rw [h i (Nat.le_refl _) (by simp)]
    exact fill_congr r (i + 1) _ fun k h1 h2 => h k (by omega) (by simp only [List.length_cons]; omega)
theorem fill_put {σ : Nat → Option Value} {d : Option Tmp} {v : Value} : ∀ (ds : List (Option Tmp)) (i : Nat) (a : Act), (∀ e ∈ ds, ∀ x, e = some x → d ≠ some x) → (fillL ds i σ a).put d v = fillL ds i σ (a.put d v)
  | [], _, _, _ => rfl
  | e :: r, i, a, h => by
    unfold fillL
    rw [fill_put r (i + 1) _ fun e' he => h e' (List.mem_cons_of_mem _ he)]
    congr 1
    cases σ i with
    | none => rfl
    | some u => exact Act.put_comm a u v (h e (List.mem_cons_self ..))
/-- No two write one slot. -/
def ApartL (ds : List (Option Tmp)) : Prop := ds.Pairwise fun d e => ∀ x, d = some x → e ≠ some x
theorem fill_upd {σ : Nat → Option Value} {v : Value} : ∀ (ds : List (Option Tmp)) (i k : Nat) (a : Act) (d : Option Tmp), ApartL ds → ds[k]? = some d → σ (i + k) = none → fillL ds i (updS σ (i + k) v) a = (fillL ds i σ a).put d v
  | [], _, _, _, _, _, h, _ => by simp at h
  | e :: r, i, 0, a, d, hp, h, hn => by
    simp only [List.getElem?_cons_zero, Option.some.injEq] at h
    subst h
    simp only [Nat.add_zero] at hn ⊢
    obtain ⟨h1, h2⟩ := List.pairwise_cons.1 hp
    unfold fillL
    rw [hn]
    simp only [updS, if_true]
    rw [fill_put r (i + 1) a fun e' he x hx hd => (h1 e' he x hd) hx]
    exact fill_congr r (i + 1) _ fun k h1 _ => by unfold updS; rw [if_neg (by omega)]
  | e :: r, i, k + 1, a, d, hp, h, hn => by
    obtain ⟨h1, h2⟩ := List.pairwise_cons.1 hp
    unfold fillL
    have e1 : i + (k + 1) = i + 1 + k := by omega
    rw [show updS σ (i + (k + 1)) v i = σ i from if_neg (by omega), e1]
    exact fill_upd r (i + 1) k _ d h2 (by simpa using h) (by rw [← e1]; exact hn)
theorem eval_put_same {a : Act} {s : Tmp} {v : Value} (h : s < a.tmps.size) : (a.put (some s) v).eval (.tmp s) = v := by simp [Act.put, Act.eval, h]
theorem eval_put_other {a : Act} {s : Tmp} {d : Option Tmp} {v : Value} (h : d ≠ some s) : (a.put d v).eval (.tmp s) = a.eval (.tmp s) := by
  cases d with
  | none => rfl
  | some x =>
    have : x ≠ s := fun e => h (e ▸ rfl)
    simp [Act.put, Act.eval, this]
theorem size_put {a : Act} {d : Option Tmp} {v : Value} : (a.put d v).tmps.size = a.tmps.size := by cases d <;> simp [Act.put]
theorem fill_other {σ : Nat → Option Value} {s : Tmp} : ∀ (ds : List (Option Tmp)) (i : Nat) (a : Act), (∀ d ∈ ds, d ≠ some s) → (fillL ds i σ a).eval (.tmp s) = a.eval (.tmp s)
  | [], _, _, _ => rfl
  | d :: r, i, a, h => by
    unfold fillL
    rw [fill_other r (i + 1) _ fun d' hd => h d' (List.mem_cons_of_mem _ hd)]
    cases σ i with
    | none => rfl
    | some v => exact eval_put_other (h d (List.mem_cons_self ..))
theorem fill_at {σ : Nat → Option Value} {s : Tmp} {v : Value} : ∀ (ds : List (Option Tmp)) (i k : Nat) (a : Act), ApartL ds → s < a.tmps.size → ds[k]? = some (some s) → σ (i + k) = some v → (fillL ds i σ a).eval (.tmp s) = v
  | [], _, _, _, _, _, h, _ => by simp at h
  | e :: r, i, 0, a, hp, hs, h, hn => by
    simp only [List.getElem?_cons_zero, Option.some.injEq] at h
    subst h
    obtain ⟨h1, _⟩ := List.pairwise_cons.1 hp
    unfold fillL
    rw [fill_other r (i + 1) _ fun d hd => h1 d hd s rfl]
    simp only [Nat.add_zero] at hn
    rw [hn]
    exact eval_put_same hs
  | e :: r, i, k + 1, a, hp, hs, h, hn => by
    obtain ⟨_, h2⟩ := List.pairwise_cons.1 hp
    unfold fillL
    refine fill_at r (i + 1) k _ h2 ?_ (by simpa using h) (by rw [← hn]; congr 1; omega)
    cases σ i with
    | none => exact hs
    | some u => rw [size_put]; exact hs

theorem filter_less {p q : Nat → Bool} {j : Nat} (hp : p j = true) (hq : q j = false) (h : ∀ k, k ≠ j → q k = p k) : ∀ n, j < n → ((List.range n).filter p).length = ((List.range n).filter q).length + 1
  | 0, h0 => by omega
  | n + 1, hj => by
    rw [List.range_succ, List.filter_append, List.filter_append, List.length_append, List.length_append]
    by_cases e : j = n
    · subst e
      have : (List.range j).filter q = (List.range j).filter p := List.filter_congr fun k hk => h k (by have := List.mem_range.1 hk; omega)
      rw [this]
      simp [hp, hq]
    · rw [filter_less hp hq h n (by omega)]
      have : q n = p n := h n (fun x => e x.symm)
      simp only [List.filter_cons, List.filter_nil, this]
      omega

section
variable {P : Program} {ops : Array Oper} {Q : Exit → Act → World → Prop}
/-- The slots that the operations write, in the order of the text. -/
def dstL (ops : Array Oper) : List (Option Tmp) := ops.toList.map (·.dst)
def factsB (ops : Array Oper) : Bool :=
  ((List.range ops.size).all fun j => match ops[j]? with
    | some o => o.guard.isNone && o.after.toList.all fun e => !Region.binds .any e || decide (e.on < j)
    | none => true)
def apartB (ops : Array Oper) : Bool := decide ((dstL ops).Pairwise fun d e => d = none ∨ d ≠ e)
theorem apart_spec (h : apartB ops = true) : ApartL (dstL ops) := (of_decide_eq_true h).imp fun k x hx e => by
  rcases k with k | k
  · rw [k] at hx; cases hx
  · exact k (hx.trans e.symm)
/-- Inv σ w: what is known when those operations have come up of which σ tells a value. -/
theorem region_inv {a0 : Act} {w0 : World} (Inv : (Nat → Option Value) → World → Prop) (hB : factsB ops = true) (hd : apartB ops = true) (h0 : Inv (fun _ => none) w0)
    (hstep : ∀ (j : Nat) (o : Oper), ops[j]? = some o → ∀ (σ : Nat → Option Value) (w : World) (A : Act), Inv σ w → σ j = none → (∀ i, waitsB .any ops 1 j i = true → ∃ v, σ i = some v) →
      (∀ s, ((dstL ops).all fun d => decide (d ≠ some s)) = true → A.tmps[s]?.getD undef = a0.tmps[s]?.getD undef) → (∀ k s v, (dstL ops)[k]? = some (some s) → s < a0.tmps.size → σ k = some v → A.tmps[s]?.getD undef = v) →
      Oper.wp P o A w (fun a' w' => ∃ v, a' = A.put o.dst v ∧ Inv (updS σ j v) w') Q)
    (hend : ∀ (σ : Nat → Option Value) (w : World), Inv σ w → (∀ k, k < ops.size → ∃ v, σ k = some v) → Q .normal (fillL (dstL ops) 0 σ a0) w) :
    wpAny P .any ops Q ops.size (Array.replicate ops.size false) a0 w0 := by
  have hlen : (dstL ops).length = ops.size := by simp [dstL]
  have spec : ∀ (j : Nat) (o : Oper), ops[j]? = some o → o.guard = none ∧ ∀ e ∈ o.after, Region.binds .any e = true → e.on < j := by
    intro j o hj
    have := List.all_eq_true.1 hB j (List.mem_range.2 (Array.getElem?_eq_some_iff.1 hj).1)
    rw [hj] at this
    simp only [Bool.and_eq_true, Option.isNone_iff_eq_none, List.all_eq_true] at this
    refine ⟨this.1, fun e he hb => ?_⟩
    have h2 := this.2 e (Array.mem_toList_iff.2 he)
    rw [hb] at h2
    simpa using h2
  have key : ∀ (n : Nat) (listed : Array Bool) (σ : Nat → Option Value) (w : World), listed.size = ops.size → (∀ j, j < ops.size → ((σ j).isSome = listed[j]?.getD false)) → Inv σ w →
      ((List.range ops.size).filter fun j => !(listed[j]?.getD false)).length = n → wpAny P .any ops Q n listed (fillL (dstL ops) 0 σ a0) w := by
    intro n
    induction n with
    | zero =>
      intro listed σ w hs hσ hm hc
      have hall : ∀ j, j < ops.size → listed[j]?.getD false = true := fun j hj => by
        have h1 := List.eq_nil_of_length_eq_zero hc
        rw [List.filter_eq_nil_iff] at h1
        have := h1 j (List.mem_range.2 hj)
        simpa using this
      refine ⟨?_, ?_⟩
      · rw [List.eq_nil_iff_forall_not_mem]
        intro j hj
        obtain ⟨h1, o, ho, _⟩ := mem_ready.1 hj
        have hlt := (Array.getElem?_eq_some_iff.1 ho).1
        have h2 := hall j hlt
        simp [hs, hlt] at h1 h2
        rw [h1] at h2
        cases h2
      · exact hend σ w hm fun k hk => by
          have h1 := hσ k hk
          rw [hall k hk] at h1
          exact Option.isSome_iff_exists.1 h1
    | succ n ih =>
      intro listed σ w hs hσ hm hc
      refine ⟨fun hnil => ?_, fun j hj => ?_⟩
      · exfalso
        have hall : ∀ j, j < ops.size → listed[j]?.getD false = true := fun j => by
          induction j using Nat.strongRecOn with
          | _ j ihj =>
            intro hlt
            cases hl : listed[j]?.getD false with
            | true => rfl
            | false =>
              exfalso
              have hmem : j ∈ Region.ready .any ops listed := by
                refine mem_ready.2 ⟨?_, ops[j], by simp [hlt], fun e he hb => ?_⟩
                · have : j < listed.size := by omega
                  simpa [this] using hl
                · have h1 := (spec j ops[j] (by simp [hlt])).2 e he hb
                  have h2 := ihj e.on h1 (by omega)
                  simpa using h2
              rw [hnil] at hmem
              cases hmem
        have : (List.range ops.size).filter (fun j => !(listed[j]?.getD false)) = [] := by
          rw [List.filter_eq_nil_iff]
          intro j hj
          rw [hall j (List.mem_range.1 hj)]
          simp
        rw [this] at hc
        simp at hc
      · obtain ⟨hun, o, ho, hall⟩ := mem_ready.1 hj
        have hlt := (Array.getElem?_eq_some_iff.1 ho).1
        have hjl : listed[j]?.getD false = false := by
          have : j < listed.size := by omega
          simpa [this] using hun
        have hnone : σ j = none := by
          have h1 := hσ j hlt
          rw [hjl] at h1
          simpa using h1
        have hdep : ∀ i, waitsB .any ops 1 j i = true → ∃ v, σ i = some v := fun i hw => by
          unfold waitsB at hw
          rw [ho] at hw
          simp only [waitsB, Bool.or_false, List.any_eq_true, Bool.and_eq_true, decide_eq_true_eq] at hw
          obtain ⟨e, he, hb, rfl⟩ := hw
          have he := Array.mem_toList_iff.1 he
          have h1 := (spec j o ho).2 e he hb
          have h2 := hσ e.on (by omega)
          have h3 : listed[e.on]?.getD false = true := by simpa using hall e he hb
          rw [h3] at h2
          exact Option.isSome_iff_exists.1 h2
        refine wpOp_plain ho (spec j o ho).1 (Oper.wp_mono ?_ (hstep j o ho σ w _ hm hnone hdep (fun s hs' => by simpa [Act.eval] using fill_other _ 0 a0 fun d hd' => of_decide_eq_true (List.all_eq_true.1 hs' d hd')) (fun k s v h1 h2 h3 => by simpa [Act.eval] using fill_at (dstL ops) 0 k a0 (apart_spec hd) h2 h1 (by rw [Nat.zero_add]; exact h3))))
        rintro a' w' ⟨v, rfl, r1⟩
        have hdj : (dstL ops)[j]? = some o.dst := by simp [dstL, ho]
        rw [← fill_upd (v := v) (dstL ops) 0 j a0 o.dst (apart_spec hd) hdj (by rw [Nat.zero_add]; exact hnone), Nat.zero_add]
        refine ih _ _ _ (by simp [hs]) (fun k hk => ?_) r1 ?_
        · by_cases e : k = j
          · subst e
            have : k < listed.size := by omega
            simp [updS, this]
          · rw [Array.getElem?_setIfInBounds_ne (fun x => e x.symm), ← hσ k hk]
            simp [updS, e]
        · have h1 := filter_less (p := fun k => !(listed[k]?.getD false)) (q := fun k => !((listed.setIfInBounds j true)[k]?.getD false)) (j := j) (by simp [hjl]) (by
            have : j < listed.size := by omega
            simp [this]) (fun k hk => by rw [Array.getElem?_setIfInBounds_ne (fun x => hk x.symm)]) ops.size hlt
          omega
  have hstart := key ops.size (Array.replicate ops.size false) (fun _ => none) w0 (by simp) (fun j hj => by simp [hj]) h0 (by
    have : (List.range ops.size).filter (fun j => !((Array.replicate ops.size false)[j]?.getD false)) = List.range ops.size := by
      rw [List.filter_eq_self]
      intro j hj
      simp [List.mem_range.1 hj]
    rw [this, List.length_range])
  have hfill : ∀ (ds : List (Option Tmp)) (i : Nat), fillL ds i (fun _ => none) a0 = a0 := by
    intro ds
    induction ds with
    | nil => intro i; rfl
    | cons d r ihr => intro i; exact ihr (i + 1)
  rw [hfill] at hstart
  exact hstart
end
end Go.Proofs.Ytgmkpncpcikecaa
