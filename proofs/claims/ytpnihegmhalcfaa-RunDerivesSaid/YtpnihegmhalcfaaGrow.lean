/-
  A region that draws its order, whose first N operations turn nothing of what was there: one obligation for each of them; the rest, which waits for all of them, is walked behind.
-/
import Derived.Test.YtpnihegmhalcfaaRunG01
namespace Go.Proofs.Ytpnihegmhalcfaa
open Go.RowKit

theorem ups_same (σ : Nat → Option Value) (j : Nat) (v : Value) : updS σ j v j = some v := if_pos rfl
theorem ups_other {σ : Nat → Option Value} {j k : Nat} {v : Value} (h : k ≠ j) : updS σ j v k = σ k := if_neg h
theorem grow_plain {P : Program} {ops : Array Oper} {Q : Exit → Act → World → Prop} {j : Nat} {o : Oper} {K : Act → World → Prop} {a : Act} {w : World} (ho : ops[j]? = some o) (hg : o.guard = none) (h : o.wp P a w K Q) : wpOp P ops Q j K a w := by
  unfold wpOp
  simp [ho, Region.wanted, hg, h]
theorem grow_guard {P : Program} {ops : Array Oper} {Q : Exit → Act → World → Prop} {j g s : Nat} {want : Bool} {o : Oper} {K : Act → World → Prop} {a : Act} {w : World} (ho : ops[j]? = some o) (hg : o.guard = some (g, want)) (hs : (ops[g]?).bind (·.dst) = some s) (hv : a.tmps[s]?.getD undef = .bool want) (h : o.wp P a w K Q) : wpOp P ops Q j K a w := by
  have hy : yielded ops a.tmps g = some want := by
    unfold yielded
    rw [hs]
    cases e : a.tmps[s]? with
    | none => rw [e] at hv; cases hv
    | some v =>
      rw [e] at hv
      have hv : v = .bool want := hv
      subst hv
      show (match a.tmps[s]? with | some (.bool b) => some b | _ => none) = some want
      rw [e]
  unfold wpOp
  simp [ho, Region.wanted, hg, hy, h]

section
variable {P : Program} {ops : Array Oper} {Q : Exit → Act → World → Prop}
def growB (N : Nat) (ops : Array Oper) : Bool := decide (N ≤ ops.size) &&
  ((List.range N).all fun j => match ops[j]? with
    | some o => o.after.toList.all fun e => !Region.binds .any e || decide (e.on < j)
    | none => true) &&
  ((List.range ops.size).all fun j => decide (j < N) || (List.range N).all fun i => waitsB .any ops ops.size j i)
def listedTo (N n : Nat) : Array Bool := ((List.range n).map fun j => decide (j < N)).toArray
theorem fillG_defers : ∀ (ds : List (Option Tmp)) (i : Nat) (σ : Nat → Option Value) (a : Act), (fillL ds i σ a).defers = a.defers
  | [], _, _, _ => rfl
  | d :: r, i, σ, a => by
    unfold fillL
    rw [fillG_defers r]
    cases σ i with
    | none => rfl
    | some v => cases d <;> rfl
/-- V j W v: what is known of what operation j has yielded, as long as nothing of what was there is turned. -/
theorem region_grow {a0 : Act} {w0 : World} (N : Nat) (V : Nat → World → Value → Prop) (hmono : ∀ j v w w', V j w v → Fr nothing w w' → V j w' v) (hB : growB N ops = true) (hd : apartB ops = true)
    (hstep : ∀ (j : Nat) (o : Oper), j < N → ops[j]? = some o → ∀ (σ : Nat → Option Value) (w : World) (A : Act), Fr nothing w0 w → (∀ i v, σ i = some v → V i w v) → (∀ i, waitsB .any ops 1 j i = true → ∃ v, σ i = some v) → A.defers = a0.defers →
      (∀ s, ((dstL ops).all fun d => decide (d ≠ some s)) = true → A.tmps[s]?.getD undef = a0.tmps[s]?.getD undef) → (∀ k s v, (dstL ops)[k]? = some (some s) → s < a0.tmps.size → σ k = some v → A.tmps[s]?.getD undef = v) →
      wpOp P ops Q j (fun a' w' => ∃ v, a' = A.put o.dst v ∧ V j w' v ∧ Fr nothing w w') A w)
    (hend : ∀ (σ : Nat → Option Value) (w : World), Fr nothing w0 w → (∀ k, k < N → ∃ v, σ k = some v ∧ V k w v) → (∀ k, N ≤ k → σ k = none) → wpAny P .any ops Q (ops.size - N) (listedTo N ops.size) (fillL (dstL ops) 0 σ a0) w) :
    wpAny P .any ops Q ops.size (Array.replicate ops.size false) a0 w0 := by
  unfold growB at hB
  simp only [Bool.and_eq_true, decide_eq_true_eq, List.all_eq_true, List.mem_range] at hB
  obtain ⟨⟨hN, hB1⟩, hB2⟩ := hB
  have spec : ∀ (j : Nat) (o : Oper), j < N → ops[j]? = some o → ∀ e ∈ o.after, Region.binds .any e = true → e.on < j := by
    intro j o hjN hj e he hb
    have := hB1 j hjN
    rw [hj] at this
    simp only [List.all_eq_true] at this
    have h2 := this e (Array.mem_toList_iff.2 he)
    rw [hb] at h2
    simpa using h2
  have tail : ∀ j, j < ops.size → N ≤ j → ∀ i, i < N → waitsB .any ops ops.size j i = true := fun j hj hjN i hi => by
    have := hB2 j hj
    rw [decide_eq_false (by omega), Bool.false_or, List.all_eq_true] at this
    exact this i (List.mem_range.2 hi)
  have key : ∀ (m : Nat) (listed : Array Bool) (σ : Nat → Option Value) (w : World), listed.size = ops.size → closedB .any ops listed = true → (∀ j, j < ops.size → ((σ j).isSome = listed[j]?.getD false)) → (∀ j, N ≤ j → σ j = none) → Fr nothing w0 w → (∀ i v, σ i = some v → V i w v) →
      ((List.range N).filter fun j => !(listed[j]?.getD false)).length = m → wpAny P .any ops Q (m + (ops.size - N)) listed (fillL (dstL ops) 0 σ a0) w := by
    intro m
    induction m with
    | zero =>
      intro listed σ w hs hcl hσ hnone hf hV hc
      have hall : ∀ j, j < N → listed[j]?.getD false = true := fun j hj => by
        have h1 := List.eq_nil_of_length_eq_zero hc
        rw [List.filter_eq_nil_iff] at h1
        have := h1 j (List.mem_range.2 hj)
        simpa using this
      have hl : listed = listedTo N ops.size := by
        refine Array.ext_getElem? fun j => ?_
        unfold listedTo
        by_cases hj : j < ops.size
        · have hR : (((List.range ops.size).map fun j => decide (j < N)).toArray)[j]? = some (decide (j < N)) := by simp [hj]
          rw [hR, Array.getElem?_eq_getElem (by omega)]
          have h1 := hσ j hj
          rw [Array.getElem?_eq_getElem (by omega)] at h1
          have h1 : (σ j).isSome = listed[j] := h1
          by_cases e : j < N
          · have h2 := hall j e
            rw [Array.getElem?_eq_getElem (by omega)] at h2
            have h2 : listed[j] = true := h2
            simp [h2, e]
          · rw [hnone j (by omega)] at h1
            simp [← h1, e]
        · rw [Array.getElem?_eq_none (by omega), Array.getElem?_eq_none (by simp; omega)]
      rw [Nat.zero_add, hl]
      refine hend σ w hf (fun k hk => ?_) hnone
      have h1 := hσ k (by omega)
      rw [hall k hk] at h1
      obtain ⟨v, hv⟩ := Option.isSome_iff_exists.1 h1
      exact ⟨v, hv, hV k v hv⟩
    | succ m ih =>
      intro listed σ w hs hcl hσ hnone hf hV hc
      rw [show m + 1 + (ops.size - N) = (m + (ops.size - N)) + 1 by omega]
      obtain ⟨i0, hi0N, hi0⟩ : ∃ i, i < N ∧ listed[i]?.getD false = false := by
        refine Classical.byContradiction fun hn => ?_
        have : (List.range N).filter (fun j => !(listed[j]?.getD false)) = [] := by
          rw [List.filter_eq_nil_iff]
          intro j hj
          have hj := List.mem_range.1 hj
          cases e : listed[j]?.getD false with
          | true => simp
          | false => exact absurd ⟨j, hj, e⟩ hn
        rw [this] at hc
        simp at hc
      refine ⟨fun hnil => ?_, fun j hj => ?_⟩
      · exfalso
        have hall : ∀ j, j < N → listed[j]?.getD false = true := fun j => by
          induction j using Nat.strongRecOn with
          | _ j ihj =>
            intro hlt
            cases hl : listed[j]?.getD false with
            | true => rfl
            | false =>
              exfalso
              have hmem : j ∈ Region.ready .any ops listed := by
                refine mem_ready.2 ⟨?_, ops[j], by simp [show j < ops.size by omega], fun e he hb => ?_⟩
                · have : j < listed.size := by omega
                  simpa [this] using hl
                · have h1 := spec j ops[j] hlt (by simp [show j < ops.size by omega]) e he hb
                  have h2 := ihj e.on h1 (by omega)
                  simpa using h2
              rw [hnil] at hmem
              cases hmem
        rw [hall i0 hi0N] at hi0
        cases hi0
      · obtain ⟨hun, o, ho, hall⟩ := mem_ready.1 hj
        have hlt := (Array.getElem?_eq_some_iff.1 ho).1
        have hjN : j < N := by
          refine Classical.byContradiction fun hn => ?_
          have h1 := tail j hlt (by omega) i0 hi0N
          rw [waits_not hcl hi0 ops.size j fun o' ho' e he hb => by rw [ho] at ho'; obtain rfl := Option.some.inj ho'; simpa using hall e he hb] at h1
          cases h1
        have hjl : listed[j]?.getD false = false := by
          have : j < listed.size := by omega
          simpa [this] using hun
        have hsn : σ j = none := by
          have h1 := hσ j hlt
          rw [hjl] at h1
          simpa using h1
        have hdep : ∀ i, waitsB .any ops 1 j i = true → ∃ v, σ i = some v := fun i hw => by
          unfold waitsB at hw
          rw [ho] at hw
          simp only [waitsB, Bool.or_false, List.any_eq_true, Bool.and_eq_true, decide_eq_true_eq] at hw
          obtain ⟨e, he, hb, rfl⟩ := hw
          have he := Array.mem_toList_iff.1 he
          have h1 := spec j o hjN ho e he hb
          have h2 := hσ e.on (by omega)
          have h3 : listed[e.on]?.getD false = true := by simpa using hall e he hb
          rw [h3] at h2
          exact Option.isSome_iff_exists.1 h2
        refine wpOp_mono ?_ (hstep j o hjN ho σ w _ hf hV hdep (fillG_defers _ _ _ _) (fun s hs' => by simpa [Act.eval] using fill_other _ 0 a0 fun d hd' => of_decide_eq_true (List.all_eq_true.1 hs' d hd')) (fun k s v h1 h2 h3 => by simpa [Act.eval] using fill_at (dstL ops) 0 k a0 (apart_spec hd) h2 h1 (by rw [Nat.zero_add]; exact h3)))
        rintro a' w' ⟨v, rfl, r1, r2⟩
        have hdj : (dstL ops)[j]? = some o.dst := by simp [dstL, ho]
        rw [← fill_upd (v := v) (dstL ops) 0 j a0 o.dst (apart_spec hd) hdj (by rw [Nat.zero_add]; exact hsn), Nat.zero_add]
        refine ih _ _ _ (by simp [hs]) (closed_step hcl hj) (fun k hk => ?_) (fun k hk => ?_) (hf.trans r2) (fun k u hu => ?_) ?_
        · by_cases e : k = j
          · subst e
            have : k < listed.size := by omega
            simp [updS, this]
          · rw [Array.getElem?_setIfInBounds_ne (fun x => e x.symm), ← hσ k hk]
            simp [updS, e]
        · rw [ups_other (by omega)]
          exact hnone k hk
        · by_cases e : k = j
          · subst e
            rw [ups_same] at hu
            obtain rfl := Option.some.inj hu
            exact r1
          · rw [ups_other e] at hu
            exact hmono k u w w' (hV k u hu) r2
        · have h1 := filter_less (p := fun k => !(listed[k]?.getD false)) (q := fun k => !((listed.setIfInBounds j true)[k]?.getD false)) (j := j) (by simp [hjl]) (by
            have : j < listed.size := by omega
            simp [this]) (fun k hk => by rw [Array.getElem?_setIfInBounds_ne (fun x => hk x.symm)]) N hjN
          omega
  have hstart := key N (Array.replicate ops.size false) (fun _ => none) w0 (by simp) (closed_spec.2 fun j o _ hl => by simp [Array.getElem?_replicate] at hl; split at hl <;> cases hl) (fun j hj => by simp [hj]) (fun _ _ => rfl) (Fr.refl _ _) (fun _ _ h => by cases h) (by
    have : (List.range N).filter (fun j => !((Array.replicate ops.size false)[j]?.getD false)) = List.range N := by
      rw [List.filter_eq_self]
      intro j hj
      simp [show j < ops.size by have := List.mem_range.1 hj; omega]
    rw [this, List.length_range])
  have hfill : ∀ (ds : List (Option Tmp)) (i : Nat), fillL ds i (fun _ => none) a0 = a0 := by
    intro ds
    induction ds with
    | nil => intro i; rfl
    | cons d r ihr => intro i; exact ihr (i + 1)
  rw [hfill, show N + (ops.size - N) = ops.size by omega] at hstart
  exact hstart
/-- One operation that alone is ready. -/
theorem any_next {listed : Array Bool} {n j : Nat} {a : Act} {w : World} (hr : Region.ready .any ops listed = [j]) (h : wpOp P ops Q j (wpAny P .any ops Q n (listed.setIfInBounds j true)) a w) : wpAny P .any ops Q (n + 1) listed a w := by
  refine ⟨fun e => ?_, fun i hi => ?_⟩
  · rw [hr] at e
    cases e
  · rw [hr] at hi
    obtain rfl := List.mem_singleton.1 hi
    exact h
/-- The same where what is known names the births: what operation j makes lies between two sizes of the heap, of its own. -/
theorem region_growB {a0 : Act} {w0 : World} (N : Nat) (V : Nat → Nat → Nat → World → Value → Prop) (hmono : ∀ j lo hi v w w', V j lo hi w v → Fr nothing w w' → V j lo hi w' v) (hB : growB N ops = true) (hd : apartB ops = true)
    (hstep : ∀ (j : Nat) (o : Oper), j < N → ops[j]? = some o → ∀ (σ : Nat → Option Value) (w : World) (A : Act), Fr nothing w0 w → (∀ i v, σ i = some v → ∃ lo hi, w0.heap.size ≤ lo ∧ hi ≤ w.heap.size ∧ V i lo hi w v) → (∀ i, waitsB .any ops 1 j i = true → ∃ v, σ i = some v) → A.defers = a0.defers →
      (∀ s, ((dstL ops).all fun d => decide (d ≠ some s)) = true → A.tmps[s]?.getD undef = a0.tmps[s]?.getD undef) → (∀ k s v, (dstL ops)[k]? = some (some s) → s < a0.tmps.size → σ k = some v → A.tmps[s]?.getD undef = v) →
      wpOp P ops Q j (fun a' w' => ∃ v, a' = A.put o.dst v ∧ V j w.heap.size w'.heap.size w' v ∧ Fr nothing w w') A w)
    (hend : ∀ (σ : Nat → Option Value) (w : World) (β : Nat → Nat × Nat), Fr nothing w0 w → (∀ k, k < N → ∃ v, σ k = some v ∧ w0.heap.size ≤ (β k).1 ∧ (β k).2 ≤ w.heap.size ∧ V k (β k).1 (β k).2 w v) → (∀ i k, i < N → k < N → i ≠ k → (β i).2 ≤ (β k).1 ∨ (β k).2 ≤ (β i).1) → (∀ k, N ≤ k → σ k = none) → wpAny P .any ops Q (ops.size - N) (listedTo N ops.size) (fillL (dstL ops) 0 σ a0) w) :
    wpAny P .any ops Q ops.size (Array.replicate ops.size false) a0 w0 := by
  unfold growB at hB
  simp only [Bool.and_eq_true, decide_eq_true_eq, List.all_eq_true, List.mem_range] at hB
  obtain ⟨⟨hN, hB1⟩, hB2⟩ := hB
  have spec : ∀ (j : Nat) (o : Oper), j < N → ops[j]? = some o → ∀ e ∈ o.after, Region.binds .any e = true → e.on < j := by
    intro j o hjN hj e he hb
    have := hB1 j hjN
    rw [hj] at this
    simp only [List.all_eq_true] at this
    have h2 := this e (Array.mem_toList_iff.2 he)
    rw [hb] at h2
    simpa using h2
  have tail : ∀ j, j < ops.size → N ≤ j → ∀ i, i < N → waitsB .any ops ops.size j i = true := fun j hj hjN i hi => by
    have := hB2 j hj
    rw [decide_eq_false (by omega), Bool.false_or, List.all_eq_true] at this
    exact this i (List.mem_range.2 hi)
  have key : ∀ (m : Nat) (listed : Array Bool) (σ : Nat → Option Value) (w : World) (β : Nat → Nat × Nat), listed.size = ops.size → closedB .any ops listed = true → (∀ j, j < ops.size → ((σ j).isSome = listed[j]?.getD false)) → (∀ j, N ≤ j → σ j = none) → Fr nothing w0 w → (∀ i v, σ i = some v → w0.heap.size ≤ (β i).1 ∧ (β i).2 ≤ w.heap.size ∧ V i (β i).1 (β i).2 w v) → (∀ i k u v, σ i = some u → σ k = some v → i ≠ k → (β i).2 ≤ (β k).1 ∨ (β k).2 ≤ (β i).1) →
      ((List.range N).filter fun j => !(listed[j]?.getD false)).length = m → wpAny P .any ops Q (m + (ops.size - N)) listed (fillL (dstL ops) 0 σ a0) w := by
    intro m
    induction m with
    | zero =>
      intro listed σ w β hs hcl hσ hnone hf hV hdj hc
      have hall : ∀ j, j < N → listed[j]?.getD false = true := fun j hj => by
        have h1 := List.eq_nil_of_length_eq_zero hc
        rw [List.filter_eq_nil_iff] at h1
        have := h1 j (List.mem_range.2 hj)
        simpa using this
      have hl : listed = listedTo N ops.size := by
        refine Array.ext_getElem? fun j => ?_
        unfold listedTo
        by_cases hj : j < ops.size
        · have hR : (((List.range ops.size).map fun j => decide (j < N)).toArray)[j]? = some (decide (j < N)) := by simp [hj]
          rw [hR, Array.getElem?_eq_getElem (by omega)]
          have h1 := hσ j hj
          rw [Array.getElem?_eq_getElem (by omega)] at h1
          have h1 : (σ j).isSome = listed[j] := h1
          by_cases e : j < N
          · have h2 := hall j e
            rw [Array.getElem?_eq_getElem (by omega)] at h2
            have h2 : listed[j] = true := h2
            simp [h2, e]
          · rw [hnone j (by omega)] at h1
            simp [← h1, e]
        · rw [Array.getElem?_eq_none (by omega), Array.getElem?_eq_none (by simp; omega)]
      rw [Nat.zero_add, hl]
      have hsome : ∀ k, k < N → ∃ v, σ k = some v := fun k hk => by
        have h1 := hσ k (by omega)
        rw [hall k hk] at h1
        exact Option.isSome_iff_exists.1 h1
      refine hend σ w β hf (fun k hk => ?_) (fun i k hi hk hik => ?_) hnone
      · obtain ⟨v, hv⟩ := hsome k hk
        exact ⟨v, hv, hV k v hv⟩
      · obtain ⟨u, hu⟩ := hsome i hi
        obtain ⟨v, hv⟩ := hsome k hk
        exact hdj i k u v hu hv hik
    | succ m ih =>
      intro listed σ w β hs hcl hσ hnone hf hV hdj hc
      rw [show m + 1 + (ops.size - N) = (m + (ops.size - N)) + 1 by omega]
      obtain ⟨i0, hi0N, hi0⟩ : ∃ i, i < N ∧ listed[i]?.getD false = false := by
        refine Classical.byContradiction fun hn => ?_
        have : (List.range N).filter (fun j => !(listed[j]?.getD false)) = [] := by
          rw [List.filter_eq_nil_iff]
          intro j hj
          have hj := List.mem_range.1 hj
          cases e : listed[j]?.getD false with
          | true => simp
          | false => exact absurd ⟨j, hj, e⟩ hn
        rw [this] at hc
        simp at hc
      refine ⟨fun hnil => ?_, fun j hj => ?_⟩
      · exfalso
        have hall : ∀ j, j < N → listed[j]?.getD false = true := fun j => by
          induction j using Nat.strongRecOn with
          | _ j ihj =>
            intro hlt
            cases hl : listed[j]?.getD false with
            | true => rfl
            | false =>
              exfalso
              have hmem : j ∈ Region.ready .any ops listed := by
                refine mem_ready.2 ⟨?_, ops[j], by simp [show j < ops.size by omega], fun e he hb => ?_⟩
                · have : j < listed.size := by omega
                  simpa [this] using hl
                · have h1 := spec j ops[j] hlt (by simp [show j < ops.size by omega]) e he hb
                  have h2 := ihj e.on h1 (by omega)
                  simpa using h2
              rw [hnil] at hmem
              cases hmem
        rw [hall i0 hi0N] at hi0
        cases hi0
      · obtain ⟨hun, o, ho, hall⟩ := mem_ready.1 hj
        have hlt := (Array.getElem?_eq_some_iff.1 ho).1
        have hjN : j < N := by
          refine Classical.byContradiction fun hn => ?_
          have h1 := tail j hlt (by omega) i0 hi0N
          rw [waits_not hcl hi0 ops.size j fun o' ho' e he hb => by rw [ho] at ho'; obtain rfl := Option.some.inj ho'; simpa using hall e he hb] at h1
          cases h1
        have hjl : listed[j]?.getD false = false := by
          have : j < listed.size := by omega
          simpa [this] using hun
        have hsn : σ j = none := by
          have h1 := hσ j hlt
          rw [hjl] at h1
          simpa using h1
        have hdep : ∀ i, waitsB .any ops 1 j i = true → ∃ v, σ i = some v := fun i hw => by
          unfold waitsB at hw
          rw [ho] at hw
          simp only [waitsB, Bool.or_false, List.any_eq_true, Bool.and_eq_true, decide_eq_true_eq] at hw
          obtain ⟨e, he, hb, rfl⟩ := hw
          have he := Array.mem_toList_iff.1 he
          have h1 := spec j o hjN ho e he hb
          have h2 := hσ e.on (by omega)
          have h3 : listed[e.on]?.getD false = true := by simpa using hall e he hb
          rw [h3] at h2
          exact Option.isSome_iff_exists.1 h2
        refine wpOp_mono ?_ (hstep j o hjN ho σ w _ hf (fun i v h => ⟨_, _, hV i v h⟩) hdep (fillG_defers _ _ _ _) (fun s hs' => by simpa [Act.eval] using fill_other _ 0 a0 fun d hd' => of_decide_eq_true (List.all_eq_true.1 hs' d hd')) (fun k s v h1 h2 h3 => by simpa [Act.eval] using fill_at (dstL ops) 0 k a0 (apart_spec hd) h2 h1 (by rw [Nat.zero_add]; exact h3)))
        rintro a' w' ⟨v, rfl, r1, r2⟩
        have hdd : (dstL ops)[j]? = some o.dst := by simp [dstL, ho]
        rw [← fill_upd (v := v) (dstL ops) 0 j a0 o.dst (apart_spec hd) hdd (by rw [Nat.zero_add]; exact hsn), Nat.zero_add]
        refine ih _ _ _ (fun k => if k = j then (w.heap.size, w'.heap.size) else β k) (by simp [hs]) (closed_step hcl hj) (fun k hk => ?_) (fun k hk => ?_) (hf.trans r2) (fun k u hu => ?_) (fun i k x y hx hy hik => ?_) ?_
        · by_cases e : k = j
          · subst e
            have : k < listed.size := by omega
            simp [updS, this]
          · rw [Array.getElem?_setIfInBounds_ne (fun x => e x.symm), ← hσ k hk]
            simp [updS, e]
        · rw [ups_other (by omega)]
          exact hnone k hk
        · by_cases e : k = j
          · subst e
            rw [ups_same] at hu
            obtain rfl := Option.some.inj hu
            rw [if_pos rfl]
            exact ⟨hf.size, Nat.le_refl _, r1⟩
          · rw [ups_other e] at hu
            rw [if_neg e]
            obtain ⟨q1, q2, q3⟩ := hV k u hu
            exact ⟨q1, Nat.le_trans q2 r2.size, hmono k _ _ u w w' q3 r2⟩
        · by_cases e : i = j
          · subst e
            rw [ups_other (fun e => hik e.symm)] at hy
            rw [if_pos rfl, if_neg (fun e => hik e.symm)]
            exact .inr (hV k y hy).2.1
          · rw [ups_other e] at hx
            rw [if_neg e]
            by_cases e2 : k = j
            · subst e2
              rw [if_pos rfl]
              exact .inl (hV i x hx).2.1
            · rw [ups_other e2] at hy
              rw [if_neg e2]
              exact hdj i k x y hx hy hik
        · have h1 := filter_less (p := fun k => !(listed[k]?.getD false)) (q := fun k => !((listed.setIfInBounds j true)[k]?.getD false)) (j := j) (by simp [hjl]) (by
            have : j < listed.size := by omega
            simp [this]) (fun k hk => by rw [Array.getElem?_setIfInBounds_ne (fun x => hk x.symm)]) N hjN
          omega
  have hstart := key N (Array.replicate ops.size false) (fun _ => none) w0 (fun _ => (0, 0)) (by simp) (closed_spec.2 fun j o _ hl => by simp [Array.getElem?_replicate] at hl; split at hl <;> cases hl) (fun j hj => by simp [hj]) (fun _ _ => rfl) (Fr.refl _ _) (fun _ _ h => by cases h) (fun _ _ _ _ h _ _ => by cases h) (by
    have : (List.range N).filter (fun j => !((Array.replicate ops.size false)[j]?.getD false)) = List.range N := by
      rw [List.filter_eq_self]
      intro j hj
      simp [show j < ops.size by have := List.mem_range.1 hj; omega]
    rw [this, List.length_range])
  have hfill : ∀ (ds : List (Option Tmp)) (i : Nat), fillL ds i (fun _ => none) a0 = a0 := by
    intro ds
    induction ds with
    | nil => intro i; rfl
    | cons d r ihr => intro i; exact ihr (i + 1)
  rw [hfill, show N + (ops.size - N) = ops.size by omega] at hstart
  exact hstart
end
end Go.Proofs.Ytpnihegmhalcfaa
