/-
  A region that draws its order, walked with its reads taken first: behind operation j the facts F j are to be shown anew; a read asks for facts R that follow from F j for those j alone that may come up while it is still to come (T). So a region's last stores may turn what it has read.
-/
import Derived.Test.YtgmkpncpcikecaaBase
import Derived.Deep.RegionHeld
namespace Go.Proofs.Ytgmkpncpcikecaa
open Go.RowKit

section
variable {P : Program} {md : Region.Mode} {ops : Array Oper} {Q : Exit → Act → World → Prop} {F : Nat → World → Prop}
/-- Whatever order is drawn: behind operation j the facts F j hold. -/
def AnyT (P : Program) (md : Region.Mode) (ops : Array Oper) (Q : Exit → Act → World → Prop) (F : Nat → World → Prop) : Nat → Array Bool → Act → World → Prop
  | 0, listed, a, w => Region.ready md ops listed = [] ∧ Q .normal a w
  | n + 1, listed, a, w => (Region.ready md ops listed = [] → Q .normal a w) ∧
      ∀ j ∈ Region.ready md ops listed, wpOp P ops Q j (fun a' w' => F j w' ∧ AnyT P md ops Q F n (listed.setIfInBounds j true) a' w') a w
theorem anyT_any : ∀ (n : Nat) (listed : Array Bool) (a : Act) (w : World), AnyT P md ops Q F n listed a w → wpAny P md ops Q n listed a w
  | 0, _, _, _, h => h
  | n + 1, _, _, _, h => ⟨h.1, fun j hj => wpOp_mono (fun a' w' k => anyT_any n _ a' w' k.2) (h.2 j hj)⟩
/-- Operation j waits for operation i, itself or by others. -/
def waitsB (md : Region.Mode) (ops : Array Oper) : Nat → Nat → Nat → Bool
  | 0, _, _ => false
  | n + 1, j, i => match ops[j]? with
    | some o => o.after.toList.any fun e => Region.binds md e && (decide (e.on = i) || waitsB md ops n e.on i)
    | none => false
/-- What stands behind others is listed behind them. -/
def closedB (md : Region.Mode) (ops : Array Oper) (listed : Array Bool) : Bool :=
  (List.range ops.size).all fun j => !(listed[j]?.getD false) || (match ops[j]? with
    | some o => o.after.toList.all fun e => !Region.binds md e || listed[e.on]?.getD false
    | none => true)
theorem closed_spec {listed : Array Bool} : closedB md ops listed = true ↔ ∀ (j : Nat) (o : Oper), ops[j]? = some o → listed[j]?.getD false = true → ∀ e ∈ o.after, Region.binds md e = true → listed[e.on]?.getD false = true := by
  unfold closedB
  rw [List.all_eq_true]
  constructor
  · intro h j o hj hl e he hb
    have := h j (List.mem_range.2 (Array.getElem?_eq_some_iff.1 hj).1)
    rw [hj, hl] at this
    simp only [Bool.not_true, Bool.false_or, List.all_eq_true] at this
    have := this e (Array.mem_toList_iff.2 he)
    rw [hb] at this
    simpa using this
  · intro h j _
    cases hl : listed[j]?.getD false
    · simp
    · cases hj : ops[j]? with
      | none => simp
      | some o =>
        simp only [Bool.not_true, Bool.false_or, List.all_eq_true]
        intro e he
        cases hb : Region.binds md e
        · simp
        · simpa using h j o hj hl e (Array.mem_toList_iff.1 he) hb
theorem waits_not {listed : Array Bool} {i : Nat} (hc : closedB md ops listed = true) (hi : listed[i]?.getD false = false) :
    ∀ (n j : Nat), (∀ o, ops[j]? = some o → ∀ e ∈ o.after, Region.binds md e = true → listed[e.on]?.getD false = true) → waitsB md ops n j i = false
  | 0, _, _ => rfl
  | n + 1, j, h => by
    unfold waitsB
    cases hj : ops[j]? with
    | none => rfl
    | some o =>
      simp only
      rw [List.any_eq_false]
      intro e he
      cases hb : Region.binds md e
      · simp
      · have hl := h o hj e (Array.mem_toList_iff.1 he) hb
        have hne : e.on ≠ i := fun x => by rw [x, hi] at hl; cases hl
        have := waits_not hc hi n e.on fun o' ho' e' he' hb' => closed_spec.1 hc e.on o' ho' hl e' he' hb'
        simp [hne, this]
theorem up_step {listed : Array Bool} (j k : Nat) (hk : listed[k]?.getD false = true) : (listed.setIfInBounds j true)[k]?.getD false = true := by
  by_cases e : j = k
  · subst e
    cases hl : listed[j]? with
    | none => rw [hl] at hk; cases hk
    | some z =>
      rw [Array.getElem?_setIfInBounds_self_of_lt (Array.getElem?_eq_some_iff.1 hl).1]
      rfl
  · rw [Array.getElem?_setIfInBounds_ne e]
    exact hk
theorem closed_step {listed : Array Bool} {j : Nat} (hc : closedB md ops listed = true) (hj : j ∈ Region.ready md ops listed) : closedB md ops (listed.setIfInBounds j true) = true := by
  obtain ⟨hun, oj, hoj, hall⟩ := mem_ready.1 hj
  rw [closed_spec]
  intro k o hk hl e he hb
  by_cases ejk : j = k
  · subst ejk
    rw [hoj] at hk
    obtain rfl := Option.some.inj hk
    exact up_step _ _ (by simpa using hall e he hb)
  · rw [Array.getElem?_setIfInBounds_ne ejk] at hl
    exact up_step _ _ (closed_spec.1 hc k o hk hl e he hb)
theorem anyT_take {i : Nat} {oi : Oper} {v : Value} {R : World → Prop} (T : Nat → Bool) (hTF : ∀ j w, T j = true → F j w → R w) (hFi : ∀ w, R w → F i w) (hi : ops[i]? = some oi) (hs : Region.noSelect ops = true)
    (hQ : ∀ c a w, Q (.panic c) (a.put oi.dst v) w → Q (.panic c) a w) :
    ∀ (n : Nat) (listed : Array Bool) (a : Act) (w : World), ((List.range ops.size).all fun j => (listed[j]?.getD false) || T j || waitsB md ops ops.size j i) = true → closedB md ops listed = true →
      Region.free md ops listed i = true → (Region.ready md ops listed).contains i = true → YieldsIf P ops R oi v a → R w →
      AnyT P md ops Q F n (listed.setIfInBounds i true) (a.put oi.dst v) w → AnyT P md ops Q F (n + 1) listed a w := by
  have key : ∀ (n : Nat) (listed : Array Bool) (a : Act) (w : World), (∀ j < ops.size, listed[j]?.getD false = true ∨ T j = true ∨ waitsB md ops ops.size j i = true) → closedB md ops listed = true →
      (∀ j oj, ops[j]? = some oj → j ≠ i → listed.getD j true = false → (∀ e ∈ oj.after, Region.binds md e = true → e.on ≠ i) → oi.apart ops oj = true) →
      i ∈ Region.ready md ops listed → YieldsIf P ops R oi v a → R w → AnyT P md ops Q F n (listed.setIfInBounds i true) (a.put oi.dst v) w → AnyT P md ops Q F (n + 1) listed a w := by
    intro n
    induction n with
    | zero =>
      intro listed a w _ _ _ hr hy hS H
      refine ⟨fun h => absurd (h ▸ hr) (by simp), fun j hj => ?_⟩
      by_cases e : j = i
      · subst e
        exact hy.wpOp hi hS ⟨hFi w hS, H⟩
      · have := ready_mono hj e
        rw [H.1] at this
        cases this
    | succ n ih =>
      intro listed a w hT hc hfree hr hy hS H
      refine ⟨fun h => absurd (h ▸ hr) (by simp), fun j hj => ?_⟩
      by_cases e : j = i
      · subst e
        exact hy.wpOp hi hS ⟨hFi w hS, H⟩
      · obtain ⟨hun, oj, hoj, hall⟩ := mem_ready.1 hj
        have hnot : ∀ e ∈ oj.after, Region.binds md e = true → e.on ≠ i := fun ed he hb heq => by
          have k1 := (mem_ready.1 hr).1
          have k2 := hall ed he hb
          rw [heq] at k2
          cases hl : listed[i]? with
          | none => simp [hl] at k2
          | some z =>
            simp [hl] at k1 k2
            rw [k1] at k2
            cases k2
        have hTj : T j = true := by
          rcases hT j (Array.getElem?_eq_some_iff.1 hoj).1 with h2 | h2 | h2
          · exfalso
            cases hl : listed[j]? with
            | none => rw [hl] at h2; cases h2
            | some z =>
              simp [hl] at hun h2
              rw [hun] at h2
              cases h2
          · exact h2
          · have hun' : listed[i]?.getD false = false := by
              have k1 := (mem_ready.1 hr).1
              cases hl : listed[i]? with
              | none => rfl
              | some z => simpa [hl] using k1
            rw [waits_not hc hun' ops.size j fun o ho e he hb => by rw [hoj] at ho; obtain rfl := Option.some.inj ho; simpa using hall e he hb] at h2
            cases h2
        have hp := wpOp_putIf hoj (hfree j oj hoj e hun hnot) (fun cs b => Region.noSelect_spec hs i oi cs b hi) (fun cs b => Region.noSelect_spec hs j oj cs b hoj) hQ hy (H.2 j (ready_mono hj e))
        refine wpOp_mono (fun a' w' k => ⟨k.2.1, ih (listed.setIfInBounds j true) a' w' (fun m hm => (hT m hm).imp (up_step j m) id) (closed_step hc hj) (fun m om hm hmi hmu hmn => ?_) (ready_mono hr (Ne.symm e)) k.1 (hTF j w' hTj k.2.1) ?_⟩) hp
        · refine hfree m om hm hmi ?_ hmn
          by_cases ejm : j = m
          · subst ejm
            exact hun
          · rw [getD_set_ne true ejm] at hmu
            exact hmu
        · rw [Array.setIfInBounds_comm _ _ e]
          exact k.2.2
  intro n listed a w hT hc hf hr hy hS H
  refine key n listed a w (fun j hj => ?_) hc (Region.free_spec hi hf) (by simpa using hr) hy hS H
  have := List.all_eq_true.1 hT j (List.mem_range.2 hj)
  simp only [Bool.or_eq_true] at this
  rcases this with (h | h) | h
  · exact .inl h
  · exact .inr (.inl h)
  · exact .inr (.inr h)
theorem anyT_ready {rs : List Nat} {n : Nat} {listed : Array Bool} {a : Act} {w : World} (hr : Region.ready md ops listed = rs) (hne : rs ≠ [])
    (h : ∀ j ∈ rs, wpOp P ops Q j (fun a' w' => F j w' ∧ AnyT P md ops Q F n (listed.setIfInBounds j true) a' w') a w) : AnyT P md ops Q F (n + 1) listed a w :=
  ⟨fun h0 => absurd (hr ▸ h0) hne, hr ▸ h⟩
theorem anyT_done {listed : Array Bool} {a : Act} {w : World} (hr : Region.ready md ops listed = []) (h : Q .normal a w) : ∀ n, AnyT P md ops Q F n listed a w
  | 0 => ⟨hr, h⟩
  | _ + 1 => ⟨fun _ => h, by rw [hr]; simp⟩
theorem wpOp_plain {j : Nat} {o : Oper} {a : Act} {w : World} {K : Act → World → Prop} (hj : ops[j]? = some o) (hg : o.guard = none) (h : Oper.wp P o a w K Q) : wpOp P ops Q j K a w := by
  unfold wpOp
  simp only [hj, Region.wanted, hg, if_true]
  exact .inl h
theorem wp_region_anyT {id : Nat} {a : Act} {w : World} (F : Nat → World → Prop) (hm : P.follows .mixedOrders = true) (h : AnyT P .any ops Q F ops.size (Array.replicate ops.size false) a w.drew) : (Code.region id ops true).wp P Q a w := by
  exact wp_region_any hm (anyT_any _ _ _ _ h)
/-- Two kinds of facts: S ahead of operation N (the first store), S' behind that one and behind operation i0. -/
def Lv (S' S : World → Prop) (N i0 j : Nat) (w : World) : Prop := (j = i0 ∨ j = N → S' w) ∧ (j < N → j ≠ i0 → S w)
variable {S' S : World → Prop} {N i0 : Nat}
theorem lv_weak (h : ∀ w, S w → S' w) (j : Nat) (w : World) (hj : decide (j ≤ N) = true) (k : Lv S' S N i0 j w) : S' w := by
  by_cases e : j = i0 ∨ j = N
  · exact k.1 e
  · have := of_decide_eq_true hj
    exact h w (k.2 (by omega) (by omega))
theorem lv_self (w : World) (h : S' w) : Lv S' S N i0 i0 w := ⟨fun _ => h, fun _ e => absurd rfl e⟩
theorem lv_strong (j : Nat) (w : World) (hj : decide (j < N ∧ j ≠ i0) = true) (k : Lv S' S N i0 j w) : S w := k.2 (of_decide_eq_true hj).1 (of_decide_eq_true hj).2
theorem lv_of {j : Nat} {w : World} (h0 : j ≠ i0) (hN : j ≠ N) (h : S w) : Lv S' S N i0 j w := ⟨fun e => absurd e (by omega), fun _ _ => h⟩
theorem lv_end {w : World} (h : S' w) : Lv S' S N i0 N w := ⟨fun _ => h, fun e => absurd e (Nat.lt_irrefl _)⟩
theorem lv_past {j : Nat} {w : World} (h0 : i0 < j) (hN : N < j) : Lv S' S N i0 j w := ⟨fun e => by omega, fun e => by omega⟩
end
end Go.Proofs.Ytgmkpncpcikecaa
