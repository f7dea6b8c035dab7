/-
  Chapter 25's statements: the example.
  Chapter 25's statements: what the example comes to.
  Package run: run.
-/
import Derived.Test.YtpnihegmhalcfaaRunG25
import Derived.Test.YtpnihegmhalcfaaRunG28
import Derived.Test.YtpnihegmhalcfaaRunG12
import Derived.Test.YtpnihegmhalcfaaRunG11
import Derived.Test.YtpnihegmhalcfaaRunG30
import Derived.Test.YtpnihegmhalcfaaRunG33
import Derived.Test.YtpnihegmhalcfaaRunG31
import Derived.Test.YtpnihegmhalcfaaRunG01
namespace Go.Proofs.Ytpnihegmhalcfaa
open Go.RowKit Go.MapKept Go.ChangeMaps
set_option maxHeartbeats 400000

/-- The example: s: A s | . -/
def exG : Gram := ⟨2, [plS ⟨#[36, 101, 110, 100]⟩, plS ⟨#[65]⟩, plS ⟨#[36, 97, 99, 99, 101, 112, 116]⟩, plS ⟨#[115]⟩], [plP 2 [3], plP 3 [1, 3], plP 3 []]⟩
theorem ex_right : rightG exG = true := by kernel_rfl
theorem example_any (w : World) :
    Calls Try.prog 18 #[] w fun e w' => ∃ v, e = .returned v ∧ IsGram w' v exG ∧ Below w.heap.size w w' := by
  go_enter Try.func18, Try.ntmps18
  go_wp2
  go_returns
  refine ⟨_, rfl, ?_, by repeat (first | exact Below.refl _ _ | refine below_alloc ?_)⟩
  have key : ∀ wf : World,
      wf.heap[w.heap.size + 1]? = some (.cells (exG.syms.flatMap symCells).toArray 64 (0, 0)) →
      wf.heap[w.heap.size + 1 + 1]? = some (.cells #[.int .i64 3] 3 (0, 0)) →
      wf.heap[w.heap.size + 1 + 1 + 1]? = some (.cells #[.int .i64 1, .int .i64 3] 3 (0, 0)) →
      wf.heap[w.heap.size + 1 + 1 + 1 + 1]? = some (.cells (([(plP 2 [3], .slice (some ⟨w.heap.size + 1 + 1, 0, none⟩) 1 1), (plP 3 [1, 3], .slice (some ⟨w.heap.size + 1 + 1 + 1, 0, none⟩) 2 2), (plP 3 [], .slice none 0 0)] : List (Prd × Value)).flatMap cellsP).toArray 46 (0, 0)) →
      IsGram wf (.agg #[.int .i64 2, .slice (some ⟨w.heap.size + 1, 0, none⟩) 4 4, .slice (some ⟨w.heap.size + 1 + 1 + 1 + 1, 0, none⟩) 3 3]) exG := by
    intro wf h1 h2 h3 h5
    refine ⟨show i64 2 by unfold i64; decide, _, _, rfl, syms_obj h1 rfl ?_ rfl (by simp [exG]), ?_⟩
    · intro s hs
      simp only [exG, List.mem_cons, List.not_mem_nil, or_false] at hs
      rcases hs with rfl | rfl | rfl | rfl <;> exact plS_ok _
    · refine prds_obj h5 rfl ?_ rfl (by simp)
      intro x hx
      simp only [List.mem_cons, List.not_mem_nil, or_false] at hx
      rcases hx with rfl | rfl | rfl
      · exact ⟨plP_ok (by unfold i64; decide), ints_obj (xs := [3]) h2 rfl (by decide) rfl (by decide)⟩
      · exact ⟨plP_ok (by unfold i64; decide), ints_obj (xs := [1, 3]) h3 rfl (by decide) rfl (by decide)⟩
      · exact ⟨plP_ok (by unfold i64; decide), ⟨by simp [plP], by simp [plP], none, 0, rfl, Nat.le_refl _, by unfold maxLen; omega, .inl rfl⟩⟩
  refine key _ ?_ ?_ ?_ ?_
  all_goals repeat (first | (refine alloc_at ?_; simp; done) | refine alloc_older ?_)
def exKs : List (List It) := ((colI exG).getD ([], [])).1
def exGs : List (List (Int × Int)) := ((colI exG).getD ([], [])).2
theorem ex_col : colI exG = some (exKs, exGs) := by kernel_rfl
theorem ex_in : InG exG := by
  intro p hp
  simp only [exG, List.mem_cons, List.not_mem_nil, or_false] at hp
  rcases hp with rfl | rfl | rfl <;> (unfold InN; simp [plP, exG])
theorem ex_used : usedG exG = true := by
  unfold usedG
  rw [← rounds_makes ex_in]
  kernel_rfl
def exT : Tbl := makeT exG exKs exGs (aheadL exG exKs exGs) exKs.length
theorem ex_rightT : rightT exG exT = true := by kernel_rfl
end Go.Proofs.Ytpnihegmhalcfaa
namespace Go.Proofs.Ytpnihegmhalcfaa
set_option maxHeartbeats 400000

def stA : Au := ((runU exG exT [1, 1] 20 startU).getD (0, startU)).2
def stB : Au := ((runU exG exT [1, 2] 20 startU).getD (0, startU)).2
theorem run_A : RunTo exG exT [1, 1] (0, stA) := by
  unfold RunTo
  rw [if_pos ex_rightT]
  exact ⟨20, by kernel_rfl⟩
theorem run_B : RunTo exG exT [1, 2] (309, stB) := by
  unfold RunTo
  rw [if_pos ex_rightT]
  exact ⟨20, by kernel_rfl⟩
theorem stA_pos : stA.pos = 2 := by kernel_rfl
theorem stB_pos : stB.pos = 1 := by kernel_rfl
theorem stA_prods : stA.prods = [2, 1, 1] := by kernel_rfl
theorem stA_p : (lastT stA.stack).p = 1 := by kernel_rfl
theorem stA_kids : (lastT stA.stack).kids.len = 2 := by kernel_rfl
theorem stA_kid : ((lastT stA.stack).kids.get 1).p = 1 := by kernel_rfl
end Go.Proofs.Ytpnihegmhalcfaa
namespace Go.Proofs.Ytpnihegmhalcfaa
open Go.RowKit Go.MapKept Go.ChangeMaps
set_option maxHeartbeats 400000

theorem assert_err (e : Int) (w : World) : (Instr.typeAssert (.iface 41 (.int .i64 e)) 20 41 false).run Try.prog w = .ok (.int .i64 e) w := by kernel_rfl
set_option maxRecDepth 100000 in
set_option maxHeartbeats 4000000 in
theorem run1_caught (pe : Nat) (x e : Int) (older : List PanicEntry) (w : World) (hc : w.cell? ⟨pe, 0, none⟩ = some (.int .i64 x)) (hz : w.frozen? ⟨pe, 0, none⟩ = false) :
    CallsD Try.prog 66 #[.pointer (some ⟨pe, 0, none⟩)] (.panicking ({ v := errV e, recovered := false } :: older)) w fun q u' w' =>
      q = .returned (.tuple #[]) ∧ u' = .panicking ({ v := errV e, recovered := true } :: older) ∧ w' = w.setCell ⟨pe, 0, none⟩ (.int .i64 e) := by
  unfold errV
  refine callsD_of_wpS Try.func66 rfl fun c₀ cs hu => ?_
  apply wpS_seq
  apply wpS_region
  simp [wpOpsS, go_sem, recoverD, hu, Try.ntmps66, Exit.thenS]
  simp only [Array.replicate_succ, Array.replicate_zero, List.push_toArray, List.append_toArray, List.nil_append, List.cons_append, List.setIfInBounds_toArray, List.set_cons_succ, List.set_cons_zero]
  refine wpS_of_wp ?_
  have hta := assert_err e
  go_wp2
  exact ⟨rfl, _, rfl, _, by simp [results, Try.results66], rfl, rfl, rfl⟩

theorem wpList_insert_new {P : Program} (w : World) {ops : Array Oper} {rest : List Oper} {o : Oper} {a : Act} {Q : Exit → Act → World → Prop}
    (hg : o.guard = none) (m x v : Operand) (t : TypeId) (hop : o.op = Op.insert t m x v) (kt et : TypeId) (d : TypeDesc) (ht : P.underlying t = some (.map kt et)) (hd : P.underlying kt = some d)
    (b : Nat) (kv : List (Value × Value)) (hm : a.eval m = .map (some b)) (h : IsMap w d b kv) (key val : Value) (hx : a.eval x = key) (hv : a.eval v = val) (hk : IsKey d key) (hn : ∀ x ∈ kv, x.1 ≠ key)
    (hK : ∀ w', IsMap w' d b (kv ++ [(key, val)]) → Fr (only b) w w' → wpList P ops Q rest (a.put o.dst undef) w') : wpList P ops Q (o :: rest) a w := by
  refine wpList_plain hg fun K' hK' => ?_
  obtain ⟨w', hrun, r1, r2⟩ := h.store_new ht hd hk hn val
  unfold Oper.wp
  simp [execOp, hop, hm, hx, hv, hrun, Result.andThen]
  exact hK' _ _ (hK w' r1 r2)

section
variable {G : Gram} {T : Tbl} {terms : List Int}
theorem entAt_ok (hT : rightT G T = true) {s t : Int} (hs : 0 ≤ s ∧ s < (T.acts.length : Int)) (ht : 0 ≤ t ∧ t < G.terms) : entryB G T.acts.length t (entAt T s t) = true ∧ ∃ (sn tn : Nat) (hsn : sn < T.acts.length) (htn : tn < T.acts[sn].length), s = (sn : Int) ∧ t = (tn : Int) ∧ entAt T s t = T.acts[sn][tn] := by
  have hTP := rightT_parts hT
  obtain ⟨sn, rfl⟩ : ∃ sn : Nat, s = (sn : Int) := ⟨s.toNat, by omega⟩
  obtain ⟨tn, rfl⟩ : ∃ tn : Nat, t = (tn : Int) := ⟨t.toNat, by omega⟩
  have hsn : sn < T.acts.length := by omega
  have hsg : sn < T.gotos.length := by rw [hTP.2.2.2.1]; exact hsn
  have hrB := rowB_parts (rowsB_at T.acts T.gotos sn hsn hsg hTP.2.2.2.2)
  have htn : tn < T.acts[sn].length := by have := hrB.1; omega
  have he : entAt T (sn : Int) (tn : Int) = T.acts[sn][tn] := by
    unfold entAt
    rw [Int.toNat_natCast, Int.toNat_natCast, List.getD_eq_getElem?_getD, List.getD_eq_getElem?_getD, List.getElem?_eq_getElem hsn, Option.getD_some, List.getElem?_eq_getElem htn]
    rfl
  refine ⟨?_, sn, tn, hsn, htn, rfl, rfl, he⟩
  rw [he]
  have := entsB_at T.acts[sn] 0 tn htn hrB.2.2.2
  rw [Nat.zero_add] at this
  exact this
/-- What an entry that may stand can be. -/
theorem entryB_kinds {n : Nat} {t : Int} {x : Ac} (h : entryB G n t x = true) : x.kind = 0 ∨ x.kind = 3 ∨ (x.kind = 1 ∧ 0 < t ∧ 0 ≤ x.dst ∧ x.dst < (n : Int)) ∨ (x.kind = 2 ∧ 1 ≤ x.dst ∧ x.dst < (G.prods.length : Int)) := by
  unfold entryB at h
  split at h
  · rename_i e; exact .inl e
  · split at h
    · rename_i e; exact .inr (.inl e)
    · split at h
      · rename_i e
        simp only [Bool.and_eq_true, decide_eq_true_eq] at h
        exact .inr (.inr (.inl ⟨e, h.1, h.2.1, h.2.2⟩))
      · split at h
        · rename_i e
          simp only [Bool.and_eq_true, decide_eq_true_eq] at h
          exact .inr (.inr (.inr ⟨e, h.1, h.2⟩))
        · cases h
theorem startU_ok (hT : rightT G T = true) : AuOk G T terms startU := by
  have := (rightT_parts hT).2.1
  refine ⟨Nat.le_refl _, by simp [startU], by simp [startU], by simp [startU], Nat.zero_le _, fun x hx => ?_, fun k hk => by simp [startU] at hk⟩
  simp only [startU, List.mem_singleton] at hx
  subst hx
  exact ⟨Int.le_refl _, by show (0 : Int) < _; omega⟩
set_option maxRecDepth 100000 in
theorem shift_ok {st : Au} (h : AuOk G T terms st) (hp : st.pos < terms.length) {d : Int} (hd : 0 ≤ d ∧ d < (T.acts.length : Int)) : AuOk G T terms ⟨st.stack ++ [(d, ⟨-1, (st.pos : Int), .nil⟩)], st.pos + 1, 0, st.prods⟩ := by
  have h1 := h.len
  have h2 := h.prods
  have h3 := h.since
  refine ⟨by simp, ?_, ?_, Nat.zero_le _, hp, fun x hx => ?_, h.prd⟩
  · dsimp only
    rw [List.length_append, List.length_singleton]
    omega
  · have h4 : st.pos * 4098 + st.since ≤ (st.pos + 1) * 4098 := by omega
    exact Nat.le_trans h2 h4
  · rcases List.mem_append.1 hx with hx | hx
    · exact h.num x hx
    · rw [List.mem_singleton.1 hx]
      exact hd
theorem red_ok (hT : rightT G T = true) {st st' : Au} (h : AuOk G T terms st) {k : Int} (hk : 1 ≤ k ∧ k < (G.prods.length : Int)) (e : redU G T st k = .inr st') : AuOk G T terms st' := by
  have hTP := rightT_parts hT
  obtain ⟨kn, rfl⟩ : ∃ kn : Nat, k = (kn : Int) := ⟨k.toNat, by omega⟩
  have hkn : kn < G.prods.length := by omega
  have hp : prdAt G (kn : Int) = G.prods[kn] := by
    unfold prdAt
    rw [Int.toNat_natCast, List.getD_eq_getElem?_getD, List.getElem?_eq_getElem hkn]
    rfl
  unfold redU at e
  rw [hp] at e
  have hpl := right_left2 hTP.1 kn hkn (by omega)
  have hgp := (rightG_parts hTP.1).1
  split at e
  · cases e
  · rename_i e1
    split at e
    · cases e
    · rename_i e2
      split at e
      · cases e
      · rename_i e3
        obtain rfl := Sum.inr.inj e
        have h1 := h.len
        have h2 := h.prods
        obtain ⟨m, hm⟩ : ∃ m, st.stack.length - G.prods[kn].right.length = m := ⟨_, rfl⟩
        rw [hm] at e3 ⊢
        have hSl : (st.stack.take m).length = m := by rw [List.length_take]; omega
        refine ⟨by simp, ?_, ?_, by show st.since + 1 ≤ 4096; omega, h.pos, fun x hx => ?_, fun q hq => ?_⟩
        · dsimp only
          rw [List.length_append, hSl, List.length_singleton]
          omega
        · dsimp only
          rw [List.length_append, List.length_singleton]
          omega
        · rcases List.mem_append.1 hx with hx | hx
          · exact h.num x (List.mem_of_mem_take hx)
          · rw [List.mem_singleton.1 hx]
            show 0 ≤ gotoAt T _ _ ∧ gotoAt T _ _ < _
            obtain ⟨y, hy, hyn, -⟩ := lastN_mem (l := st.stack.take m) (by omega)
            have hyr := h.num y (List.mem_of_mem_take hy)
            obtain ⟨tn, htn⟩ : ∃ tn : Nat, lastN (st.stack.take m) = (tn : Int) := ⟨(lastN (st.stack.take m)).toNat, by omega⟩
            obtain ⟨d, hd⟩ : ∃ d : Nat, G.prods[kn].left - G.terms = (d : Int) := ⟨(G.prods[kn].left - G.terms).toNat, by omega⟩
            have htnl : tn < T.gotos.length := by rw [hTP.2.2.2.1]; omega
            have htna : tn < T.acts.length := by omega
            have hrB := rowB_parts (rowsB_at T.acts T.gotos tn htna htnl hTP.2.2.2.2)
            have hdl : d < T.gotos[tn].length := by have := hrB.2.1; omega
            have hzr := hrB.2.2.1 T.gotos[tn][d] (List.getElem_mem _)
            have hgoto : gotoAt T (lastN (st.stack.take m)) (G.prods[kn].left - G.terms) = T.gotos[tn][d] := by
              unfold gotoAt
              rw [htn, hd, Int.toNat_natCast, Int.toNat_natCast, List.getD_eq_getElem?_getD, List.getD_eq_getElem?_getD, List.getElem?_eq_getElem htnl, Option.getD_some, List.getElem?_eq_getElem hdl]
              rfl
            rw [hgoto] at e3 ⊢
            omega
        · rcases List.mem_append.1 hq with hq | hq
          · exact h.prd q hq
          · rw [List.mem_singleton.1 hq]
            exact hk
theorem step_none {st : Au} (h : nextT G terms st.pos = none) : stepU G T terms st = .inl (309, st) := by
  unfold stepU
  rw [h]
theorem step_shift {st : Au} {t : Int} (h : nextT G terms st.pos = some t) (hk : (entAt T (lastN st.stack) t).kind = 1) : stepU G T terms st = .inr ⟨st.stack ++ [((entAt T (lastN st.stack) t).dst, ⟨-1, (st.pos : Int), .nil⟩)], st.pos + 1, 0, st.prods⟩ := by
  unfold stepU
  rw [h]
  simp only
  rw [if_pos hk]
theorem step_red {st : Au} {t : Int} (h : nextT G terms st.pos = some t) (hk : (entAt T (lastN st.stack) t).kind = 2) : stepU G T terms st = match redU G T st (entAt T (lastN st.stack) t).dst with | .inl x => .inl (x, st) | .inr st' => .inr st' := by
  unfold stepU redU
  rw [h]
  simp only
  rw [if_neg (by rw [hk]; decide), if_pos hk]
  split
  · rfl
  · split
    · rfl
    · split <;> rfl
theorem step_acc {st : Au} {t : Int} (h : nextT G terms st.pos = some t) (hk : (entAt T (lastN st.stack) t).kind = 3) : stepU G T terms st = .inl (if st.stack.length = 1 then 4 else 0, st) := by
  unfold stepU
  rw [h]
  simp only
  rw [if_neg (by rw [hk]; decide), if_neg (by rw [hk]; decide), if_pos hk]
  split <;> rfl
theorem step_err {st : Au} {t : Int} (h : nextT G terms st.pos = some t) (hk : (entAt T (lastN st.stack) t).kind = 0) : stepU G T terms st = .inl (308, st) := by
  unfold stepU
  rw [h]
  simp only
  rw [if_neg (by rw [hk]; decide), if_neg (by rw [hk]; decide), if_neg (by rw [hk]; decide)]
end
end Go.Proofs.Ytpnihegmhalcfaa
