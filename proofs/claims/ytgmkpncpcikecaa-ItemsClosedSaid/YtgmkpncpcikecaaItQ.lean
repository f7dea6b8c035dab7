/-
  The kit: lists of states are the same.
-/
import Derived.Test.YtgmkpncpcikecaaItP
namespace Go.Proofs.Ytgmkpncpcikecaa
open Go.RowKit Go.MapKept Go.ChangeMaps
set_option maxHeartbeats 400000

set_option maxRecDepth 100000 in
set_option maxHeartbeats 4000000 in
theorem sameStates_any (u v : Value) (K L : List Stt) (w : World) (hu : IsStates w u K) (hv : IsStates w v L) :
    Calls Try.prog 26 #[u, v] w fun e w' => e = .returned (.bool (decide (K = L))) ∧ Below w.heap.size w w' := by
  have HU := Lib.hid hu
  have HV := Lib.hid hv
  obtain ⟨ua, uc, rfl, -, -, hKl⟩ := hu.parts
  obtain ⟨va, vc, rfl, -, -, hLl⟩ := hv.parts
  clear hu hv
  by_cases hlen : K.length = L.length
  · obtain ⟨n, hn⟩ : ∃ n, K.length = n := ⟨_, rfl⟩
    have hn' : L.length = n := by omega
    rw [hn] at hKl HU ⊢
    rw [hn'] at HV ⊢
    have HN := Lib.hid (And.intro hn hn')
    clear hn hn' hlen hLl
    go_enter Try.func26, Try.ntmps26
    go_wp2
    go_loopw [5] (fun i wr => ∃ k : Nat, k ≤ n ∧ i = .int .i64 k ∧ K.take k = L.take k ∧ Below w.heap.size w wr) (fun i _ => n - (intOf i).toNat)
    case atStart => exact ⟨0, Nat.zero_le _, rfl, rfl, Below.refl _ _⟩
    case round =>
      obtain ⟨k, hk, rfl, htk, hB⟩ := hrel
      by_cases hlt : k < n
      · have h1 : k < K.length := by rw [HN.out.1]; exact hlt
        have h2 : k < L.length := by rw [HN.out.2]; exact hlt
        obtain ⟨b1, o1, rfl, ku, gu, i1, i2, c0, c1⟩ := (HU.out.fr (Fr.new hB)).at h1
        obtain ⟨b2, o2, rfl, kv, gv, i3, i4, d0, d1⟩ := (HV.out.fr (Fr.new hB)).at h2
        have hte := take_eq h1 h2 htk
        have hfin : K[k] ≠ L[k] → decide (K = L) = false := fun hne => by
          rw [decide_eq_false_iff_not]
          rintro rfl
          exact hne rfl
        have HS := Lib.hid fun p : After wr => after_call p (sameState_any ku gu kv gv K[k] L[k] p.w (i1.fr (Fr.new p.ok)) (i2.fr (Fr.new p.ok)) (i3.fr (Fr.new p.ok)) (i4.fr (Fr.new p.ok)))
        obtain ⟨a1, p1, rfl, -, -, -⟩ := i1.parts
        obtain ⟨a2, p2, rfl, -, -, -⟩ := i2.parts
        obtain ⟨a3, p3, rfl, -, -, -⟩ := i3.parts
        obtain ⟨a4, p4, rfl, -, -, -⟩ := i4.parts
        clear i1 i2 i3 i4
        have e0 := after_cell c0
        have e1 := after_cell c1
        have f0 := after_cell d0
        have f1 := after_cell d1
        have hne := after_ne wr
        clear c0 c1 d0 d1
        generalize K[k] = x at *
        generalize L[k] = y at *
        have HTE := Lib.hid (And.intro hte hfin)
        have HBH := Lib.hid hB
        clear hte hfin htk h1 h2 hB
        by_cases hxy : x = y
        · rw [decide_eq_true hxy] at HS
          have HXY := Lib.hid (HTE.out.1 hxy)
          clear hxy HTE
          go_upto_region 6 with fail
          refine wp_region_after wr (by kernel_rfl) (by kernel_rfl) (Below.refl _ _) ?_
          repeat (go_big_quiet_step (exact HS.out _))
          refine wpQuiet_nil ?_
          intro _ hw'
          obtain ⟨p, hw''⟩ := hw'
          subst hw''
          go_wp2
          go_roundw
          case rel => exact ⟨k + 1, by omega, by simp, HXY.out, HBH.out.trans (p.ok.mono HBH.out.size)⟩
          case measure => simp [intOf]; omega
        · rw [decide_eq_false hxy] at HS
          have HF := Lib.hid (HTE.out.2 hxy)
          clear hxy HTE
          go_upto_region 6 with fail
          refine wp_region_after wr (by kernel_rfl) (by kernel_rfl) (Below.refl _ _) ?_
          repeat (go_big_quiet_step (exact HS.out _))
          refine wpQuiet_nil ?_
          intro _ hw'
          obtain ⟨p, hw''⟩ := hw'
          subst hw''
          go_wp2
          go_ret
          exact ⟨by rw [HF.out]; rfl, HBH.out.trans (p.ok.mono HBH.out.size)⟩
      · obtain rfl : k = n := by omega
        have hKL : K = L := by
          rw [← List.take_of_length_le (Nat.le_of_eq HN.out.1), ← List.take_of_length_le (Nat.le_of_eq HN.out.2), htk]
        have HF := Lib.hid (decide_eq_true hKL)
        clear hKL htk hlt
        go_wp2
        go_ret
        exact ⟨by rw [HF.out]; rfl, hB⟩
  · have hF : decide (K = L) = false := by
      rw [decide_eq_false_iff_not]
      rintro rfl
      exact hlen rfl
    have HF := Lib.hid hF
    have hne : ((K.length : Int) == (L.length : Int)) = false := beq_eq_false_iff_ne.2 (by omega)
    clear hF hlen
    generalize K.length = kn at *
    generalize L.length = ln at *
    go_enter Try.func26, Try.ntmps26
    go_wp2
    go_ret
    exact ⟨by rw [HF.out]; rfl, Below.refl _ _⟩
theorem row_items {w : World} {B : Nat} {e : TypeId} {v : Value} {l : List It} (h : w.ownsRow B e 2 v l.length (l.flatMap encI)) (hi : ∀ x ∈ l, i64 x.1 ∧ i64 x.2) (hl : l.length ≤ 17592186044416) : IsItems w v l := by
  obtain ⟨a, c, rfl, h1, h2, h3⟩ := own_as_cells2 h
  refine ⟨hl, a, c, rfl, h1, h2, ?_⟩
  rcases h3 with h3 | ⟨g, rfl, _, hc⟩
  · left
    cases l with
    | nil => rfl
    | cons x l => simp [encI] at h3
  · refine .inr ⟨g, 0, rfl, fun i hi' => ⟨hi _ (List.getElem_mem hi'), fun j hj => ?_⟩⟩
    have hj2 : j < 2 := by simpa [encI] using hj
    have hlt : i * 2 + j < (l.flatMap encI).length := by rw [enc_len]; omega
    have h5 := hc (i * 2 + j) hlt
    have h6 := enc_flat_at hi' j hj2
    rw [List.getElem?_eq_getElem hlt, List.getElem?_eq_getElem hj] at h6
    simp only [Nat.zero_add, Option.some.injEq] at h5 h6 ⊢
    rw [h5, h6]
/-- What lies as states of its own reads as states. -/
theorem StsM.states {w : World} {B sb am : Nat} {lv : Value} {vs : List (Value × Value)} {ks : List (List It)} {es : List (List (Int × Int))} (h : StsM w B sb am lv vs ks es) (hl : vs.length ≤ 1000) (hk : ∀ k ∈ ks, k.length ≤ 1000000) (he : ∀ e ∈ es, e.length ≤ 1000000 ∧ ∀ x ∈ e, i64 x.1 ∧ i64 x.2)
    : IsStates w lv (ks.zip es) := by
  have hz : (ks.zip es).length = vs.length := by rw [List.length_zip, h.lk, h.le]; omega
  refine ⟨by omega, ?_⟩
  obtain ⟨a, c, hv, h1, h2, h3⟩ := own_as_cells2 h.own
  refine ⟨a, c, by rw [hz]; exact hv, by omega, h2, ?_⟩
  by_cases h0 : vs.length = 0
  · left
    exact List.eq_nil_of_length_eq_zero (by omega)
  · obtain ⟨lb, c', hv', hb, hcell, _⟩ := h.cells (by omega)
    rw [hv] at hv'
    simp only [Value.slice.injEq, true_and] at hv'
    obtain ⟨rfl, rfl⟩ := hv'
    refine .inr ⟨lb, 0, rfl, fun i hi => ?_⟩
    have hi' : i < vs.length := by omega
    have hik : i < ks.length := by rw [h.lk]; exact hi'
    have hie : i < es.length := by rw [h.le]; exact hi'
    obtain ⟨q0, q1⟩ := hcell i hi'
    have e1 := h.ker i hi'
    have e2 := h.edg i hi'
    rw [List.getD_eq_getElem?_getD, List.getElem?_eq_getElem hik, Option.getD_some] at e1
    rw [List.getD_eq_getElem?_getD, List.getElem?_eq_getElem hie, Option.getD_some] at e2
    rw [List.getElem_zip, Nat.zero_add]
    have hks := hk _ (List.getElem_mem hik)
    have hes := he _ (List.getElem_mem hie)
    refine ⟨vs[i].1, vs[i].2, e1.items (fun x hx => smallI_i64 (h.small _ (List.getElem_mem hik) x hx)) (by omega), row_items e2 hes.2 (by show es[i].length ≤ _; omega), q0, q1⟩
end Go.Proofs.Ytgmkpncpcikecaa
