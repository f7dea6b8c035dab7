/-
  The kit: lists of items, of edges, are the same.
  The kit: lists of states are the same.
  Chapter 19's statements: the chapter's grammar.
-/
import Derived.Test.YtgmkpncpcikecaaItO
namespace Go.Proofs.Ytgmkpncpcikecaa
open Go.RowKit Go.MapKept Go.ChangeMaps
set_option maxHeartbeats 400000

theorem neEdge (x y : It) (w : World) : (binOp .neq 44 (itVal x) (itVal y)).run Try.prog w = .ok (.bool (!decide (x = y))) w := by
  have u3 := Try.underlying3
  have a3 := Try.isAgg3
  have z3 := Try.sizeOf3
  have hS : Try.prog.underlying 44 = some (.struct (Try.prog.fieldsOf 44)) := by kernel_rfl
  have hp : Try.prog.stoodInHeld 44 = false := by kernel_rfl
  obtain ⟨a, b⟩ := x
  obtain ⟨c, d⟩ := y
  unfold itVal
  rw [run_neq_struct, show (10000 : Nat) = 9999 + 1 from rfl, run_equalIn_agg w 9999 44 _ _ hS hp]
  simp only [Program.fieldsOf, Try.underlying44]
  go_simp
  by_cases h1 : a = c <;> by_cases h2 : b = d <;> simp [h1, h2]
theorem take_eq {α : Type} {K L : List α} {k : Nat} (hK : k < K.length) (hL : k < L.length) (h : K.take k = L.take k) (e : K[k] = L[k]) : K.take (k + 1) = L.take (k + 1) := by
  rw [List.take_add_one, List.take_add_one, h, List.getElem?_eq_getElem hK, List.getElem?_eq_getElem hL, e]

set_option maxRecDepth 100000 in
set_option maxHeartbeats 4000000 in
theorem sameItems_any (u v : Value) (K L : List It) (w : World) (hu : IsItems w u K) (hv : IsItems w v L) :
    Calls Try.prog 13 #[u, v] w fun e w' => e = .returned (.bool (decide (K = L))) ∧ ∃ n, w' = w.drewN n := by
  have HU := Lib.hid hu
  have HV := Lib.hid hv
  obtain ⟨ua, uc, rfl, -, -, hKl⟩ := hu.parts
  obtain ⟨va, vc, rfl, -, -, hLl⟩ := hv.parts
  clear hu hv
  by_cases hlen : K.length = L.length
  · obtain ⟨n, hn⟩ : ∃ n, K.length = n := ⟨_, rfl⟩
    have hn' : L.length = n := by omega
    rw [hn] at hKl HU ⊢
    rw [hn'] at HV ⊢
    have HN := Lib.hid (And.intro hn hn')
    clear hn hn' hlen hLl
    go_enter Try.func13, Try.ntmps13
    go_wp2
    go_loopw [5] (fun i wr => ∃ k : Nat, k ≤ n ∧ i = .int .i64 k ∧ K.take k = L.take k ∧ ∃ m, wr = w.drewN m) (fun i _ => n - (intOf i).toNat)
    case atStart => exact ⟨0, Nat.zero_le _, rfl, rfl, 0, rfl⟩
    case round =>
      obtain ⟨k, hk, rfl, htk, m, hwm⟩ := hrel
      have hfr : Fr nothing w wr := by rw [hwm]; exact Fr.drewN w m
      have HW := Lib.hid hwm
      clear hwm
      by_cases hlt : k < n
      · have h1 : k < K.length := by rw [HN.out.1]; exact hlt
        have h2 : k < L.length := by rw [HN.out.2]; exact hlt
        obtain ⟨b1, o1, rfl, c0, c1, -, -⟩ := (HU.out.fr hfr).at h1
        obtain ⟨b2, o2, rfl, d0, d1, -, -⟩ := (HV.out.fr hfr).at h2
        have hneq := neItem K[k] L[k]
        have hte := take_eq h1 h2 htk
        have hfin : K[k] ≠ L[k] → decide (K = L) = false := fun hne => by
          rw [decide_eq_false_iff_not]
          rintro rfl
          exact hne rfl
        generalize K[k] = x at *
        generalize L[k] = y at *
        have HTE := Lib.hid (And.intro hte hfin)
        clear hte hfin htk h1 h2
        by_cases hxy : x = y
        · have hne : (decide (x = y)) = true := decide_eq_true hxy
          rw [hne] at hneq
          have HXY := Lib.hid hxy
          unfold itVal at hneq
          clear hxy hne
          obtain ⟨x1, x2⟩ := x
          obtain ⟨y1, y2⟩ := y
          simp only at c0 c1 d0 d1 hneq
          go_upto_region 6 with fail
          go_quiet (fail)
          go_wp2
          go_roundw
          case rel => exact ⟨k + 1, by omega, by simp, HTE.out.1 HXY.out, _, by rw [HW.out, World.drewN_drewN]⟩
          case measure => simp [intOf]; omega
        · have hne : (decide (x = y)) = false := decide_eq_false hxy
          rw [hne] at hneq
          have hfin := HTE.out.2 hxy
          have HF := Lib.hid hfin
          unfold itVal at hneq
          clear hxy hne hfin
          obtain ⟨x1, x2⟩ := x
          obtain ⟨y1, y2⟩ := y
          simp only at c0 c1 d0 d1 hneq
          go_upto_region 6 with fail
          go_quiet (fail)
          go_wp2
          go_ret
          exact ⟨by rw [HF.out]; rfl, _, by rw [HW.out, World.drewN_drewN]⟩
      · obtain rfl : k = n := by omega
        have hKL : K = L := by
          rw [← List.take_of_length_le (Nat.le_of_eq HN.out.1), ← List.take_of_length_le (Nat.le_of_eq HN.out.2), htk]
        have HF := Lib.hid (decide_eq_true hKL)
        clear hKL htk hlt
        go_wp2
        go_ret
        exact ⟨by rw [HF.out]; rfl, m, HW.out⟩
  · have hF : decide (K = L) = false := by
      rw [decide_eq_false_iff_not]
      rintro rfl
      exact hlen rfl
    have HF := Lib.hid hF
    have hne : ((K.length : Int) == (L.length : Int)) = false := beq_eq_false_iff_ne.2 (by omega)
    clear hF hlen
    generalize K.length = kn at *
    generalize L.length = ln at *
    go_enter Try.func13, Try.ntmps13
    go_wp2
    go_ret
    exact ⟨by rw [HF.out]; rfl, 0, rfl⟩
set_option maxRecDepth 100000 in
set_option maxHeartbeats 4000000 in
theorem sameEdges_any (u v : Value) (K L : List It) (w : World) (hu : IsItems w u K) (hv : IsItems w v L) :
    Calls Try.prog 58 #[u, v] w fun e w' => e = .returned (.bool (decide (K = L))) ∧ ∃ n, w' = w.drewN n := by
  have HU := Lib.hid hu
  have HV := Lib.hid hv
  obtain ⟨ua, uc, rfl, -, -, hKl⟩ := hu.parts
  obtain ⟨va, vc, rfl, -, -, hLl⟩ := hv.parts
  clear hu hv
  by_cases hlen : K.length = L.length
  · obtain ⟨n, hn⟩ : ∃ n, K.length = n := ⟨_, rfl⟩
    have hn' : L.length = n := by omega
    rw [hn] at hKl HU ⊢
    rw [hn'] at HV ⊢
    have HN := Lib.hid (And.intro hn hn')
    clear hn hn' hlen hLl
    go_enter Try.func58, Try.ntmps58
    go_wp2
    go_loopw [5] (fun i wr => ∃ k : Nat, k ≤ n ∧ i = .int .i64 k ∧ K.take k = L.take k ∧ ∃ m, wr = w.drewN m) (fun i _ => n - (intOf i).toNat)
    case atStart => exact ⟨0, Nat.zero_le _, rfl, rfl, 0, rfl⟩
    case round =>
      obtain ⟨k, hk, rfl, htk, m, hwm⟩ := hrel
      have hfr : Fr nothing w wr := by rw [hwm]; exact Fr.drewN w m
      have HW := Lib.hid hwm
      clear hwm
      by_cases hlt : k < n
      · have h1 : k < K.length := by rw [HN.out.1]; exact hlt
        have h2 : k < L.length := by rw [HN.out.2]; exact hlt
        obtain ⟨b1, o1, rfl, c0, c1, -, -⟩ := (HU.out.fr hfr).at h1
        obtain ⟨b2, o2, rfl, d0, d1, -, -⟩ := (HV.out.fr hfr).at h2
        have hneq := neEdge K[k] L[k]
        have hte := take_eq h1 h2 htk
        have hfin : K[k] ≠ L[k] → decide (K = L) = false := fun hne => by
          rw [decide_eq_false_iff_not]
          rintro rfl
          exact hne rfl
        generalize K[k] = x at *
        generalize L[k] = y at *
        have HTE := Lib.hid (And.intro hte hfin)
        clear hte hfin htk h1 h2
        by_cases hxy : x = y
        · have hne : (decide (x = y)) = true := decide_eq_true hxy
          rw [hne] at hneq
          have HXY := Lib.hid hxy
          unfold itVal at hneq
          clear hxy hne
          obtain ⟨x1, x2⟩ := x
          obtain ⟨y1, y2⟩ := y
          simp only at c0 c1 d0 d1 hneq
          go_upto_region 6 with fail
          go_quiet (fail)
          go_wp2
          go_roundw
          case rel => exact ⟨k + 1, by omega, by simp, HTE.out.1 HXY.out, _, by rw [HW.out, World.drewN_drewN]⟩
          case measure => simp [intOf]; omega
        · have hne : (decide (x = y)) = false := decide_eq_false hxy
          rw [hne] at hneq
          have hfin := HTE.out.2 hxy
          have HF := Lib.hid hfin
          unfold itVal at hneq
          clear hxy hne hfin
          obtain ⟨x1, x2⟩ := x
          obtain ⟨y1, y2⟩ := y
          simp only at c0 c1 d0 d1 hneq
          go_upto_region 6 with fail
          go_quiet (fail)
          go_wp2
          go_ret
          exact ⟨by rw [HF.out]; rfl, _, by rw [HW.out, World.drewN_drewN]⟩
      · obtain rfl : k = n := by omega
        have hKL : K = L := by
          rw [← List.take_of_length_le (Nat.le_of_eq HN.out.1), ← List.take_of_length_le (Nat.le_of_eq HN.out.2), htk]
        have HF := Lib.hid (decide_eq_true hKL)
        clear hKL htk hlt
        go_wp2
        go_ret
        exact ⟨by rw [HF.out]; rfl, m, HW.out⟩
  · have hF : decide (K = L) = false := by
      rw [decide_eq_false_iff_not]
      rintro rfl
      exact hlen rfl
    have HF := Lib.hid hF
    have hne : ((K.length : Int) == (L.length : Int)) = false := beq_eq_false_iff_ne.2 (by omega)
    clear hF hlen
    generalize K.length = kn at *
    generalize L.length = ln at *
    go_enter Try.func58, Try.ntmps58
    go_wp2
    go_ret
    exact ⟨by rw [HF.out]; rfl, 0, rfl⟩
/-- A state: its kernel, its edges. -/
abbrev Stt := List It × List (Int × Int)
/-- A state at a place: the two lists' values read so. -/
def StAt (w : World) (b o : Nat) (x : Stt) : Prop := ∃ kv gv, IsItems w kv x.1 ∧ IsItems w gv x.2 ∧ w.cell? ⟨b, o, none⟩ = some kv ∧ w.cell? ⟨b, o + 1, none⟩ = some gv
/-- A slice value that reads as states. -/
def IsStates (w : World) (v : Value) (l : List Stt) : Prop := Rows' v 2 (StAt w) l
theorem StAt.fr {w w' : World} {b o : Nat} {x : Stt} (h : StAt w b o x) (k : Fr nothing w w') : StAt w' b o x := by
  obtain ⟨kv, gv, h1, h2, h3, h4⟩ := h
  exact ⟨kv, gv, h1.fr k, h2.fr k, k.cell h3 id, k.cell h4 id⟩
theorem IsStates.fr {w w' : World} {v : Value} {l : List Stt} (h : IsStates w v l) (k : Fr nothing w w') : IsStates w' v l := Rows'.mono h fun _ _ _ h => h.fr k
theorem IsStates.parts {w : World} {v : Value} {l : List Stt} (h : IsStates w v l) : ∃ a c, v = .slice a l.length c ∧ l.length ≤ c ∧ c ≤ maxLen ∧ l.length ≤ 17592186044416 := by
  obtain ⟨h1, a, c, hv, h2, h3, _⟩ := h
  exact ⟨a, c, hv, h2, h3, h1⟩
theorem IsStates.at {w : World} {a : Option Addr} {n c : Nat} {l : List Stt} (h : IsStates w (.slice a n c) l) {k : Nat} (hk : k < l.length) : ∃ b o, a = some ⟨b, o, none⟩ ∧ StAt w b (o + k * 2) l[k] := by
  obtain ⟨h1, a', c', e, h2, h3, h4⟩ := h
  simp only [Value.slice.injEq] at e
  obtain ⟨rfl, rfl, rfl⟩ := e
  rcases h4 with rfl | ⟨b, o, rfl, hx⟩
  · simp at hk
  · exact ⟨b, o, rfl, hx k hk⟩
set_option maxRecDepth 100000 in
set_option maxHeartbeats 4000000 in
theorem sameState_any (ku gu kv gv : Value) (x y : Stt) (w : World) (h1 : IsItems w ku x.1) (h2 : IsItems w gu x.2) (h3 : IsItems w kv y.1) (h4 : IsItems w gv y.2) :
    Calls Try.prog 44 #[.agg #[ku, gu], .agg #[kv, gv]] w fun e w' => e = .returned (.bool (decide (x = y))) ∧ Below w.heap.size w w' := by
  obtain ⟨K, E⟩ := x
  obtain ⟨L, F⟩ := y
  simp only at h1 h2 h3 h4
  have k0 : ∀ n, Fr nothing w (((w.alloc (.cells #[ku, gu] 39 (0, 0))).alloc (.cells #[kv, gv] 39 (0, 0))).drewN n) := fun n => (Fr.alloc _ _).trans ((Fr.alloc _ _).trans (Fr.drewN _ _))
  have HSI := Lib.hid fun n => sameItems_any ku kv K L _ (h1.fr (k0 n)) (h3.fr (k0 n))
  have HSE := Lib.hid fun n => sameEdges_any gu gv E F _ (h2.fr (k0 n)) (h4.fr (k0 n))
  obtain ⟨a1, c1, rfl, -, -, -⟩ := h1.parts
  obtain ⟨a2, c2, rfl, -, -, -⟩ := h2.parts
  obtain ⟨a3, c3, rfl, -, -, -⟩ := h3.parts
  obtain ⟨a4, c4, rfl, -, -, -⟩ := h4.parts
  have hB : Below w.heap.size w ((w.alloc (.cells #[.slice a1 K.length c1, .slice a2 E.length c2] 39 (0, 0))).alloc (.cells #[.slice a3 L.length c3, .slice a4 F.length c4] 39 (0, 0))) := ((Below.refl _ w).alloc (Nat.le_refl _) _).alloc (by simp) _
  have HB := Lib.hid hB
  have hD : decide ((K, E) = (L, F)) = (decide (K = L) && decide (E = F)) := by
    by_cases e1 : K = L <;> by_cases e2 : E = F <;> simp [e1, e2]
  rw [hD]
  clear h1 h2 h3 h4 k0 hD hB
  generalize decide (K = L) = b1 at *
  generalize decide (E = F) = b2 at *
  have HSI0 := Lib.hid (HSI.out 0)
  go_enter Try.func44, Try.ntmps44
  cases b1 with
  | false =>
    go_wp2_with (go_at_call 13; refine HSI0.out.mono ?_; rintro e w1 ⟨rfl, n1, rfl⟩)
    go_ret
    exact ⟨rfl, below_drewN HB.out _⟩
  | true =>
    go_wp2_with (first | (go_at_call 13; refine HSI0.out.mono ?_; rintro e w1 ⟨rfl, n1, rfl⟩; have HSE1 := Lib.hid (HSE.out n1)) | (go_at_call 58; refine HSE1.out.mono ?_; rintro e w2 ⟨rfl, n2, rfl⟩))
    go_ret
    exact ⟨rfl, below_drewN HB.out _⟩
end Go.Proofs.Ytgmkpncpcikecaa
namespace Go.Proofs.Ytgmkpncpcikecaa
open Go.RowKit Go.MapKept Go.ChangeMaps
set_option maxHeartbeats 400000

set_option maxRecDepth 100000 in
set_option maxHeartbeats 4000000 in
theorem sameStates_any (u v : Value) (K L : List Stt) (w : World) (hu : IsStates w u K) (hv : IsStates w v L) :
    Calls Try.prog 26 #[u, v] w fun e w' => e = .returned (.bool (decide (K = L))) ∧ Below w.heap.size w w' := by
  have HU := Lib.hid hu
  have HV := Lib.hid hv
  obtain ⟨ua, uc, rfl, -, -, hKl⟩ := hu.parts
  obtain ⟨va, vc, rfl, -, -, hLl⟩ := hv.parts
  clear hu hv
  by_cases hlen : K.length = L.length
  · obtain ⟨n, hn⟩ : ∃ n, K.length = n := ⟨_, rfl⟩
    have hn' : L.length = n := by omega
    rw [hn] at hKl HU ⊢
    rw [hn'] at HV ⊢
    have HN := Lib.hid (And.intro hn hn')
    clear hn hn' hlen hLl
    go_enter Try.func26, Try.ntmps26
    go_wp2
    go_loopw [5] (fun i wr => ∃ k : Nat, k ≤ n ∧ i = .int .i64 k ∧ K.take k = L.take k ∧ Below w.heap.size w wr) (fun i _ => n - (intOf i).toNat)
    case atStart => exact ⟨0, Nat.zero_le _, rfl, rfl, Below.refl _ _⟩
    case round =>
      obtain ⟨k, hk, rfl, htk, hB⟩ := hrel
      by_cases hlt : k < n
      · have h1 : k < K.length := by rw [HN.out.1]; exact hlt
        have h2 : k < L.length := by rw [HN.out.2]; exact hlt
        obtain ⟨b1, o1, rfl, ku, gu, i1, i2, c0, c1⟩ := (HU.out.fr (Fr.new hB)).at h1
        obtain ⟨b2, o2, rfl, kv, gv, i3, i4, d0, d1⟩ := (HV.out.fr (Fr.new hB)).at h2
        have hte := take_eq h1 h2 htk
        have hfin : K[k] ≠ L[k] → decide (K = L) = false := fun hne => by
          rw [decide_eq_false_iff_not]
          rintro rfl
          exact hne rfl
        have HS := Lib.hid fun p : After wr => after_call p (sameState_any ku gu kv gv K[k] L[k] p.w (i1.fr (Fr.new p.ok)) (i2.fr (Fr.new p.ok)) (i3.fr (Fr.new p.ok)) (i4.fr (Fr.new p.ok)))
        obtain ⟨a1, p1, rfl, -, -, -⟩ := i1.parts
        obtain ⟨a2, p2, rfl, -, -, -⟩ := i2.parts
        obtain ⟨a3, p3, rfl, -, -, -⟩ := i3.parts
        obtain ⟨a4, p4, rfl, -, -, -⟩ := i4.parts
        clear i1 i2 i3 i4
        have e0 := after_cell c0
        have e1 := after_cell c1
        have f0 := after_cell d0
        have f1 := after_cell d1
        have hne := after_ne wr
        clear c0 c1 d0 d1
        generalize K[k] = x at *
        generalize L[k] = y at *
        have HTE := Lib.hid (And.intro hte hfin)
        have HBH := Lib.hid hB
        clear hte hfin htk h1 h2 hB
        by_cases hxy : x = y
        · rw [decide_eq_true hxy] at HS
          have HXY := Lib.hid (HTE.out.1 hxy)
          clear hxy HTE
          go_upto_region 6 with fail
          refine wp_region_after wr (by kernel_rfl) (by kernel_rfl) (Below.refl _ _) ?_
          repeat (go_big_quiet_step (exact HS.out _))
          refine wpQuiet_nil ?_
          intro _ hw'
          obtain ⟨p, hw''⟩ := hw'
          subst hw''
          go_wp2
          go_roundw
          case rel => exact ⟨k + 1, by omega, by simp, HXY.out, HBH.out.trans (p.ok.mono HBH.out.size)⟩
          case measure => simp [intOf]; omega
        · rw [decide_eq_false hxy] at HS
          have HF := Lib.hid (HTE.out.2 hxy)
          clear hxy HTE
          go_upto_region 6 with fail
          refine wp_region_after wr (by kernel_rfl) (by kernel_rfl) (Below.refl _ _) ?_
          repeat (go_big_quiet_step (exact HS.out _))
          refine wpQuiet_nil ?_
          intro _ hw'
          obtain ⟨p, hw''⟩ := hw'
          subst hw''
          go_wp2
          go_ret
          exact ⟨by rw [HF.out]; rfl, HBH.out.trans (p.ok.mono HBH.out.size)⟩
      · obtain rfl : k = n := by omega
        have hKL : K = L := by
          rw [← List.take_of_length_le (Nat.le_of_eq HN.out.1), ← List.take_of_length_le (Nat.le_of_eq HN.out.2), htk]
        have HF := Lib.hid (decide_eq_true hKL)
        clear hKL htk hlt
        go_wp2
        go_ret
        exact ⟨by rw [HF.out]; rfl, hB⟩
  · have hF : decide (K = L) = false := by
      rw [decide_eq_false_iff_not]
      rintro rfl
      exact hlen rfl
    have HF := Lib.hid hF
    have hne : ((K.length : Int) == (L.length : Int)) = false := beq_eq_false_iff_ne.2 (by omega)
    clear hF hlen
    generalize K.length = kn at *
    generalize L.length = ln at *
    go_enter Try.func26, Try.ntmps26
    go_wp2
    go_ret
    exact ⟨by rw [HF.out]; rfl, Below.refl _ _⟩
theorem row_items {w : World} {B : Nat} {e : TypeId} {v : Value} {l : List It} (h : w.ownsRow B e 2 v l.length (l.flatMap encI)) (hi : ∀ x ∈ l, i64 x.1 ∧ i64 x.2) (hl : l.length ≤ 17592186044416) : IsItems w v l := by
  obtain ⟨a, c, rfl, h1, h2, h3⟩ := own_as_cells2 h
  refine ⟨hl, a, c, rfl, h1, h2, ?_⟩
  rcases h3 with h3 | ⟨g, rfl, _, hc⟩
  · left
    cases l with
    | nil => rfl
    | cons x l => simp [encI] at h3
  · refine .inr ⟨g, 0, rfl, fun i hi' => ⟨hi _ (List.getElem_mem hi'), fun j hj => ?_⟩⟩
    have hj2 : j < 2 := by simpa [encI] using hj
    have hlt : i * 2 + j < (l.flatMap encI).length := by rw [enc_len]; omega
    have h5 := hc (i * 2 + j) hlt
    have h6 := enc_flat_at hi' j hj2
    rw [List.getElem?_eq_getElem hlt, List.getElem?_eq_getElem hj] at h6
    simp only [Nat.zero_add, Option.some.injEq] at h5 h6 ⊢
    rw [h5, h6]
/-- What lies as states of its own reads as states. -/
theorem StsM.states {w : World} {B sb am : Nat} {lv : Value} {vs : List (Value × Value)} {ks : List (List It)} {es : List (List (Int × Int))} (h : StsM w B sb am lv vs ks es) (hl : vs.length ≤ 1000) (hk : ∀ k ∈ ks, k.length ≤ 1000000) (he : ∀ e ∈ es, e.length ≤ 1000000 ∧ ∀ x ∈ e, i64 x.1 ∧ i64 x.2)
    : IsStates w lv (ks.zip es) := by
  have hz : (ks.zip es).length = vs.length := by rw [List.length_zip, h.lk, h.le]; omega
  refine ⟨by omega, ?_⟩
  obtain ⟨a, c, hv, h1, h2, h3⟩ := own_as_cells2 h.own
  refine ⟨a, c, by rw [hz]; exact hv, by omega, h2, ?_⟩
  by_cases h0 : vs.length = 0
  · left
    exact List.eq_nil_of_length_eq_zero (by omega)
  · obtain ⟨lb, c', hv', hb, hcell, _⟩ := h.cells (by omega)
    rw [hv] at hv'
    simp only [Value.slice.injEq, true_and] at hv'
    obtain ⟨rfl, rfl⟩ := hv'
    refine .inr ⟨lb, 0, rfl, fun i hi => ?_⟩
    have hi' : i < vs.length := by omega
    have hik : i < ks.length := by rw [h.lk]; exact hi'
    have hie : i < es.length := by rw [h.le]; exact hi'
    obtain ⟨q0, q1⟩ := hcell i hi'
    have e1 := h.ker i hi'
    have e2 := h.edg i hi'
    rw [List.getD_eq_getElem?_getD, List.getElem?_eq_getElem hik, Option.getD_some] at e1
    rw [List.getD_eq_getElem?_getD, List.getElem?_eq_getElem hie, Option.getD_some] at e2
    rw [List.getElem_zip, Nat.zero_add]
    have hks := hk _ (List.getElem_mem hik)
    have hes := he _ (List.getElem_mem hie)
    refine ⟨vs[i].1, vs[i].2, e1.items (fun x hx => smallI_i64 (h.small _ (List.getElem_mem hik) x hx)) (by omega), row_items e2 hes.2 (by show es[i].length ≤ _; omega), q0, q1⟩
end Go.Proofs.Ytgmkpncpcikecaa
namespace Go.Proofs.Ytgmkpncpcikecaa
open Go.RowKit Go.MapKept Go.ChangeMaps
set_option maxHeartbeats 400000

def plS (n : ByteArray) : Sym := ⟨n, nNone, 0, 0⟩
def plP (left : Int) (right : List Int) : Prd := ⟨left, right, -1, false, nNone, 0⟩
theorem plS_ok (n : ByteArray) : SymOk (plS n) := ⟨show i64 0 by unfold i64; decide, (by decide : (0 : Int) ≤ 0 ∧ (0 : Int) ≤ 255)⟩
theorem plP_ok {l : Int} {r : List Int} (hl : i64 l) : PrdOk (plP l r) := ⟨hl, show i64 (-1) by unfold i64; decide, show i64 0 by unfold i64; decide⟩
/-- The chapter's grammar. -/
def smG : Gram := ⟨3, [plS ⟨#[36, 101, 110, 100]⟩, plS ⟨#[43]⟩, plS ⟨#[110]⟩, plS ⟨#[36, 97, 99, 99, 101, 112, 116]⟩, plS ⟨#[101]⟩], [plP 3 [4], plP 4 [4, 1, 2], plP 4 [2]]⟩
theorem sm_right : rightG smG = true := by kernel_rfl
theorem none_right : rightG ⟨0, [], []⟩ = false := by kernel_rfl
theorem sm_col : colI smG = some ([[(0, 0)], [(2, 1)], [(0, 1), (1, 1)], [(1, 2)], [(1, 3)]], [[(2, 1), (4, 2)], [], [(1, 3)], [(2, 4)], []]) := by kernel_rfl
theorem sm_clo : closE smG [(0, 0)] = [(0, 0), (1, 0), (2, 0)] := by kernel_rfl
theorem sm_goto : gotoE smG [(0, 0)] 4 = [(0, 1), (1, 1)] := by kernel_rfl
theorem small_any (w : World) :
    Calls Try.prog 27 #[] w fun e w' => ∃ v, e = .returned v ∧ IsGram w' v smG ∧ Below w.heap.size w w' := by
  go_enter Try.func27, Try.ntmps27
  go_wp2
  go_returns
  refine ⟨_, rfl, ?_, by repeat (first | exact Below.refl _ _ | refine below_alloc ?_)⟩
  have key : ∀ wf : World,
      wf.heap[w.heap.size + 1]? = some (.cells (smG.syms.flatMap symCells).toArray 53 (0, 0)) →
      wf.heap[w.heap.size + 1 + 1]? = some (.cells #[.int .i64 4] 3 (0, 0)) →
      wf.heap[w.heap.size + 1 + 1 + 1]? = some (.cells #[.int .i64 4, .int .i64 1, .int .i64 2] 3 (0, 0)) →
      wf.heap[w.heap.size + 1 + 1 + 1 + 1]? = some (.cells #[.int .i64 2] 3 (0, 0)) →
      wf.heap[w.heap.size + 1 + 1 + 1 + 1 + 1]? = some (.cells (([(plP 3 [4], .slice (some ⟨w.heap.size + 1 + 1, 0, none⟩) 1 1), (plP 4 [4, 1, 2], .slice (some ⟨w.heap.size + 1 + 1 + 1, 0, none⟩) 3 3), (plP 4 [2], .slice (some ⟨w.heap.size + 1 + 1 + 1 + 1, 0, none⟩) 1 1)] : List (Prd × Value)).flatMap fun x => prdCells x.1 x.2).toArray 48 (0, 0)) →
      IsGram wf (.agg #[.int .i64 3, .slice (some ⟨w.heap.size + 1, 0, none⟩) 5 5, .slice (some ⟨w.heap.size + 1 + 1 + 1 + 1 + 1, 0, none⟩) 3 3]) smG := by
    intro wf h1 h2 h3 h4 h5
    refine ⟨show i64 3 by unfold i64; decide, _, _, rfl, syms_obj h1 rfl ?_ rfl (by simp [smG]), ?_⟩
    · intro s hs
      simp only [smG, List.mem_cons, List.not_mem_nil, or_false] at hs
      rcases hs with rfl | rfl | rfl | rfl | rfl <;> exact plS_ok _
    · refine prds_obj h5 rfl ?_ rfl (by simp)
      intro x hx
      simp only [List.mem_cons, List.not_mem_nil, or_false] at hx
      rcases hx with rfl | rfl | rfl
      · exact ⟨plP_ok (by unfold i64; decide), ints_obj (xs := [4]) h2 rfl (by decide) rfl (by decide)⟩
      · exact ⟨plP_ok (by unfold i64; decide), ints_obj (xs := [4, 1, 2]) h3 rfl (by decide) rfl (by decide)⟩
      · exact ⟨plP_ok (by unfold i64; decide), ints_obj (xs := [2]) h4 rfl (by decide) rfl (by decide)⟩
  refine key _ ?_ ?_ ?_ ?_ ?_
  all_goals repeat (first | (refine alloc_at ?_; simp; done) | refine alloc_older ?_)
theorem items_obj {w : World} {b : Nat} {cs : Array Value} {t : TypeId} {z : Nat × Nat} {l : List It} {n : Nat} (h : w.heap[b]? = some (.cells cs t z)) (hcs : cs = (l.flatMap encI).toArray) (hi : ∀ x ∈ l, i64 x.1 ∧ i64 x.2) (hn : n = l.length) (hl : l.length ≤ 1000000) : IsItems w (.slice (some ⟨b, 0, none⟩) n n) l := by
  subst hn
  refine ⟨by omega, _, _, rfl, Nat.le_refl _, by unfold maxLen; omega, .inr ⟨b, 0, rfl, fun i hi' => ⟨hi _ (List.getElem_mem hi'), fun j hj => ?_⟩⟩⟩
  have hj2 : j < 2 := by simpa [encI] using hj
  have h6 := enc_flat_at hi' j hj2
  rw [List.getElem?_eq_getElem hj] at h6
  refine obj_cell h _ ?_
  rw [hcs, Nat.zero_add, List.getElem?_toArray]
  exact h6
theorem none_gram (w : World) : IsGram w (.agg #[.int .i64 0, .slice none 0 0, .slice none 0 0]) ⟨0, [], []⟩ :=
  ⟨show i64 0 by unfold i64; decide, _, _, rfl, ⟨by simp, none, 0, rfl, Nat.le_refl _, by unfold maxLen; omega, .inl rfl⟩, ⟨by simp, none, 0, rfl, Nat.le_refl _, by unfold maxLen; omega, .inl rfl⟩⟩
theorem same19_any (u v : Value) (K L : List Stt) (w : World) (hu : IsStates w u K) (hv : IsStates w v L) :
    Calls Try.prog 9 #[u, v] w fun e w' => e = .returned (.bool (decide (K = L))) ∧ Below w.heap.size w w' := by
  have H := Lib.hid (sameStates_any u v K L w hu hv)
  obtain ⟨a, c, rfl, -, -, -⟩ := hu.parts
  obtain ⟨a', c', rfl, -, -, -⟩ := hv.parts
  clear hu hv
  generalize decide (K = L) = b at *
  generalize K.length = kn at *
  generalize L.length = ln at *
  go_enter Try.func9, Try.ntmps9
  go_wp2_with (go_at_call 26; refine H.out.mono ?_; rintro e w1 ⟨rfl, hb1⟩)
  go_ret
  exact ⟨rfl, hb1⟩
end Go.Proofs.Ytgmkpncpcikecaa
