/-
  The kit: lists of items, of edges, are the same.
-/
import Derived.Test.YtgmkpncpcikecaaItO
namespace Go.Proofs.Ytgmkpncpcikecaa
open Go.RowKit Go.MapKept Go.ChangeMaps
set_option maxHeartbeats 400000

theorem neEdge (x y : It) (w : World) : (binOp .neq 44 (itVal x) (itVal y)).run Try.prog w = .ok (.bool (!decide (x = y))) w := by
  have u3 := Try.underlying3
  have a3 := Try.isAgg3
  have z3 := Try.sizeOf3
  have hS : Try.prog.underlying 44 = some (.struct (Try.prog.fieldsOf 44)) := by kernel_rfl
  have hp : Try.prog.stoodInHeld 44 = false := by kernel_rfl
  obtain ⟨a, b⟩ := x
  obtain ⟨c, d⟩ := y
  unfold itVal
  rw [run_neq_struct, show (10000 : Nat) = 9999 + 1 from rfl, run_equalIn_agg w 9999 44 _ _ hS hp]
  simp only [Program.fieldsOf, Try.underlying44]
  go_simp
  by_cases h1 : a = c <;> by_cases h2 : b = d <;> simp [h1, h2]
theorem take_eq {α : Type} {K L : List α} {k : Nat} (hK : k < K.length) (hL : k < L.length) (h : K.take k = L.take k) (e : K[k] = L[k]) : K.take (k + 1) = L.take (k + 1) := by
  rw [List.take_add_one, List.take_add_one, h, List.getElem?_eq_getElem hK, List.getElem?_eq_getElem hL, e]

set_option maxRecDepth 100000 in
set_option maxHeartbeats 4000000 in
theorem sameItems_any (u v : Value) (K L : List It) (w : World) (hu : IsItems w u K) (hv : IsItems w v L) :
    Calls Try.prog 13 #[u, v] w fun e w' => e = .returned (.bool (decide (K = L))) ∧ ∃ n, w' = w.drewN n := by
  have HU := Lib.hid hu
  have HV := Lib.hid hv
  obtain ⟨ua, uc, rfl, -, -, hKl⟩ := hu.parts
  obtain ⟨va, vc, rfl, -, -, hLl⟩ := hv.parts
  clear hu hv
  by_cases hlen : K.length = L.length
  · obtain ⟨n, hn⟩ : ∃ n, K.length = n := ⟨_, rfl⟩
    have hn' : L.length = n := by omega
    rw [hn] at hKl HU ⊢
    rw [hn'] at HV ⊢
    have HN := Lib.hid (And.intro hn hn')
    clear hn hn' hlen hLl
    go_enter Try.func13, Try.ntmps13
    go_wp2
    go_loopw [5] (fun i wr => ∃ k : Nat, k ≤ n ∧ i = .int .i64 k ∧ K.take k = L.take k ∧ ∃ m, wr = w.drewN m) (fun i _ => n - (intOf i).toNat)
    case atStart => exact ⟨0, Nat.zero_le _, rfl, rfl, 0, rfl⟩
    case round =>
      obtain ⟨k, hk, rfl, htk, m, hwm⟩ := hrel
      have hfr : Fr nothing w wr := by rw [hwm]; exact Fr.drewN w m
      have HW := Lib.hid hwm
      clear hwm
      by_cases hlt : k < n
      · have h1 : k < K.length := by rw [HN.out.1]; exact hlt
        have h2 : k < L.length := by rw [HN.out.2]; exact hlt
        obtain ⟨b1, o1, rfl, c0, c1, -, -⟩ := (HU.out.fr hfr).at h1
        obtain ⟨b2, o2, rfl, d0, d1, -, -⟩ := (HV.out.fr hfr).at h2
        have hneq := neItem K[k] L[k]
        have hte := take_eq h1 h2 htk
        have hfin : K[k] ≠ L[k] → decide (K = L) = false := fun hne => by
          rw [decide_eq_false_iff_not]
          rintro rfl
          exact hne rfl
        generalize K[k] = x at *
        generalize L[k] = y at *
        have HTE := Lib.hid (And.intro hte hfin)
        clear hte hfin htk h1 h2
        by_cases hxy : x = y
        · have hne : (decide (x = y)) = true := decide_eq_true hxy
          rw [hne] at hneq
          have HXY := Lib.hid hxy
          unfold itVal at hneq
          clear hxy hne
          obtain ⟨x1, x2⟩ := x
          obtain ⟨y1, y2⟩ := y
          simp only at c0 c1 d0 d1 hneq
          go_upto_region 6 with fail
          go_quiet (fail)
          go_wp2
          go_roundw
          case rel => exact ⟨k + 1, by omega, by simp, HTE.out.1 HXY.out, _, by rw [HW.out, World.drewN_drewN]⟩
          case measure => simp [intOf]; omega
        · have hne : (decide (x = y)) = false := decide_eq_false hxy
          rw [hne] at hneq
          have hfin := HTE.out.2 hxy
          have HF := Lib.hid hfin
          unfold itVal at hneq
          clear hxy hne hfin
          obtain ⟨x1, x2⟩ := x
          obtain ⟨y1, y2⟩ := y
          simp only at c0 c1 d0 d1 hneq
          go_upto_region 6 with fail
          go_quiet (fail)
          go_wp2
          go_ret
          exact ⟨by rw [HF.out]; rfl, _, by rw [HW.out, World.drewN_drewN]⟩
      · obtain rfl : k = n := by omega
        have hKL : K = L := by
          rw [← List.take_of_length_le (Nat.le_of_eq HN.out.1), ← List.take_of_length_le (Nat.le_of_eq HN.out.2), htk]
        have HF := Lib.hid (decide_eq_true hKL)
        clear hKL htk hlt
        go_wp2
        go_ret
        exact ⟨by rw [HF.out]; rfl, m, HW.out⟩
  · have hF : decide (K = L) = false := by
      rw [decide_eq_false_iff_not]
      rintro rfl
      exact hlen rfl
    have HF := Lib.hid hF
    have hne : ((K.length : Int) == (L.length : Int)) = false := beq_eq_false_iff_ne.2 (by omega)
    clear hF hlen
    generalize K.length = kn at *
    generalize L.length = ln at *
    go_enter Try.func13, Try.ntmps13
    go_wp2
    go_ret
    exact ⟨by rw [HF.out]; rfl, 0, rfl⟩
set_option maxRecDepth 100000 in
set_option maxHeartbeats 4000000 in
theorem sameEdges_any (u v : Value) (K L : List It) (w : World) (hu : IsItems w u K) (hv : IsItems w v L) :
    Calls Try.prog 58 #[u, v] w fun e w' => e = .returned (.bool (decide (K = L))) ∧ ∃ n, w' = w.drewN n := by
  have HU := Lib.hid hu
  have HV := Lib.hid hv
  obtain ⟨ua, uc, rfl, -, -, hKl⟩ := hu.parts
  obtain ⟨va, vc, rfl, -, -, hLl⟩ := hv.parts
  clear hu hv
  by_cases hlen : K.length = L.length
  · obtain ⟨n, hn⟩ : ∃ n, K.length = n := ⟨_, rfl⟩
    have hn' : L.length = n := by omega
    rw [hn] at hKl HU ⊢
    rw [hn'] at HV ⊢
    have HN := Lib.hid (And.intro hn hn')
    clear hn hn' hlen hLl
    go_enter Try.func58, Try.ntmps58
    go_wp2
    go_loopw [5] (fun i wr => ∃ k : Nat, k ≤ n ∧ i = .int .i64 k ∧ K.take k = L.take k ∧ ∃ m, wr = w.drewN m) (fun i _ => n - (intOf i).toNat)
    case atStart => exact ⟨0, Nat.zero_le _, rfl, rfl, 0, rfl⟩
    case round =>
      obtain ⟨k, hk, rfl, htk, m, hwm⟩ := hrel
      have hfr : Fr nothing w wr := by rw [hwm]; exact Fr.drewN w m
      have HW := Lib.hid hwm
      clear hwm
      by_cases hlt : k < n
      · have h1 : k < K.length := by rw [HN.out.1]; exact hlt
        have h2 : k < L.length := by rw [HN.out.2]; exact hlt
        obtain ⟨b1, o1, rfl, c0, c1, -, -⟩ := (HU.out.fr hfr).at h1
        obtain ⟨b2, o2, rfl, d0, d1, -, -⟩ := (HV.out.fr hfr).at h2
        have hneq := neEdge K[k] L[k]
        have hte := take_eq h1 h2 htk
        have hfin : K[k] ≠ L[k] → decide (K = L) = false := fun hne => by
          rw [decide_eq_false_iff_not]
          rintro rfl
          exact hne rfl
        generalize K[k] = x at *
        generalize L[k] = y at *
        have HTE := Lib.hid (And.intro hte hfin)
        clear hte hfin htk h1 h2
        by_cases hxy : x = y
        · have hne : (decide (x = y)) = true := decide_eq_true hxy
          rw [hne] at hneq
          have HXY := Lib.hid hxy
          unfold itVal at hneq
          clear hxy hne
          obtain ⟨x1, x2⟩ := x
          obtain ⟨y1, y2⟩ := y
          simp only at c0 c1 d0 d1 hneq
          go_upto_region 6 with fail
          go_quiet (fail)
          go_wp2
          go_roundw
          case rel => exact ⟨k + 1, by omega, by simp, HTE.out.1 HXY.out, _, by rw [HW.out, World.drewN_drewN]⟩
          case measure => simp [intOf]; omega
        · have hne : (decide (x = y)) = false := decide_eq_false hxy
          rw [hne] at hneq
          have hfin := HTE.out.2 hxy
          have HF := Lib.hid hfin
          unfold itVal at hneq
          clear hxy hne hfin
          obtain ⟨x1, x2⟩ := x
          obtain ⟨y1, y2⟩ := y
          simp only at c0 c1 d0 d1 hneq
          go_upto_region 6 with fail
          go_quiet (fail)
          go_wp2
          go_ret
          exact ⟨by rw [HF.out]; rfl, _, by rw [HW.out, World.drewN_drewN]⟩
      · obtain rfl : k = n := by omega
        have hKL : K = L := by
          rw [← List.take_of_length_le (Nat.le_of_eq HN.out.1), ← List.take_of_length_le (Nat.le_of_eq HN.out.2), htk]
        have HF := Lib.hid (decide_eq_true hKL)
        clear hKL htk hlt
        go_wp2
        go_ret
        exact ⟨by rw [HF.out]; rfl, m, HW.out⟩
  · have hF : decide (K = L) = false := by
      rw [decide_eq_false_iff_not]
      rintro rfl
      exact hlen rfl
    have HF := Lib.hid hF
    have hne : ((K.length : Int) == (L.length : Int)) = false := beq_eq_false_iff_ne.2 (by omega)
    clear hF hlen
    generalize K.length = kn at *
    generalize L.length = ln at *
    go_enter Try.func58, Try.ntmps58
    go_wp2
    go_ret
    exact ⟨by rw [HF.out]; rfl, 0, rfl⟩
/-- A state: its kernel, its edges. -/
abbrev Stt := List It × List (Int × Int)
/-- A state at a place: the two lists' values read so. -/
def StAt (w : World) (b o : Nat) (x : Stt) : Prop := ∃ kv gv, IsItems w kv x.1 ∧ IsItems w gv x.2 ∧ w.cell? ⟨b, o, none⟩ = some kv ∧ w.cell? ⟨b, o + 1, none⟩ = some gv
/-- A slice value that reads as states. -/
def IsStates (w : World) (v : Value) (l : List Stt) : Prop := Rows' v 2 (StAt w) l
theorem StAt.fr {w w' : World} {b o : Nat} {x : Stt} (h : StAt w b o x) (k : Fr nothing w w') : StAt w' b o x := by
  obtain ⟨kv, gv, h1, h2, h3, h4⟩ := h
  exact ⟨kv, gv, h1.fr k, h2.fr k, k.cell h3 id, k.cell h4 id⟩
theorem IsStates.fr {w w' : World} {v : Value} {l : List Stt} (h : IsStates w v l) (k : Fr nothing w w') : IsStates w' v l := Rows'.mono h fun _ _ _ h => h.fr k
theorem IsStates.parts {w : World} {v : Value} {l : List Stt} (h : IsStates w v l) : ∃ a c, v = .slice a l.length c ∧ l.length ≤ c ∧ c ≤ maxLen ∧ l.length ≤ 17592186044416 := by
  obtain ⟨h1, a, c, hv, h2, h3, _⟩ := h
  exact ⟨a, c, hv, h2, h3, h1⟩
theorem IsStates.at {w : World} {a : Option Addr} {n c : Nat} {l : List Stt} (h : IsStates w (.slice a n c) l) {k : Nat} (hk : k < l.length) : ∃ b o, a = some ⟨b, o, none⟩ ∧ StAt w b (o + k * 2) l[k] := by
  obtain ⟨h1, a', c', e, h2, h3, h4⟩ := h
  simp only [Value.slice.injEq] at e
  obtain ⟨rfl, rfl, rfl⟩ := e
  rcases h4 with rfl | ⟨b, o, rfl, hx⟩
  · simp at hk
  · exact ⟨b, o, rfl, hx k hk⟩
set_option maxRecDepth 100000 in
set_option maxHeartbeats 4000000 in
theorem sameState_any (ku gu kv gv : Value) (x y : Stt) (w : World) (h1 : IsItems w ku x.1) (h2 : IsItems w gu x.2) (h3 : IsItems w kv y.1) (h4 : IsItems w gv y.2) :
    Calls Try.prog 44 #[.agg #[ku, gu], .agg #[kv, gv]] w fun e w' => e = .returned (.bool (decide (x = y))) ∧ Below w.heap.size w w' := by
  obtain ⟨K, E⟩ := x
  obtain ⟨L, F⟩ := y
  simp only at h1 h2 h3 h4
  have k0 : ∀ n, Fr nothing w (((w.alloc (.cells #[ku, gu] 39 (0, 0))).alloc (.cells #[kv, gv] 39 (0, 0))).drewN n) := fun n => (Fr.alloc _ _).trans ((Fr.alloc _ _).trans (Fr.drewN _ _))
  have HSI := Lib.hid fun n => sameItems_any ku kv K L _ (h1.fr (k0 n)) (h3.fr (k0 n))
  have HSE := Lib.hid fun n => sameEdges_any gu gv E F _ (h2.fr (k0 n)) (h4.fr (k0 n))
  obtain ⟨a1, c1, rfl, -, -, -⟩ := h1.parts
  obtain ⟨a2, c2, rfl, -, -, -⟩ := h2.parts
  obtain ⟨a3, c3, rfl, -, -, -⟩ := h3.parts
  obtain ⟨a4, c4, rfl, -, -, -⟩ := h4.parts
  have hB : Below w.heap.size w ((w.alloc (.cells #[.slice a1 K.length c1, .slice a2 E.length c2] 39 (0, 0))).alloc (.cells #[.slice a3 L.length c3, .slice a4 F.length c4] 39 (0, 0))) := ((Below.refl _ w).alloc (Nat.le_refl _) _).alloc (by simp) _
  have HB := Lib.hid hB
  have hD : decide ((K, E) = (L, F)) = (decide (K = L) && decide (E = F)) := by
    by_cases e1 : K = L <;> by_cases e2 : E = F <;> simp [e1, e2]
  rw [hD]
  clear h1 h2 h3 h4 k0 hD hB
  generalize decide (K = L) = b1 at *
  generalize decide (E = F) = b2 at *
  have HSI0 := Lib.hid (HSI.out 0)
  go_enter Try.func44, Try.ntmps44
  cases b1 with
  | false =>
    go_wp2_with (go_at_call 13; refine HSI0.out.mono ?_; rintro e w1 ⟨rfl, n1, rfl⟩)
    go_ret
    exact ⟨rfl, below_drewN HB.out _⟩
  | true =>
    go_wp2_with (first | (go_at_call 13; refine HSI0.out.mono ?_; rintro e w1 ⟨rfl, n1, rfl⟩; have HSE1 := Lib.hid (HSE.out n1)) | (go_at_call 58; refine HSE1.out.mono ?_; rintro e w2 ⟨rfl, n2, rfl⟩))
    go_ret
    exact ⟨rfl, below_drewN HB.out _⟩
end Go.Proofs.Ytgmkpncpcikecaa
