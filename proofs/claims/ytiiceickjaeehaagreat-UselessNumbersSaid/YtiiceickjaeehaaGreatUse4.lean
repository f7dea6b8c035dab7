/-
  Package useless: a spread, of whatever steps.
-/
import Derived.Test.YtiiceickjaeehaaGreatUse3
namespace Go.Proofs.YtiiceickjaeehaaGreat
open Go.RowKit
set_option maxHeartbeats 400000

def Step := Prd → List Bool → Bool × List Bool
/-- What steps do: none that tells of nothing new turns anything; each other one lets fewer be out. -/
structure Good (step : Step) (l : List Prd) (n : Nat) : Prop where
  len : ∀ p ∈ l, ∀ L : List Bool, L.length = n → (step p L).2.length = n
  stay : ∀ p ∈ l, ∀ L : List Bool, L.length = n → (step p L).1 = false → (step p L).2 = L
  grow : ∀ p ∈ l, ∀ L : List Bool, L.length = n → (step p L).1 = true → (step p L).2.count false < L.count false
inductive Path (step : Step) (l : List Prd) (L0 : List Bool) : List Bool → Prop
  | refl : Path step l L0 L0
  | step {L : List Bool} {p : Prd} : Path step l L0 L → p ∈ l → Path step l L0 (step p L).2
def Closed (step : Step) (l : List Prd) (L : List Bool) : Prop := ∀ p ∈ l, (step p L).1 = false
def StepIs (w : World) (b F : Nat) (caps : Array Value) (step : Step) (l : List Prd) (n : Nat) : Prop :=
  Enters Tryz.prog F ∧ ∀ w1, Fr (only b) w w1 → ∀ L : List Bool, L.length = n → w1.heap[b]? = some (boolsObj L) → ∀ v, ∀ p ∈ l, IsPrd w1 v p →
    Calls Tryz.prog F (#[v] ++ caps) w1 fun e w' => e = .returned (.bool (step p L).1) ∧ w'.heap[b]? = some (boolsObj (step p L).2) ∧ Fr (only b) w1 w'
/-- How many truths of a block are out. -/
def outW (w : World) (b : Nat) : Nat := match w.heap[b]? with
  | some (.cells cs _ _) => cs.toList.countP fun v => match v with | .bool false => true | _ => false
  | _ => 0
theorem outW_bools {w : World} {b : Nat} {L : List Bool} (h : w.heap[b]? = some (boolsObj L)) : outW w b = L.count false := by
  unfold outW
  rw [h]
  show List.countP _ (L.map Value.bool) = _
  clear h
  induction L with
  | nil => rfl
  | cons x L ih => cases x <;> simp_all
def boolOf : Value → Bool | .bool c => c | _ => false
theorem spread_next {step : Step} {l : List Prd} {n : Nat} (hg : Good step l n) {L0 L1 L : List Bool} {k : Nat} {mb : Bool} (hlt : k < l.length) (hL : L.length = n) (hP : Path step l L0 L) (hm0 : mb = false → L = L1 ∧ ∀ j (hj : j < l.length), j < k → (step l[j] L1).1 = false)
    (hm1 : mb = true → L.count false < L1.count false) :
    (step l[k] L).2.length = n ∧ Path step l L0 (step l[k] L).2 ∧ (((step l[k] L).1 || mb) = false → (step l[k] L).2 = L1 ∧ ∀ j (hj : j < l.length), j < k + 1 → (step l[j] L1).1 = false) ∧
      (((step l[k] L).1 || mb) = true → (step l[k] L).2.count false < L1.count false) := by
  have hm := List.getElem_mem hlt
  refine ⟨hg.len _ hm _ hL, hP.step hm, fun e => ?_, fun e => ?_⟩
  · rw [Bool.or_eq_false_iff] at e
    obtain ⟨e1, e2⟩ := e
    obtain ⟨h1, h2⟩ := hm0 e2
    refine ⟨(hg.stay _ hm _ hL e1).trans h1, fun j hj hjk => ?_⟩
    rcases Nat.lt_or_ge j k with h | h
    · exact h2 j hj h
    · obtain rfl : j = k := by omega
      rw [← h1]
      exact e1
  · cases hc : (step l[k] L).1 with
    | false =>
      rw [hg.stay _ hm _ hL hc]
      rw [hc, Bool.false_or] at e
      exact hm1 e
    | true =>
      have h1 := hg.grow _ hm _ hL hc
      cases mb with
      | false => rw [← (hm0 rfl).1]; exact h1
      | true => have := hm1 rfl; omega
/-- Rows of productions stand still where only truths turn. -/
theorem PrdAt.fr_only {w w' : World} {b : Nat} {L : List Bool} {b' o : Nat} {p : Prd} (h : PrdAt w b' o p) (hb : w.heap[b]? = some (boolsObj L)) (k : Fr (only b) w w') : PrdAt w' b' o p := by
  obtain ⟨h1, r, hr, hc⟩ := h
  refine ⟨h1, r, ?_, ?_⟩
  · obtain ⟨q0, q1, a, cap, hv, hcap, hm, hx⟩ := hr
    refine ⟨q0, q1, a, cap, hv, hcap, hm, ?_⟩
    by_cases he : p.right = []
    · exact .inl he
    · rcases hx with hx | ⟨b1, o1, ha, hx⟩
      · exact .inl hx
      · refine .inr ⟨b1, o1, ha, fun i hi => k.cell (hx i hi) ?_⟩
        have := hx i hi
        rw [List.getElem_map] at this
        exact bools_not hb this
  · have h0 := hc 0 (by simp [prdCells])
    exact fun i hi => k.cell (hc i hi) (bools_not (p := ⟨b', o + 0, none⟩) hb h0)
theorem IsPrds.fr_only {w w' : World} {b : Nat} {L : List Bool} {v : Value} {l : List Prd} (h : IsPrds w v l) (hb : w.heap[b]? = some (boolsObj L)) (k : Fr (only b) w w') : IsPrds w' v l :=
  Rows'.mono h fun _ _ _ hp => hp.fr_only hb k

set_option maxRecDepth 100000 in
set_option maxHeartbeats 4000000 in
theorem spread_any (G : Gram) (n b F : Nat) (caps : Array Value) (step : Step) (L0 : List Bool) (v : Value) (w : World) (h : IsGram w v G) (hb : w.heap[b]? = some (boolsObj L0)) (hn : L0.length = n) (hg : Good step G.prods n) (hS : StepIs w b F caps step G.prods n) :
    Calls Tryz.prog 41 #[v, .func (.func F) #[] caps] w fun e w' => e = .returned (.tuple #[]) ∧ (∃ L, Path step G.prods L0 L ∧ Closed step G.prods L ∧ L.length = n ∧ w'.heap[b]? = some (boolsObj L)) ∧ Fr (only b) w w' := by
  obtain ⟨hE0, hS⟩ := hS
  have hE : ∀ args w, (callFunc F args).run Tryz.prog w = .ok (.enter F args) w := hE0
  clear hE0
  obtain ⟨hterms, vs, vp, rfl, hs, hp⟩ := h
  obtain ⟨hl1, sa, sc, rfl, _, _, _⟩ := id hs
  obtain ⟨hl2, pa, pc, rfl, _, _, _⟩ := id hp
  clear hs
  obtain ⟨terms, syms, prods⟩ := G
  simp only at hp hl1 hl2 hS hg ⊢
  have hbl : b < w.heap.size := (Array.getElem?_eq_some_iff.1 hb).1
  have HOB := Lib.hid (alloc_obj w (Obj.cells #[.int .i64 terms, .slice sa syms.length sc, .slice pa prods.length pc] 48 (0, 0)))
  have HF1 := Lib.hid (Fr.alloc (ch := only b) w (Obj.cells #[.int .i64 terms, .slice sa syms.length sc, .slice pa prods.length pc] 48 (0, 0)))
  have HB := Lib.hid hb
  have HS := Lib.hid hS
  have HP := Lib.hid hp
  have HG := Lib.hid hg
  clear hb hS hp hg
  go_enter Tryz.func41, Tryz.ntmps41
  go_wp2
  go_loopw [4] (fun m wr => ∃ (mb : Bool) (L : List Bool), m = .bool mb ∧ L.length = n ∧ Path step prods L0 L ∧ (mb = false → Closed step prods L) ∧ wr.heap[b]? = some (boolsObj L) ∧
      Fr (only b) (w.alloc (Obj.cells #[.int .i64 terms, .slice sa syms.length sc, .slice pa prods.length pc] 48 (0, 0))) wr) (fun m wr => if boolOf m then outW wr b + 1 else 0)
  case atStart => exact ⟨true, L0, rfl, hn, .refl, fun e => (by cases e), (Fr.alloc (ch := nothing) w _).obj HB.out (fun e => e), Fr.refl _ _⟩
  case round =>
    obtain ⟨mb, L1, rfl, hL1, hP1, hcl, hb1, hF⟩ := hrel
    have HL1 := Lib.hid hL1
    have HP1 := Lib.hid hP1
    have HB1 := Lib.hid hb1
    have HF := Lib.hid hF
    have c2 := obj_cell (hF.obj HOB.out (by unfold only; omega)) 2 rfl
    cases mb
    · have HC := Lib.hid (hcl rfl)
      clear hL1 hP1 hcl hb1 hF
      go_wp2
      go_end0
      exact ⟨rfl, ⟨L1, HP1.out, HC.out, HL1.out, HB1.out⟩, HF1.out.trans HF.out⟩
    · clear hL1 hP1 hcl hb1 hF
      generalize wr = wA at *
      have HPR := Lib.hid (((HP.out.fr (Fr.alloc (ch := nothing) w _)).fr_only ((Fr.alloc (ch := nothing) w _).obj HB.out fun e => e) HF.out))
      obtain ⟨a2, q2, hpe, -, -, hpx⟩ := HPR.out.2
      simp only [Value.slice.injEq] at hpe
      obtain ⟨rfl, -, rfl⟩ := hpe
      have HPX := Lib.hid hpx
      clear hpx
      go_wp2
      go_loopw [12, 4] (fun i m wr => ∃ (k : Nat) (mb : Bool) (L : List Bool), k ≤ prods.length ∧ i = .int .i64 k ∧ m = .bool mb ∧ L.length = n ∧ Path step prods L0 L ∧ (mb = false → L = L1 ∧ ∀ j (hj : j < prods.length), j < k → (step prods[j] L1).1 = false) ∧
          (mb = true → L.count false < L1.count false) ∧ wr.heap[b]? = some (boolsObj L) ∧ Fr (only b) wA wr) (fun i _ _ => prods.length - (intOf i).toNat)
      case atStart => exact ⟨0, false, L1, Nat.zero_le _, rfl, rfl, HL1.out, HP1.out, fun _ => ⟨rfl, fun j _ h => by omega⟩, fun e => (by cases e), HB1.out, Fr.refl _ _⟩
      case round =>
        obtain ⟨k, mb, L, hk, rfl, rfl, hL, hP, hm0, hm1, hb1, hF1⟩ := hrel
        have HL := Lib.hid hL
        have HPL := Lib.hid hP
        have HM0 := Lib.hid hm0
        have HM1 := Lib.hid hm1
        have HB2 := Lib.hid hb1
        have HF2 := Lib.hid hF1
        by_cases hlt : k < prods.length
        · obtain ⟨b', o, rfl, hcx⟩ : ∃ b' o, pa = some ⟨b', o, none⟩ ∧ ∀ i, (h : i < prods.length) → PrdAt wA b' (o + i * 6) prods[i] := by
            rcases HPX.out with rfl | h
            · simp at hlt
            · exact h
          have hB3 := HF.out.trans hF1
          obtain ⟨hok, r, hr, hcs⟩ := (hcx k hlt).fr_only HB1.out hF1
          obtain ⟨_, _, ra, rc, rfl, _, _, _⟩ := id hr
          have hNX := spread_next HG.out hlt hL hP hm0 hm1
          have hmem := List.getElem_mem hlt
          have hCC := fun (ob : Obj) => HS.out (wr.alloc ob) (HF1.out.trans (hB3.trans (Fr.alloc _ _))) L hL (alloc_older hb1) (prdVal prods[k] _) _ hmem ⟨hok, _, hr.fr (Fr.alloc _ _), rfl⟩
          generalize hst : step prods[k] L = st at *
          obtain ⟨c, L2⟩ := st
          simp only at hNX hCC
          have HNX := Lib.hid hNX
          unfold prdVal at hCC
          generalize prods[k] = p at *
          obtain ⟨left, right, prec, has, action, whr⟩ := p
          have s0 := hcs 0 (by simp [prdCells])
          have s1 := hcs 1 (by simp [prdCells])
          have s2 := hcs 2 (by simp [prdCells])
          have s3 := hcs 3 (by simp [prdCells])
          have s4 := hcs 4 (by simp [prdCells])
          have s5 := hcs 5 (by simp [prdCells])
          simp only [prdCells, List.getElem_cons_zero, List.getElem_cons_succ, Nat.add_zero] at s0 s1 s2 s3 s4 s5
          have HC := Lib.hid (hCC (.cells #[.int .i64 left, .slice ra right.length rc, .int .i64 prec, .bool has, .string action, .int .i64 whr] 44 (0, 0)))
          clear hL hP hm0 hm1 hb1 hF1 hcx hB3 hok hr hcs hNX hmem hCC hst HPX HPR
          cases c
          all_goals
            go_wp2_with (go_at_fn F; refine HC.out.mono ?_; rintro e w2 ⟨rfl, hb2, hf2⟩)
            go_roundw
            case rel => exact ⟨k + 1, _, L2, by omega, by simp, rfl, HNX.out.1, HNX.out.2.1, HNX.out.2.2.1, HNX.out.2.2.2, hb2, HF2.out.trans ((Fr.alloc _ _).trans hf2)⟩
            case measure => simp [intOf]; omega
        · obtain rfl : k = prods.length := by omega
          clear hL hP hm0 hm1 hb1 hF1 hlt
          go_wp2
          go_roundw
          case rel => exact ⟨mb, L, rfl, HL.out, HPL.out, fun e => fun p hp => by
            obtain ⟨h1, h2⟩ := HM0.out e
            obtain ⟨j, hj, rfl⟩ := List.mem_iff_getElem.1 hp
            rw [h1]
            exact h2 j hj hj, HB2.out, HF.out.trans HF2.out⟩
          case measure =>
            have h1 := outW_bools HB1.out
            have h2 := outW_bools HB2.out
            have h3 := HM1.out
            rw [h1, h2]
            cases mb
            · simp [boolOf]
            · have := h3 rfl
              simp [boolOf]
              omega
end Go.Proofs.YtiiceickjaeehaaGreat
