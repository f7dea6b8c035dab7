/-
  Package first: till, of whatever steps on whatever state.
-/
import Derived.Test.YtfhleelechbdmaaDoorFi2
import Derived.Shelf.Abstract
namespace Go.Proofs.YtfhleelechbdmaaDoor
open Go.RowKit
set_option maxHeartbeats 400000

def boolOf : Value → Bool | .bool c => c | _ => false
open Classical in
/-- How much is still out, of the state that a world holds. -/
noncomputable def outS {σ : Type} (I : σ → World → Prop) (m : σ → Nat) (w : World) : Nat := if h : ∃ s, I s w then m (Classical.choose h) else 0
theorem outS_is {σ : Type} {I : σ → World → Prop} {m : σ → Nat} (hdet : ∀ s s' w, I s w → I s' w → m s = m s') {s : σ} {w : World} (h : I s w) : outS I m w = m s := by
  unfold outS
  rw [dif_pos ⟨s, h⟩]
  exact hdet _ _ _ (Classical.choose_spec (⟨s, h⟩ : ∃ s, I s w)) h
/-- A function value that does a step of whatever state I holds, and turns nothing but ch; w0 is the world of the productions. -/
def StepS {σ : Type} (w0 w : World) (ch : Nat → Prop) (I : σ → World → Prop) (V : σ → Prop) (F : Nat) (caps : Array Value) (step : Prd → σ → Bool × σ) (l : List Prd) : Prop :=
  Enters Tryd.prog F ∧ ∀ w1, Fr ch w w1 → Below w0.heap.size w0 w1 → ∀ s, V s → I s w1 → ∀ v, ∀ p ∈ l, IsPrd w0 v p →
    Calls Tryd.prog F (#[v] ++ caps) w1 fun e w' => e = .returned (.bool (step p s).1) ∧ I (step p s).2 w' ∧ Fr ch w1 w'
structure TillOk {σ : Type} (w0 w : World) (ch : Nat → Prop) (I : σ → World → Prop) (m : σ → Nat) : Prop where
  base : Below w0.heap.size w0 w
  old : ∀ k, ch k → w0.heap.size ≤ k ∧ k < w.heap.size
  det : ∀ s s' w, I s w → I s' w → m s = m s'
  more : ∀ s w o, I s w → I s (w.alloc o)

set_option maxRecDepth 100000 in
set_option maxHeartbeats 4000000 in
theorem till_any {σ : Type} (G : Gram) (ch : Nat → Prop) (I : σ → World → Prop) (V : σ → Prop) (m : σ → Nat) (F : Nat) (caps : Array Value) (step : Prd → σ → Bool × σ) (s0 : σ) (v : Value) (w0 w : World) (h : IsGram w0 v G) (h0 : I s0 w) (hV : V s0) (hg : GoodS step G.prods V m) (ht : TillOk w0 w ch I m) (hS : StepS w0 w ch I V F caps step G.prods) :
    Calls Tryd.prog 27 #[v, .func (.func F) #[] caps] w fun e w' => e = .returned (.tuple #[]) ∧ (∃ s, PathS step G.prods s0 s ∧ ClosedS step G.prods s ∧ V s ∧ I s w') ∧ Fr ch w w' := by
  obtain ⟨hE0, hS⟩ := hS
  have hE : ∀ args w, (callFunc F args).run Tryd.prog w = .ok (.enter F args) w := hE0
  clear hE0
  obtain ⟨hbase, hold, hdet, hmore⟩ := ht
  obtain ⟨hterms, vs, vp, rfl, hs, hp⟩ := h
  obtain ⟨hl1, sa, sc, rfl, _, _, _⟩ := id hs
  obtain ⟨hl2, pa, pc, rfl, _, _, hpx⟩ := id hp
  clear hs
  obtain ⟨terms, syms, prods⟩ := G
  simp only at hpx hl1 hl2 hS hg ⊢
  have HOB := Lib.hid (alloc_obj w (Obj.cells #[.int .i64 terms, .slice sa syms.length sc, .slice pa prods.length pc] 25 (0, 0)))
  have HF1 := Lib.hid (Fr.alloc (ch := ch) w (Obj.cells #[.int .i64 terms, .slice sa syms.length sc, .slice pa prods.length pc] 25 (0, 0)))
  have H0 := Lib.hid (hmore _ _ (Obj.cells #[.int .i64 terms, .slice sa syms.length sc, .slice pa prods.length pc] 25 (0, 0)) h0)
  have HS := Lib.hid hS
  have HP := Lib.hid hpx
  have HBA := Lib.hid fun W (h : Fr ch w W) => hbase.trans (h.below hbase.size fun k e => (hold k e).1)
  have HG := Lib.hid hg
  have HOLD := Lib.hid hold
  have HDET := Lib.hid hdet
  have HMORE := Lib.hid hmore
  have HV := Lib.hid hV
  clear h0 hS hp hpx hg hold hdet hmore hbase hV
  go_enter Tryd.func27, Tryd.ntmps27
  go_wp2
  go_loopw [4] (fun m wr => ∃ (mb : Bool) (s : σ), m = .bool mb ∧ V s ∧ PathS step prods s0 s ∧ (mb = false → ClosedS step prods s) ∧ I s wr ∧
      Fr ch (w.alloc (Obj.cells #[.int .i64 terms, .slice sa syms.length sc, .slice pa prods.length pc] 25 (0, 0))) wr) (fun mb wr => if boolOf mb then outS I m wr + 1 else 0)
  case atStart => exact ⟨true, s0, rfl, HV.out, .refl, fun e => (by cases e), H0.out, Fr.refl _ _⟩
  case round =>
    obtain ⟨mb, L1, rfl, hL1, hP1, hcl, hb1, hF⟩ := hrel
    have HL1 := Lib.hid hL1
    have HP1 := Lib.hid hP1
    have HB1 := Lib.hid hb1
    have HF := Lib.hid hF
    have c2 := obj_cell (hF.obj HOB.out (fun e => absurd (HOLD.out _ e).2 (Nat.lt_irrefl _))) 2 rfl
    cases mb
    · have HC := Lib.hid (hcl rfl)
      clear hL1 hP1 hcl hb1 hF
      go_wp2
      go_end0
      exact ⟨rfl, ⟨L1, HP1.out, HC.out, HL1.out, HB1.out⟩, HF1.out.trans HF.out⟩
    · clear hL1 hP1 hcl hb1 hF
      generalize wr = wA at *
      go_wp2
      go_loopw [11, 4] (fun i mb wr => ∃ (k : Nat) (b : Bool) (s : σ), k ≤ prods.length ∧ i = .int .i64 k ∧ mb = .bool b ∧ V s ∧ PathS step prods s0 s ∧ (b = false → s = L1 ∧ ∀ j (hj : j < prods.length), j < k → (step prods[j] L1).1 = false) ∧
          (b = true → m s < m L1) ∧ I s wr ∧ Fr ch wA wr) (fun i _ _ => prods.length - (intOf i).toNat)
      case atStart => exact ⟨0, false, L1, Nat.zero_le _, rfl, rfl, HL1.out, HP1.out, fun _ => ⟨rfl, fun j _ h => by omega⟩, fun e => (by cases e), HB1.out, Fr.refl _ _⟩
      case round =>
        obtain ⟨k, mb, L, hk, rfl, rfl, hL, hP, hm0, hm1, hb1, hF1⟩ := hrel
        have HL := Lib.hid hL
        have HPL := Lib.hid hP
        have HM0 := Lib.hid hm0
        have HM1 := Lib.hid hm1
        have HB2 := Lib.hid hb1
        have HF2 := Lib.hid hF1
        by_cases hlt : k < prods.length
        · have hB3 := HF1.out.trans (HF.out.trans hF1)
          have hB0 := HBA.out wr hB3
          obtain ⟨b', o, rfl, hcx⟩ : ∃ b' o, pa = some ⟨b', o, none⟩ ∧ ∀ i, (h : i < prods.length) → PrdAt w0 b' (o + i * 6) prods[i] := by
            rcases HP.out with rfl | h
            · simp at hlt
            · exact h
          obtain ⟨hok, r, hr, hcs0⟩ := hcx k hlt
          have hcs := hcs0.fr (Fr.new hB0) (fun e => e)
          obtain ⟨_, _, ra, rc, rfl, _, _, _⟩ := id hr
          have hNX := till_next HG.out hlt hL hP hm0 hm1
          have hmem := List.getElem_mem hlt
          have hCC := fun (ob : Obj) => HS.out (wr.alloc ob) (hB3.trans (Fr.alloc _ _)) (hB0.alloc hB0.size _) L hL (HMORE.out _ _ ob hb1) (prdVal prods[k] _) _ hmem ⟨hok, _, hr, rfl⟩
          generalize hst : step prods[k] L = st at *
          obtain ⟨c, L2⟩ := st
          simp only at hNX hCC
          have HNX := Lib.hid hNX
          unfold prdVal at hCC
          generalize prods[k] = p at *
          obtain ⟨left, right, prec, has, action, whr⟩ := p
          have s0' := hcs 0 (by simp [prdCells])
          have s1' := hcs 1 (by simp [prdCells])
          have s2' := hcs 2 (by simp [prdCells])
          have s3' := hcs 3 (by simp [prdCells])
          have s4' := hcs 4 (by simp [prdCells])
          have s5' := hcs 5 (by simp [prdCells])
          simp only [prdCells, List.getElem_cons_zero, List.getElem_cons_succ, Nat.add_zero] at s0' s1' s2' s3' s4' s5'
          have HC := Lib.hid (hCC (.cells #[.int .i64 left, .slice ra right.length rc, .int .i64 prec, .bool has, .string action, .int .i64 whr] 45 (0, 0)))
          clear hL hP hm0 hm1 hb1 hF1 hcx hB3 hok hr hcs hNX hmem hCC hst hcs0 hB0
          cases c
          all_goals
            go_wp2_with (go_at_fn F; refine HC.out.mono ?_; rintro e w2 ⟨rfl, hb2, hf2⟩)
            go_roundw
            case rel => exact ⟨k + 1, _, L2, by omega, by simp, rfl, HNX.out.1, HNX.out.2.1, HNX.out.2.2.1, HNX.out.2.2.2, hb2, HF2.out.trans ((Fr.alloc _ _).trans hf2)⟩
            case measure => simp [intOf]; omega
        · obtain rfl : k = prods.length := by omega
          clear hL hP hm0 hm1 hb1 hF1 hlt
          go_wp2
          go_roundw
          case rel => exact ⟨mb, L, rfl, HL.out, HPL.out, fun e => fun p hp => by
            obtain ⟨h1, h2⟩ := HM0.out e
            obtain ⟨j, hj, rfl⟩ := List.mem_iff_getElem.1 hp
            rw [h1]
            exact h2 j hj hj, HB2.out, HF.out.trans HF2.out⟩
          case measure =>
            have h1 := outS_is HDET.out HB1.out
            have h2 := outS_is HDET.out HB2.out
            have h3 := HM1.out
            rw [h1, h2]
            cases mb
            · simp [boolOf]
            · have := h3 rfl
              simp [boolOf]
              omega
end Go.Proofs.YtfhleelechbdmaaDoor
