/-
  Package symbols: Right: is a grammar right?
-/
import Derived.Test.YtpnihegmhalcfaaRunG04
namespace Go.Proofs.Ytpnihegmhalcfaa
open Go.RowKit
set_option maxHeartbeats 400000

def prodsG (terms n : Int) : List Prd → Bool
  | [] => false
  | p :: r => firstG terms n p && r.all (prodG terms n)
/-- P14.3, as the code has it. -/
def rightG (G : Gram) : Bool :=
  !(decide (G.terms < 1) || (decide (64 < G.terms) || (decide ((G.syms.length : Int) < G.terms + 2) || (decide (G.terms + 64 < (G.syms.length : Int)) || (decide (G.prods.length < 1) || decide (128 < G.prods.length)))))) &&
    (symsG G.terms G.syms && prodsG G.terms G.syms.length G.prods)

theorem IsPrds.get {w : World} {b : Option Addr} {n cap : Nat} {l : List Prd} (h : IsPrds w (.slice b n cap) l) (k : Nat) (hk : k < l.length) :
    ∃ g o ra rc, b = some ⟨g, o, none⟩ ∧ IsPrd w (prdVal l[k] (.slice ra l[k].right.length rc)) l[k] ∧ Cells w g (o + k * 6) (prdCells l[k] (.slice ra l[k].right.length rc)) := by
  obtain ⟨h1, a, c, hv, hc, hm, hx⟩ := h
  simp only [Value.slice.injEq] at hv
  obtain ⟨rfl, rfl, rfl⟩ := hv
  rcases hx with rfl | ⟨g, o, rfl, hx⟩
  · simp at hk
  · obtain ⟨ok, r, hr, hcs⟩ := hx k hk
    obtain ⟨i1, i2, ra, rc, rfl, i3⟩ := hr
    exact ⟨g, o, ra, rc, rfl, ⟨ok, _, ⟨i1, i2, ra, rc, rfl, i3⟩, rfl⟩, hcs⟩

set_option maxRecDepth 100000 in
set_option maxHeartbeats 4000000 in
theorem right_gram (G : Gram) (v : Value) (w : World) (h : IsGram w v G) :
    Calls Try.prog 30 #[v] w fun e w' => e = .returned (.bool (rightG G)) ∧ Below w.heap.size w w' := by
  obtain ⟨terms, syms, prods⟩ := G
  obtain ⟨hterms, vs, vp, rfl, hs, hp⟩ := h
  have hs' := hs
  have hp' := hp
  obtain ⟨hsl, a, cs, rfl, hsc, hsm, hsx⟩ := hs
  obtain ⟨hpl, b, cp, rfl, hpc, hpm, hpx⟩ := hp
  simp only at hs' hp' hsl hpl hsc hpc hterms
  unfold rightG
  simp only
  clear hsx hpx
  generalize hnp : prods.length = np at *
  have HNP := Lib.hid hnp
  clear hnp
  obtain ⟨hI1, hI2, hI3⟩ := two_boxes w (.cells #[.int .i64 terms, .slice a syms.length cs, .slice b np cp] 25 (0, 0)) (.cells #[.int .i64 terms, .slice a syms.length cs, .slice b np cp] 132 (0, 0))
  obtain ⟨w1, hw1⟩ : ∃ w1, w1 = (w.alloc (.cells #[.int .i64 terms, .slice a syms.length cs, .slice b np cp] 25 (0, 0))).alloc (.cells #[.int .i64 terms, .slice a syms.length cs, .slice b np cp] 132 (0, 0)) := ⟨_, rfl⟩
  rw [← hw1] at hI1 hI2 hI3
  have HS := Lib.hid fun p : After w1 => after_call p (symbols_any terms _ (.slice b np cp) syms p.w ((hs'.fr (Fr.new hI3)).fr (Fr.new p.ok)))
  have HF := Lib.hid fun (p : After w1) (q : Prd) (u : Value) (hq : IsPrd w1 u q) => after_call p (first_any terms a syms.length cs (.slice b np cp) u q p.w hsl (hq.fr (Fr.new p.ok)))
  have HW := Lib.hid hw1
  have HB := Lib.hid hI3
  have HP := Lib.hid (hp'.fr (Fr.new hI3))
  have l0 := after_obj hI1 0 rfl
  have l1 := after_obj hI1 1 rfl
  have l2 := after_obj hI1 2 rfl
  have k0 := after_obj hI2 0 rfl
  have k1 := after_obj hI2 1 rfl
  have k2 := after_obj hI2 2 rfl
  have hne := after_ne w1
  clear hw1 hs' hp' hI3
  obtain ⟨T3, t3⟩ : ∃ x, decide ((syms.length : Int) < terms + 2) = x := ⟨_, rfl⟩
  obtain ⟨T4, t4⟩ : ∃ x, decide (terms + 64 < (syms.length : Int)) = x := ⟨_, rfl⟩
  obtain ⟨T5, t5⟩ : ∃ x, decide (np < 1) = x := ⟨_, rfl⟩
  obtain ⟨T6, t6⟩ : ∃ x, decide (128 < np) = x := ⟨_, rfl⟩
  have t5' : decide ((np : Int) < 1) = T5 := by rw [← t5]; exact decide_eq_decide.2 (by omega)
  have t6' : decide (128 < (np : Int)) = T6 := by rw [← t6]; exact decide_eq_decide.2 (by omega)
  rw [t3, t4, t5, t6]
  by_cases h1 : terms < 1
  · have t1 : decide (terms < 1) = true := by simp [h1]
    clear t3 t4 t5 t6 t5' t6' HS HF
    go_enter Try.func30, Try.ntmps30
    go_wp2_with fail
    refine wp_region_after w1 (by kernel_rfl) (by kernel_rfl) (by rw [HW.out]; exact Below.refl _ _) ?_
    repeat (go_big_quiet_step (fail))
    refine wpQuiet_nil ?_
    intro _ hw'
    obtain ⟨p, hw''⟩ := hw'
    subst hw''
    go_wp2
    go_ret
    exact ⟨congrArg (fun t => Ending.returned (Value.bool t)) (by simp [h1]), HB.out.trans (p.ok.mono HB.out.size)⟩
  · have t1 : decide (terms < 1) = false := by simp [h1]
    by_cases h2 : 64 < terms
    · have t2 : decide (64 < terms) = true := by simp [h2]
      clear t3 t4 t5 t6 t5' t6' HS HF
      go_enter Try.func30, Try.ntmps30
      go_wp2_with fail
      refine wp_region_after w1 (by kernel_rfl) (by kernel_rfl) (by rw [HW.out]; exact Below.refl _ _) ?_
      repeat (go_big_quiet_step (fail))
      refine wpQuiet_nil ?_
      intro _ hw'
      obtain ⟨p, hw''⟩ := hw'
      subst hw''
      go_wp2
      go_ret
      exact ⟨congrArg (fun t => Ending.returned (Value.bool t)) (by simp [h2]), HB.out.trans (p.ok.mono HB.out.size)⟩
    · have t2 : decide (64 < terms) = false := by simp [h2]
      have x3 : IntKind.i64.wrap (terms + 2) = terms + 2 := IntWalk.i64_in _ (by omega)
      have x4 : IntKind.i64.wrap (terms + 64) = terms + 64 := IntWalk.i64_in _ (by omega)
      have cs : (T3 = true ∨ T3 = false ∧ T4 = true ∨ T3 = false ∧ T4 = false ∧ T5 = true ∨ T3 = false ∧ T4 = false ∧ T5 = false ∧ T6 = true) ∨ T3 = false ∧ T4 = false ∧ T5 = false ∧ T6 = false := by
        cases T3 <;> cases T4 <;> cases T5 <;> cases T6 <;> simp
      rcases cs with cs | ⟨rfl, rfl, rfl, rfl⟩
      · clear HS HF
        rcases cs with rfl | ⟨rfl, rfl⟩ | ⟨rfl, rfl, rfl⟩ | ⟨rfl, rfl, rfl, rfl⟩
        all_goals
          go_enter Try.func30, Try.ntmps30
          go_wp2_with fail
          refine wp_region_after w1 (by kernel_rfl) (by kernel_rfl) (by rw [HW.out]; exact Below.refl _ _) ?_
          repeat (go_big_quiet_step (fail))
          refine wpQuiet_nil ?_
          intro _ hw'
          obtain ⟨p, hw''⟩ := hw'
          subst hw''
          go_wp2
          go_ret
          exact ⟨congrArg (fun t => Ending.returned (Value.bool t)) (by simp), HB.out.trans (p.ok.mono HB.out.size)⟩
      · obtain ⟨p0, r0, rfl⟩ : ∃ p0 r0, prods = p0 :: r0 := by
          cases prods with
          | nil =>
            have h := HNP.out
            simp at h
            subst h
            simp at t5
          | cons p0 r0 => exact ⟨p0, r0, rfl⟩
        obtain ⟨g, o, ra, rc, rfl, hq, hqc⟩ := HP.out.get 0 (by simp)
        simp only [List.getElem_cons_zero, Nat.zero_mul, Nat.add_zero] at hq hqc
        have q0 := after_cell (hqc 0 (by simp [prdCells]))
        have q1 := after_cell (hqc 1 (by simp [prdCells]))
        have q2 := after_cell (hqc 2 (by simp [prdCells]))
        have q3 := after_cell (hqc 3 (by simp [prdCells]))
        have q4 := after_cell (hqc 4 (by simp [prdCells]))
        have q5 := after_cell (hqc 5 (by simp [prdCells]))
        simp only [prdCells, List.getElem_cons_zero, List.getElem_cons_succ, Nat.add_zero] at q0 q1 q2 q3 q4 q5
        have HFQ := Lib.hid fun p : After w1 => HF.out p p0 _ hq
        generalize hSg : symsG terms syms = S at HS
        rw [show prodsG terms syms.length (p0 :: r0) = (firstG terms syms.length p0 && r0.all (prodG terms syms.length)) from rfl]
        generalize firstG terms syms.length p0 = F at HFQ
        have np0 : 0 < np := by
          have h := HNP.out
          simp at h
          omega
        have np1 : (1 : Int) ≤ np := by omega
        clear hq hqc HF
        have cs : (S = false ∨ S = true ∧ F = false) ∨ S = true ∧ F = true := by cases S <;> cases F <;> simp
        rcases cs with cs | ⟨rfl, rfl⟩
        · rcases cs with rfl | ⟨rfl, rfl⟩
          all_goals
            go_enter Try.func30, Try.ntmps30
            go_wp2_with fail
            refine wp_region_after w1 (by kernel_rfl) (by kernel_rfl) (by rw [HW.out]; exact Below.refl _ _) ?_
            repeat (go_big_quiet_step (first | exact HS.out _ | exact HFQ.out _))
            refine wpQuiet_nil ?_
            intro _ hw'
            obtain ⟨p, hw''⟩ := hw'
            subst hw''
            go_wp2
            go_ret
            exact ⟨congrArg (fun t => Ending.returned (Value.bool t)) (by simp), HB.out.trans (p.ok.mono HB.out.size)⟩
        · by_cases hcp : cp = 1
          · subst hcp
            obtain rfl : np = 1 := by omega
            obtain rfl : r0 = [] := by
              have h := HNP.out
              simp at h
              exact h
            go_enter Try.func30, Try.ntmps30
            go_wp2_with fail
            refine wp_region_after w1 (by kernel_rfl) (by kernel_rfl) (by rw [HW.out]; exact Below.refl _ _) ?_
            repeat (go_big_quiet_step (first | exact HS.out _ | exact HFQ.out _))
            refine wpQuiet_nil ?_
            intro _ hw'
            obtain ⟨p, hw''⟩ := hw'
            subst hw''
            clear l0 l1 q0 q1 q2 q3 q4 q5 HFQ HS
            go_wp2
            refine wp_loop_rounds 1 ?_
            rw [rounds_succ]
            go_wp2
            go_ret
            exact ⟨congrArg (fun t => Ending.returned (Value.bool t)) (by simp [h1, h2]), HB.out.trans (p.ok.mono HB.out.size)⟩
          ·
            go_enter Try.func30, Try.ntmps30
            go_wp2_with fail
            refine wp_region_after w1 (by kernel_rfl) (by kernel_rfl) (by rw [HW.out]; exact Below.refl _ _) ?_
            repeat (go_big_quiet_step (first | exact HS.out _ | exact HFQ.out _))
            refine wpQuiet_nil ?_
            intro _ hw'
            obtain ⟨p, hw''⟩ := hw'
            subst hw''
            clear l0 l1 q0 q1 q2 q3 q4 q5 HFQ HS
            go_wp2
            clear t1 t2 t3 t4 t5 t5' t6 t6' x3 x4 l2
            have HWP := Lib.hid p.ok
            generalize p.w = wp at HWP ⊢
            have hlen : r0.length = np - 1 := by have h := HNP.out; simp at h; omega
            have HL := Lib.hid hlen
            clear hlen
            go_loopw [6, 64] (fun u i wr => ∃ k : Nat, k ≤ np - 1 ∧ i = .int .i64 k ∧ (r0.take k).all (prodG terms syms.length) = true ∧ Below w1.heap.size w1 wr) (fun _ i _ => np - 1 - (intOf i).toNat)
            case atStart => exact ⟨0, Nat.zero_le _, rfl, rfl, HWP.out⟩
            case round =>
              obtain ⟨k, hk, rfl, he, hB⟩ := hrel
              by_cases hlt : k < np - 1
              · obtain ⟨g', o', ra', rc', hg, hq', hqc'⟩ := HP.out.get (k + 1) (by have := HL.out; simp; omega)
                simp only [Option.some.injEq, Addr.mk.injEq, and_true] at hg
                obtain ⟨rfl, rfl⟩ := hg
                simp only [List.getElem_cons_succ] at hq' hqc'
                have hkr : k < r0.length := by have := HL.out; omega
                rw [show o + (k + 1) * 6 = o + 6 + k * 6 by omega] at hqc'
                have tk : (r0.take (k + 1)).all (prodG terms syms.length) = prodG terms syms.length r0[k] := by
                  have e : r0.take (k + 1) = r0.take k ++ [r0[k]] := by rw [List.take_add_one, List.getElem?_eq_getElem hkr]; rfl
                  rw [e, List.all_append, he]
                  simp
                have tf : prodG terms syms.length r0[k] = false → r0.all (prodG terms syms.length) = false := fun h => by
                  cases e : r0.all (prodG terms syms.length)
                  · rfl
                  · rw [List.all_eq_true] at e
                    rw [e _ (List.getElem_mem hkr)] at h
                    cases h
                have HPR := Lib.hid fun w0 (h : Below w1.heap.size w1 w0) => prod_any terms a syms.length cs (.slice (some ⟨g, o, none⟩) np cp) _ r0[k] w0 hsl (hq'.fr (Fr.new h))
                generalize r0[k] = q at *
                have c0 := keep_cells hqc' hB 0 (by simp [prdCells])
                have c1 := keep_cells hqc' hB 1 (by simp [prdCells])
                have c2 := keep_cells hqc' hB 2 (by simp [prdCells])
                have c3 := keep_cells hqc' hB 3 (by simp [prdCells])
                have c4 := keep_cells hqc' hB 4 (by simp [prdCells])
                have c5 := keep_cells hqc' hB 5 (by simp [prdCells])
                simp only [prdCells, List.getElem_cons_zero, List.getElem_cons_succ, Nat.add_zero] at c0 c1 c2 c3 c4 c5
                have j0 : ∀ ob, (wr.alloc ob).cell? ⟨w.heap.size + 1, 0, none⟩ = some (.int .i64 terms) := fun ob => (Fr.alloc (ch := nothing) wr ob).cell (k0 ⟨wr, hB⟩) fun e => e
                have j1 : ∀ ob, (wr.alloc ob).cell? ⟨w.heap.size + 1, 1, none⟩ = some (.slice a syms.length cs) := fun ob => (Fr.alloc (ch := nothing) wr ob).cell (k1 ⟨wr, hB⟩) fun e => e
                have j2 : ∀ ob, (wr.alloc ob).cell? ⟨w.heap.size + 1, 2, none⟩ = some (.slice (some ⟨g, o, none⟩) np cp) := fun ob => (Fr.alloc (ch := nothing) wr ob).cell (k2 ⟨wr, hB⟩) fun e => e
                generalize prodG terms syms.length q = F at HPR tk tf
                have HT := Lib.hid (And.intro tk tf)
                clear tk tf he hqc' hq' k0 k1 k2
                cases F
                · have HTf := Lib.hid (HT.out.2 rfl)
                  clear HT
                  go_wp2_with (go_at_call 64; refine (HPR.out _ (hB.alloc hB.size _)).mono ?_; rintro e w2 ⟨rfl, hb2⟩)
                  go_ret
                  exact ⟨congrArg (fun t => Ending.returned (Value.bool t)) (by rw [HTf.out]; simp), HB.out.trans (((hB.alloc hB.size _).trans (hb2.mono (by have := hB.size; simp; omega))).mono HB.out.size)⟩
                · go_wp2_with (go_at_call 64; refine (HPR.out _ (hB.alloc hB.size _)).mono ?_; rintro e w2 ⟨rfl, hb2⟩)
                  go_roundw
                  case rel => exact ⟨k + 1, by omega, by simp, HT.out.1, (hB.alloc hB.size _).trans (hb2.mono (by have := hB.size; simp; omega))⟩
                  case measure => simp [intOf]; omega
              · obtain rfl : k = np - 1 := by omega
                have he' : r0.all (prodG terms syms.length) = true := by
                  rw [List.take_of_length_le (by have := HL.out; omega)] at he
                  exact he
                have HE := Lib.hid he'
                clear he he' hlt
                go_wp2
                go_ret
                exact ⟨congrArg (fun t => Ending.returned (Value.bool t)) (by simp [h1, h2, HE.out]), HB.out.trans (hB.mono HB.out.size)⟩
end Go.Proofs.Ytpnihegmhalcfaa
