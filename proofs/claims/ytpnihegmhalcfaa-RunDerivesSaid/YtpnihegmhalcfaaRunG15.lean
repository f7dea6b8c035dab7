/-
  The document's answer on symbols: is a grammar right? The walk.
-/
import Derived.Test.YtpnihegmhalcfaaRunG14
import Derived.Test.YtpnihegmhalcfaaRunG03
import Derived.Deep.DeepCutAuto
namespace Go.Proofs.Ytpnihegmhalcfaa
open Go.RowKit
set_option maxHeartbeats 400000

theorem IsSyms.take {w : World} {b : Option Addr} {n cap : Nat} {l : List Sym} (h : IsSyms w (.slice b n cap) l) (k : Nat) (hk : k ≤ l.length) : IsSyms w (.slice b k cap) (l.take k) := by
  obtain ⟨h1, a, c, hv, hc, hm, hx⟩ := h
  simp only [Value.slice.injEq] at hv
  obtain ⟨rfl, rfl, rfl⟩ := hv
  have hlen : (l.take k).length = k := by rw [List.length_take]; omega
  refine ⟨by omega, _, _, by rw [hlen], by omega, hm, ?_⟩
  rcases hx with rfl | ⟨g, o, rfl, hx⟩
  · exact .inl (by simp)
  · refine .inr ⟨g, o, rfl, fun i hi => ?_⟩
    rw [List.getElem_take]
    exact hx i (by omega)
theorem IsSyms.cap_le {w : World} {b : Option Addr} {n cap : Nat} {l : List Sym} (h : IsSyms w (.slice b n cap) l) : l.length ≤ cap ∧ cap ≤ maxLen := by
  obtain ⟨h1, a, c, hv, hc, hm, hx⟩ := h
  simp only [Value.slice.injEq] at hv
  obtain ⟨rfl, rfl, rfl⟩ := hv
  exact ⟨hc, hm⟩

set_option maxRecDepth 100000 in
theorem sym_ways : ∀ N1 N2 N3 N4 N5 N6 X6 N7 N8 : Bool,
    ((N1 = true ∨ (N1 = false ∧ N2 = true) ∨ (N1 = false ∧ N2 = false ∧ N3 = false ∧ N4 = false) ∨
      (N1 = false ∧ N2 = false ∧ (N3 = true ∨ N3 = false ∧ N4 = true) ∧ (N5 = true ∨ N5 = false ∧ N6 = true ∨ N5 = false ∧ N6 = false ∧ X6 = true ∨ N5 = false ∧ N6 = false ∧ X6 = false ∧ N7 = true ∧ N8 = true))) ∧
      (!(N1 || (N2 || (!N3 && !N4))) && (!(N5 || (N6 || X6)) && !(N7 && N8))) = false) ∨
    ((N1 = false ∧ N2 = false ∧ (N3 = true ∨ N3 = false ∧ N4 = true) ∧ (N5 = false ∧ N6 = false ∧ X6 = false ∧ (N7 = true ∧ N8 = false ∨ N7 = false))) ∧
      (!(N1 || (N2 || (!N3 && !N4))) && (!(N5 || (N6 || X6)) && !(N7 && N8))) = true) := by
  intro N1 N2 N3 N4 N5 N6 X6 N7 N8
  cases N1 <;> cases N2 <;> cases N3 <;> cases N4 <;> cases N5 <;> cases N6 <;> cases X6 <;> cases N7 <;> cases N8 <;> simp

set_option maxRecDepth 100000 in
set_option maxHeartbeats 4000000 in
theorem right14_gram (G : Gram) (v : Value) (w : World) (h : IsGram w v G) :
    Calls Try.prog 48 #[v] w fun e w' => e = .returned (.bool (rightG G)) ∧ Below w.heap.size w w' := by
  have hG := h
  obtain ⟨hterms, vs, vp, rfl, hs, hp⟩ := h
  obtain ⟨hsl, sa, sc, rfl, hsc, hsm, hsx⟩ := id hs
  obtain ⟨hpl, pa, pc, rfl, hpc, hpm, hpx⟩ := id hp
  clear hsx hpx
  obtain ⟨terms, syms, prods⟩ := G
  simp only at hs hp hsl hpl hterms hsc hpc
  obtain ⟨w1, hw1⟩ : ∃ w1, w1 = w.alloc (.cells #[.int .i64 terms, .slice sa syms.length sc, .slice pa prods.length pc] 25 (0, 0)) := ⟨_, rfl⟩
  have o0 := alloc_obj w (.cells #[.int .i64 terms, .slice sa syms.length sc, .slice pa prods.length pc] 25 (0, 0))
  have hB1 : Below w.heap.size w w1 := by rw [hw1]; exact (Below.refl _ _).alloc (Nat.le_refl _) _
  rw [← hw1] at o0
  have z0 : w1.cell? ⟨w.heap.size, 0, none⟩ = some (.int .i64 terms) := obj_cell o0 0 rfl
  have z1 : w1.cell? ⟨w.heap.size, 1, none⟩ = some (.slice sa syms.length sc) := obj_cell o0 1 rfl
  have z2 : w1.cell? ⟨w.heap.size, 2, none⟩ = some (.slice pa prods.length pc) := obj_cell o0 2 rfl
  have HW := Lib.hid hw1
  have HB := Lib.hid hB1
  have HS := Lib.hid (hs.fr (Fr.new hB1))
  have HP := Lib.hid (hp.fr (Fr.new hB1))
  have HO := Lib.hid o0
  clear hw1 hB1 hs hp hG o0
  generalize hnl : syms.length = nl at *
  generalize hnp : prods.length = np at *
  have HNL := Lib.hid (And.intro hnl hnp)
  clear hnl hnp
  by_cases hgd : 1 ≤ terms ∧ terms ≤ 64 ∧ terms + 2 ≤ (nl : Int) ∧ (nl : Int) ≤ terms + 64 ∧ 1 ≤ np ∧ np ≤ 128
  · obtain ⟨g1, g2, g3, g4, g5, g6⟩ := hgd
    have t1 : decide (terms < 1) = false := decide_eq_false (by omega)
    have t2 : decide (64 < terms) = false := decide_eq_false (by omega)
    have x1 : IntKind.i64.wrap ((nl : Int) - terms) = (nl : Int) - terms := IntWalk.i64_in _ (by omega)
    have t3 : decide ((nl : Int) - terms < 2) = false := decide_eq_false (by omega)
    have t4 : decide (64 < (nl : Int) - terms) = false := decide_eq_false (by omega)
    have t5 : decide (np < 1) = false := decide_eq_false (by omega)
    have t6 : decide (128 < np) = false := decide_eq_false (by omega)
    obtain ⟨t, rfl⟩ : ∃ t : Nat, terms = (t : Int) := ⟨terms.toNat, by omega⟩
    have hRR : rightG ⟨(t : Int), syms, prods⟩ = (symsG t syms && prods14 t nl prods) := by
      unfold rightG
      simp only [HNL.out.1, HNL.out.2]
      rw [← prods14_is (by omega) prods (by rw [HNL.out.2]; omega), t1, t2, t5, t6, decide_eq_false (by omega : ¬ (nl : Int) < (t : Int) + 2), decide_eq_false (by omega : ¬ (t : Int) + 64 < (nl : Int))]
      rfl
    have HRR := Lib.hid hRR
    clear hRR
    go_enter Try.func48, Try.ntmps48
    go_upto_region 1 with fail
    rw [← HW.out]
    go_wp2
    clear t1 t2 t3 t4 t5 t6 x1
    go_loopw [2, 4, 5] (fun _ i _ wr => ∃ k : Nat, k ≤ nl ∧ i = .int .i64 k ∧ syms14To t syms k = true ∧ Below w1.heap.size w1 wr)
      (fun _ i _ _ => nl - (intOf i).toNat)
    case atStart => exact ⟨0, Nat.zero_le _, rfl, rfl, Below.refl _ _⟩
    case round =>
      obtain ⟨k, hk, rfl, he, hB⟩ := hrel
      have y0 := (Fr.new hB).cell z0 fun e => e
      have y1 := (Fr.new hB).cell z1 fun e => e
      have y2 := (Fr.new hB).cell z2 fun e => e
      clear z0 z1 z2
      by_cases hlt : k < nl
      · obtain ⟨g, o, rfl, hok, hcs⟩ := HS.out.get k (by rw [HNL.out.1]; exact hlt)
        have hlt' : k < syms.length := by rw [HNL.out.1]; exact hlt
        have hsucc := syms14To_succ t syms k hlt'
        have hbad : sym14 t (namesTo syms k) k syms[k] = false → symsG t syms = false := sym14_false hlt'
        have hpl := fun (nm : ByteArray) (x : World) (hx : Fr nothing w1 x) => place_any (.slice (some ⟨g, o, none⟩) k sc) (syms.take k) nm x ((HS.out.take k (by omega)).fr hx)
        have hkc : k ≤ sc := by omega
        rw [he] at hsucc
        generalize syms[k] = s at *
        obtain ⟨name, type, level, assoc⟩ := s
        obtain ⟨W, hWW⟩ : ∃ W, W = wr.alloc (.cells #[.string name, .string type, .int .i64 level, .int .u8 assoc] 64 (0, 0)) := ⟨_, rfl⟩
        have oW := alloc_obj wr (.cells #[.string name, .string type, .int .i64 level, .int .u8 assoc] 64 (0, 0))
        have hBW : Below wr.heap.size wr W := by rw [hWW]; exact (Below.refl _ _).alloc (Nat.le_refl _) _
        rw [← hWW] at oW
        have s0 := (Fr.new hB).cell (hcs 0 (by simp [symCells])) fun e => e
        have s1 := (Fr.new hB).cell (hcs 1 (by simp [symCells])) fun e => e
        have s2 := (Fr.new hB).cell (hcs 2 (by simp [symCells])) fun e => e
        have s3 := (Fr.new hB).cell (hcs 3 (by simp [symCells])) fun e => e
        simp only [symCells, List.getElem_cons_zero, List.getElem_cons_succ, Nat.add_zero] at s0 s1 s2 s3
        have b0 : ∀ p : After W, p.w.cell? ⟨wr.heap.size, 0, none⟩ = some (.string name) := after_obj oW 0 rfl
        have b1 : ∀ p : After W, p.w.cell? ⟨wr.heap.size, 1, none⟩ = some (.string type) := after_obj oW 1 rfl
        have b2 : ∀ p : After W, p.w.cell? ⟨wr.heap.size, 2, none⟩ = some (.int .i64 level) := after_obj oW 2 rfl
        have b3 : ∀ p : After W, p.w.cell? ⟨wr.heap.size, 3, none⟩ = some (.int .u8 assoc) := after_obj oW 3 rfl
        have b4 := after_cell ((Fr.new hBW).cell y0 fun e => e)
        have b5 := after_cell ((Fr.new hBW).cell y1 fun e => e)
        have hne := after_ne W
        have hBw : Below w1.heap.size w1 W := hB.trans (hBW.mono hB.size)
        have hplE := placeE_has name (syms.take k) 0
        have hpl2 := fun (x : World) (hx : Fr nothing w1 x) => hpl name x hx
        clear hpl
        generalize placeE name (syms.take k) 0 = P at *
        have HPL := Lib.hid fun p : After W => after_call_same p (hpl2 p.w ((Fr.new hBw).trans (Fr.new p.ok)))
        have HTY := Lib.hid fun p : After W => after_call_same p (typed14_any type p.w)
        obtain ⟨N1, n1⟩ : ∃ b, decide (name = nNone) = b := ⟨_, rfl⟩
        obtain ⟨N2, n2⟩ : ∃ b, hasName (namesTo syms k) name = b := ⟨_, rfl⟩
        obtain ⟨N3, n3⟩ : ∃ b, decide (type = nNone) = b := ⟨_, rfl⟩
        obtain ⟨N4, n4⟩ : ∃ b, typedG type = b := ⟨_, rfl⟩
        obtain ⟨N5, n5⟩ : ∃ b, decide (level < 0) = b := ⟨_, rfl⟩
        obtain ⟨N6, n6⟩ : ∃ b, decide (3 < assoc) = b := ⟨_, rfl⟩
        obtain ⟨L0, l0⟩ : ∃ b, decide (level = 0) = b := ⟨_, rfl⟩
        obtain ⟨A0, a0⟩ : ∃ b, decide (assoc = 0) = b := ⟨_, rfl⟩
        obtain ⟨X6, x6⟩ : ∃ b, (L0 != A0) = b := ⟨_, rfl⟩
        obtain ⟨N7, n7⟩ : ∃ b, decide ((t : Int) ≤ (k : Int)) = b := ⟨_, rfl⟩
        obtain ⟨N8, n8⟩ : ∃ b, decide (0 < level) = b := ⟨_, rfl⟩
        have hOK : sym14 t (namesTo syms k) k ⟨name, type, level, assoc⟩ = (!(N1 || (N2 || (!N3 && !N4))) && (!(N5 || (N6 || X6)) && !(N7 && N8))) := by
          simp only [sym14, n1, n2, n3, n4, n5, n6, l0, a0, x6, n7, n8]
        have x6a : (!(L0 == A0)) = X6 := by rw [← x6]; cases L0 <;> cases A0 <;> rfl
        have x6b : (!decide (L0 = A0)) = X6 := by rw [← x6]; cases L0 <;> cases A0 <;> rfl
        have x6c : decide (L0 = A0) = !X6 := by rw [← x6]; cases L0 <;> cases A0 <;> rfl
        have x6d : (L0 == A0) = !X6 := by rw [← x6]; cases L0 <;> cases A0 <;> rfl
        have hPN : decide (0 ≤ P) = N2 := hplE.trans n2
        have t1 : name.toList.isEmpty = N1 := by
          have := str_ilit name [] N1 n1
          rw [← this]
          cases name.toList <;> rfl
        have t1' := str_ilit name [] N1 n1
        have t3' := str_ilit type [] N3 n3
        have t3n := str_nlit type [] N3 n3
        have t3 : type.toList.isEmpty = N3 := by
          rw [← t3']
          cases type.toList <;> rfl
        have t6 : (level == 0) = L0 := by rw [← l0]; rfl
        have t6' : (assoc == 0) = A0 := by rw [← a0]; rfl
        have t7 : decide (t ≤ k) = N7 := by rw [← n7]; exact decide_eq_decide.2 (by omega)
        rw [n4] at HTY
        have HK := Lib.hid (And.intro hOK (And.intro hsucc hbad))
        have HWW := Lib.hid hWW
        have HBB := Lib.hid hBw
        have hways := sym_ways N1 N2 N3 N4 N5 N6 X6 N7 N8
        have HY := Lib.hid (And.intro hB he)
        clear hpl2 hplE hWW hBW oW hBw n1 n2 n3 n4 l0 a0 hOK hsucc hbad hcs hok hB he
        rcases hways with ⟨hw, hval⟩ | ⟨hw, hval⟩
        · have HV := Lib.hid (HK.out.2.2 (HK.out.1.trans hval))
          clear hval
          rcases hw with rfl | ⟨rfl, rfl⟩ | ⟨rfl, rfl, rfl, rfl⟩ | ⟨rfl, rfl, rfl | ⟨rfl, rfl⟩, rfl | ⟨rfl, rfl⟩ | ⟨rfl, rfl, rfl⟩ | ⟨rfl, rfl, rfl, rfl, rfl⟩⟩
          all_goals
            go_upto_region 6 with fail
            refine wp_region_after W (by kernel_rfl) (by kernel_rfl) (by rw [HWW.out]; exact Below.refl _ _) ?_
            repeat (go_big_quiet_step (first | with_reducible exact HPL.out _ | with_reducible exact HTY.out _))
            refine wpQuiet_nil ?_
            intro _ hw'
            obtain ⟨q, hw''⟩ := hw'
            subst hw''
            go_wp2
            go_ret
            exact ⟨congrArg (fun t => Ending.returned (Value.bool t)) (by rw [HRR.out, HV.out]; rfl), HB.out.trans ((HBB.out.trans (q.ok.mono HBB.out.size)).mono HB.out.size)⟩
        · have HV := Lib.hid (HK.out.2.1.trans (by rw [HK.out.1, hval]))
          clear hval
          rcases hw with ⟨rfl, rfl, rfl | ⟨rfl, rfl⟩, rfl, rfl, rfl, ⟨rfl, rfl⟩ | rfl⟩
          all_goals
            go_upto_region 6 with fail
            refine wp_region_after W (by kernel_rfl) (by kernel_rfl) (by rw [HWW.out]; exact Below.refl _ _) ?_
            repeat (go_big_quiet_step (first | with_reducible exact HPL.out _ | with_reducible exact HTY.out _))
            refine wpQuiet_nil ?_
            intro _ hw'
            obtain ⟨q, hw''⟩ := hw'
            subst hw''
            go_wp2
            go_roundw
            case rel => exact ⟨k + 1, by omega, by simp, HV.out, HBB.out.trans (q.ok.mono HBB.out.size)⟩
            case measure => simp [intOf]; omega
      · obtain rfl : k = nl := by omega
        clear hlt
        obtain ⟨g, o, rfl, hok0, hcs0⟩ := HS.out.get 0 (by rw [HNL.out.1]; omega)
        obtain ⟨g', o', heq, hokt, hcst⟩ := HS.out.get t (by rw [HNL.out.1]; omega)
        simp only [Option.some.injEq, Addr.mk.injEq, and_true] at heq
        obtain ⟨rfl, rfl⟩ := heq
        have h0 : 0 < syms.length := by rw [HNL.out.1]; omega
        have ht : t < syms.length := by rw [HNL.out.1]; omega
        have hs0 : endG syms[0] = false → symsG t syms = false := end_false h0
        have hst : acceptG syms[t] = false → symsG t syms = false := accept_false rfl ht
        have hall : endG syms[0] = true → acceptG syms[t] = true → symsG t syms = true := syms14_true rfl h0 ht (by rw [HNL.out.1]; exact he)
        generalize syms[0] = s0 at *
        generalize syms[t] = st at *
        obtain ⟨name0, type0, level0, assoc0⟩ := s0
        obtain ⟨namet, typet, levelt, assoct⟩ := st
        have a0 := (Fr.new hB).cell (hcs0 0 (by simp [symCells])) fun e => e
        have a1 := (Fr.new hB).cell (hcs0 1 (by simp [symCells])) fun e => e
        have a2 := (Fr.new hB).cell (hcs0 2 (by simp [symCells])) fun e => e
        have a3 := (Fr.new hB).cell (hcs0 3 (by simp [symCells])) fun e => e
        have b0 := (Fr.new hB).cell (hcst 0 (by simp [symCells])) fun e => e
        have b1 := (Fr.new hB).cell (hcst 1 (by simp [symCells])) fun e => e
        have b2 := (Fr.new hB).cell (hcst 2 (by simp [symCells])) fun e => e
        have b3 := (Fr.new hB).cell (hcst 3 (by simp [symCells])) fun e => e
        simp only [symCells, List.getElem_cons_zero, List.getElem_cons_succ, Nat.add_zero, Nat.zero_mul] at a0 a1 a2 a3 b0 b1 b2 b3
        have HE := Lib.hid (And.intro hs0 (And.intro hst hall))
        have HBR := Lib.hid hB
        have htn : t < k := by omega
        clear hs0 hst hall h0 ht hok0 hokt hcs0 hcst he hB
        by_cases c1 : endG ⟨name0, type0, level0, assoc0⟩ = true
        · have q0 : name0 = nEnd ∧ type0 = nNone ∧ level0 = 0 ∧ assoc0 = 0 := by
            unfold endG bareG at c1
            simpa using c1
          obtain ⟨rfl, rfl, rfl, rfl⟩ := q0
          unfold nEnd at a0
          unfold nNone at a1
          by_cases c2 : acceptG ⟨namet, typet, levelt, assoct⟩ = true
          · have q1 : namet = nAccept ∧ typet = nNone ∧ levelt = 0 ∧ assoct = 0 := by
              unfold acceptG bareG at c2
              simpa using c2
            obtain ⟨rfl, rfl, rfl, rfl⟩ := q1
            unfold nAccept at b0
            unfold nNone at b1
            have HSY := Lib.hid (HE.out.2.2 c1 c2)
            clear c1 c2
            go_wp2
            clear a0 a1 a2 a3 b0 b1 b2 b3
            go_loopw [2, 6] (fun _ i wr => ∃ j : Nat, j ≤ np ∧ i = .int .i64 j ∧ prodsTo t k prods j = true ∧ Below w1.heap.size w1 wr)
              (fun _ i _ => np - (intOf i).toNat)
            case atStart => exact ⟨0, Nat.zero_le _, rfl, rfl, HBR.out⟩
            case round =>
              clear y0 y1 y2
              obtain ⟨j, hj, rfl, hj2, hBj⟩ := hrel
              have oj := (Fr.new hBj).obj HO.out fun e => e
              have y0 := obj_cell oj 0 rfl
              have y1 := obj_cell oj 1 rfl
              have y2 := obj_cell oj 2 rfl
              by_cases hlt : j < np
              · obtain ⟨pb, po, ra, rc, rfl, hq, hqc⟩ := HP.out.get j (by rw [HNL.out.2]; exact hlt)
                have hlt' : j < prods.length := by rw [HNL.out.2]; exact hlt
                have hsucc := prodsTo_succ t k prods j hlt'
                have hbad := prods14_false t k prods j hlt'
                rw [hj2] at hsucc
                have hpr := fun p : After wr => after_call p (prod14_any t j (some ⟨g, o, none⟩) k sc (.slice (some ⟨pb, po, none⟩) np pc) _ prods[j] p.w ((hq.fr (Fr.new hBj)).fr (Fr.new p.ok)))
                have x0 := after_cell ((Fr.new hBj).cell (hqc 0 (by simp [prdCells])) fun e => e)
                have x1 := after_cell ((Fr.new hBj).cell (hqc 1 (by simp [prdCells])) fun e => e)
                have x2 := after_cell ((Fr.new hBj).cell (hqc 2 (by simp [prdCells])) fun e => e)
                have x3 := after_cell ((Fr.new hBj).cell (hqc 3 (by simp [prdCells])) fun e => e)
                have x4 := after_cell ((Fr.new hBj).cell (hqc 4 (by simp [prdCells])) fun e => e)
                have x5 := after_cell ((Fr.new hBj).cell (hqc 5 (by simp [prdCells])) fun e => e)
                have y0' := after_cell y0
                have y1' := after_cell y1
                have y2' := after_cell y2
                have hne := after_ne wr
                simp only [prdCells, List.getElem_cons_zero, List.getElem_cons_succ, Nat.add_zero] at x0 x1 x2 x3 x4 x5
                unfold prdVal at hpr
                generalize prod14 t k j prods[j] = R at *
                generalize prods[j].right.length = rl at *
                generalize prods[j] = p at *
                have HPR := Lib.hid hpr
                have HK := Lib.hid (And.intro hsucc hbad)
                have HBJ := Lib.hid hBj
                clear hpr hsucc hbad hq hqc oj hj2 hBj
                cases R
                all_goals
                  go_wp2_with fail
                  refine wp_region_after wr (by kernel_rfl) (by kernel_rfl) (Below.refl _ _) ?_
                  repeat (go_big_quiet_step (exact HPR.out _))
                  refine wpQuiet_nil ?_
                  intro _ hw'
                  obtain ⟨q, hw''⟩ := hw'
                  subst hw''
                  go_wp2
                · go_ret
                  exact ⟨congrArg (fun t => Ending.returned (Value.bool t)) (by rw [HRR.out, HSY.out, HK.out.2 (by first | trivial | rfl)]; rfl), HB.out.trans ((HBJ.out.trans (q.ok.mono HBJ.out.size)).mono HB.out.size)⟩
                · go_roundw
                  case rel => exact ⟨j + 1, by omega, by simp, by rw [HK.out.1]; rfl, HBJ.out.trans (q.ok.mono HBJ.out.size)⟩
                  case measure => simp [intOf]; omega
              · obtain rfl : j = np := by omega
                have HJ := Lib.hid (And.intro hj2 hBj)
                clear hlt hj2 hBj oj
                go_wp2
                go_ret
                exact ⟨congrArg (fun t => Ending.returned (Value.bool t)) (by rw [HRR.out, HSY.out, show prods14 t k prods = true by rw [prods14, HNL.out.2]; exact HJ.out.1]; rfl), HB.out.trans (HJ.out.2.mono HB.out.size)⟩
          · have HSY := Lib.hid (HE.out.2.1 (by simpa using c2))
            obtain ⟨E1, e1⟩ : ∃ y, decide (namet = nAccept) = y := ⟨_, rfl⟩
            obtain ⟨E2, e2⟩ : ∃ y, decide (typet = nNone) = y := ⟨_, rfl⟩
            obtain ⟨E3, e3⟩ : ∃ y, decide (levelt = 0) = y := ⟨_, rfl⟩
            obtain ⟨E4, e4⟩ : ∃ y, decide (assoct = 0) = y := ⟨_, rfl⟩
            have r1 := str_ilit namet _ E1 e1
            have r2 := str_ilit typet [] E2 e2
            have r2' : typet.toList.isEmpty = E2 := by
              rw [← r2]
              cases typet.toList <;> rfl
            have r3 : (levelt == 0) = E3 := by rw [← e3]; rfl
            have r4 : (assoct == 0) = E4 := by rw [← e4]; rfl
            have hE : (E1 && (E2 && (E3 && E4))) = false := by
              rw [← e1, ← e2, ← e3, ← e4]
              simpa [acceptG, bareG] using c2
            clear c1 c2 e1 e2 e3 e4
            have cs : E1 = false ∨ E1 = true ∧ E2 = false ∨ E1 = true ∧ E2 = true ∧ E3 = false ∨ E1 = true ∧ E2 = true ∧ E3 = true ∧ E4 = false := by
              revert hE
              cases E1 <;> cases E2 <;> cases E3 <;> cases E4 <;> simp
            rcases cs with rfl | ⟨rfl, rfl⟩ | ⟨rfl, rfl, rfl⟩ | ⟨rfl, rfl, rfl, rfl⟩
            all_goals
              go_wp2
              go_ret
              exact ⟨congrArg (fun t => Ending.returned (Value.bool t)) (by rw [HRR.out, HSY.out]; rfl), HB.out.trans (HBR.out.mono HB.out.size)⟩
        · have HSY := Lib.hid (HE.out.1 (by simpa using c1))
          obtain ⟨E1, e1⟩ : ∃ y, decide (name0 = nEnd) = y := ⟨_, rfl⟩
          obtain ⟨E2, e2⟩ : ∃ y, decide (type0 = nNone) = y := ⟨_, rfl⟩
          obtain ⟨E3, e3⟩ : ∃ y, decide (level0 = 0) = y := ⟨_, rfl⟩
          obtain ⟨E4, e4⟩ : ∃ y, decide (assoc0 = 0) = y := ⟨_, rfl⟩
          have r1 := str_ilit name0 _ E1 e1
          have r2 := str_ilit type0 [] E2 e2
          have r2' : type0.toList.isEmpty = E2 := by
            rw [← r2]
            cases type0.toList <;> rfl
          have r3 : (level0 == 0) = E3 := by rw [← e3]; rfl
          have r4 : (assoc0 == 0) = E4 := by rw [← e4]; rfl
          have hE : (E1 && (E2 && (E3 && E4))) = false := by
            rw [← e1, ← e2, ← e3, ← e4]
            simpa [endG, bareG] using c1
          clear c1 e1 e2 e3 e4
          have cs : E1 = false ∨ E1 = true ∧ E2 = false ∨ E1 = true ∧ E2 = true ∧ E3 = false ∨ E1 = true ∧ E2 = true ∧ E3 = true ∧ E4 = false := by
            revert hE
            cases E1 <;> cases E2 <;> cases E3 <;> cases E4 <;> simp
          rcases cs with rfl | ⟨rfl, rfl⟩ | ⟨rfl, rfl, rfl⟩ | ⟨rfl, rfl, rfl, rfl⟩
          all_goals
            go_wp2
            go_ret
            exact ⟨congrArg (fun t => Ending.returned (Value.bool t)) (by rw [HRR.out, HSY.out]; rfl), HB.out.trans (HBR.out.mono HB.out.size)⟩
  · have hfalse : rightG ⟨terms, syms, prods⟩ = false := by
      cases e : rightG ⟨terms, syms, prods⟩
      · rfl
      · exfalso
        have := (rightG_parts e).1
        simp only [HNL.out.1, HNL.out.2] at this
        exact hgd this
    have HF := Lib.hid hfalse
    clear hfalse
    by_cases h1 : terms < 1
    · have t1 : decide (terms < 1) = true := by simp [h1]
      clear hgd
      go_enter Try.func48, Try.ntmps48
      go_upto_region 1 with fail
      rw [← HW.out]
      go_wp2
      go_ret
      exact ⟨congrArg (fun t => Ending.returned (Value.bool t)) HF.out.symm, HB.out⟩
    · have t1 : decide (terms < 1) = false := by simp [h1]
      by_cases h2 : 64 < terms
      · have t2 : decide (64 < terms) = true := by simp [h2]
        clear hgd
        go_enter Try.func48, Try.ntmps48
        go_upto_region 1 with fail
        rw [← HW.out]
        go_wp2
        go_ret
        exact ⟨congrArg (fun t => Ending.returned (Value.bool t)) HF.out.symm, HB.out⟩
      · have t2 : decide (64 < terms) = false := by simp [h2]
        have x1 : IntKind.i64.wrap ((nl : Int) - terms) = (nl : Int) - terms := IntWalk.i64_in _ (by omega)
        have HGD := Lib.hid hgd
        clear hgd
        go_enter Try.func48, Try.ntmps48
        go_upto_region 1 with fail
        rw [← HW.out]
        go_wp2
        all_goals first
          | (exfalso; exact HGD.out ⟨by omega, by omega, by omega, by omega, by omega, by omega⟩)
          | (go_ret
             exact ⟨congrArg (fun t => Ending.returned (Value.bool t)) HF.out.symm, HB.out⟩)
end Go.Proofs.Ytpnihegmhalcfaa
