/-
  gristmillref19: Of (the closure).
  gristmillref19: on (what a closure goes on to).
  gristmillref19: the states that lie in a slice of their own.
  gristmillref19: Collection, plain relations.
  gristmillref19: Collection.
-/
import Derived.Test.YtgmkpncpcikecaaJnA
import Derived.Test.YtgmkpncpcikecaaJtX
import Derived.Test.YtgmkpncpcikecaaJtT
import Derived.Test.YtgmkpncpcikecaaRef14d
namespace Go.Proofs.Ytgmkpncpcikecaa
open Go.RowKit Go.MapKept Go.ChangeMaps
set_option maxHeartbeats 400000

/-- What a production at a place of a grammar in memory reads as. -/
theorem prd19_at {w : World} {pa : Option Addr} {n c : Nat} {l : List Prd} (h : IsPrds w (.slice pa n c) l) {k : Nat} (hk : k < l.length) :
    ∃ b o ra rc, pa = some ⟨b, o, none⟩ ∧ w.cell? ⟨b, o + k * 6, none⟩ = some (.int .i64 l[k].left) ∧ w.cell? ⟨b, o + k * 6 + 1, none⟩ = some (.slice ra l[k].right.length rc) ∧ Ints w (.slice ra l[k].right.length rc) l[k].right := by
  obtain ⟨pg, po, ra, rc, rfl, hprd, hcs⟩ := h.get k hk
  have c0 := hcs 0 (by simp [prdCells])
  have c1 := hcs 1 (by simp [prdCells])
  simp only [prdCells, List.getElem_cons_zero, List.getElem_cons_succ, Nat.add_zero] at c0 c1
  obtain ⟨_, r, hr, e⟩ := hprd
  have e' : Value.slice ra l[k].right.length rc = r := by simpa [prdVal] using e
  subst e'
  exact ⟨pg, po, ra, rc, rfl, c0, c1, hr⟩
theorem right_left {G : Gram} (h : rightG G = true) (k : Nat) (hk : k < G.prods.length) : 0 ≤ G.prods[k].left := by
  obtain ⟨terms, syms, prods⟩ := G
  have ht := (rightG_parts h).1.1
  have := (rightG_parts h).2.2
  simp only at ht
  cases prods with
  | nil => simp at hk
  | cons p r =>
    simp only [prodsG, Bool.and_eq_true, List.all_eq_true] at this
    obtain ⟨h1, h2⟩ := this
    cases k with
    | zero =>
      unfold firstG at h1
      simp only [Bool.and_eq_true, decide_eq_true_eq] at h1
      have := h1.1
      simp only [List.getElem_cons_zero]
      omega
    | succ k =>
      have hk' : k < r.length := by simpa using hk
      have h3 := h2 r[k] (List.getElem_mem _)
      simp only [List.getElem_cons_succ]
      generalize r[k] = p at *
      unfold prodG at h3
      simp only [Bool.and_eq_true, Bool.not_eq_true', Bool.or_eq_false_iff, decide_eq_false_iff_not] at h3
      have := h3.1.1
      omega
theorem ris_len : ∀ {l m : List It}, RisI l → RisI m → (∀ x ∈ l, x ∈ m) → l.length ≤ m.length
  | [], _, _, _, _ => Nat.zero_le _
  | a :: l, [], _, _, h => by have := h a (by simp); simp at this
  | a :: l, b :: m, hl, hm, h => by
    have hl' := List.pairwise_cons.1 hl
    have hm' := List.pairwise_cons.1 hm
    have key : ∀ x ∈ l, x ∈ m := fun x hx => by
      rcases List.mem_cons.1 (h x (List.mem_cons_of_mem _ hx)) with e | e
      · subst e
        rcases List.mem_cons.1 (h a (by simp)) with e2 | e2
        · subst e2
          exact absurd (hl'.1 _ hx) (ltI_irrefl _)
        · exact absurd (ltI_trans (hl'.1 _ hx) (hm'.1 a e2)) (ltI_irrefl _)
      · exact e
    have := ris_len hl'.2 hm'.2 key
    simp only [List.length_cons]
    omega
/-- What has been put together of a closure so far. -/
structure OfAt (G : Gram) (K L : List It) : Prop where
  ris : RisI L
  ker : ∀ x ∈ K, x ∈ L
  sound : ∀ x ∈ L, InClo G K x
theorem OfAt.len {G : Gram} {K L : List It} (h : OfAt G K L) : L.length ≤ (cloL G K).length := ris_len h.ris (cloL_ris G K) fun x hx => cloL_mem.2 (h.sound x hx)
theorem OfAt.put {G : Gram} {K L : List It} (h : OfAt G K L) {x y : It} (hx : x ∈ L) (hy : StepI G x y) : OfAt G K (putI y L) := by
  refine ⟨putI_ris h.ris, fun z hz => putI_mem.2 (.inr (h.ker z hz)), fun z hz => ?_⟩
  rcases putI_mem.1 hz with rfl | hz
  · obtain ⟨p, hp, h1, rfl⟩ := hy
    exact .step hp (h.sound x hx) h1 rfl
  · exact h.sound z hz
theorem OfAt.done {G : Gram} {K L : List It} (h : OfAt G K L) (hc : ∀ x ∈ L, ∀ y, StepI G x y → y ∈ L) : L = cloL G K := by
  refine cloL_is h.ris fun x => ⟨h.sound x, fun hx => ?_⟩
  induction hx with
  | ker hk => exact h.ker _ hk
  | step hp _ hb hl ih => exact hc _ ih _ ⟨_, hp, by rw [hb, hl], rfl⟩
theorem putI_longer {x : It} {l : List It} (h : newB x l = true) : (putI x l).length = l.length + 1 := by
  rw [putI_new h, List.length_append, List.length_cons, List.length_take, List.length_drop]
  have := lessN_le x l
  omega
theorem behZ_step {G : Gram} (hr : rightG G = true) {x : It} {p : Nat} (hp : p < G.prods.length) : G.prods[p].left = behZ G x ↔ behI G x = some G.prods[p].left := by
  have := right_left hr p hp
  unfold behZ
  cases hb : behI G x with
  | none => simp; omega
  | some s => simp [eq_comm]
def boolV : Value → Bool
  | .bool b => b
  | _ => false
def lenV : Value → Nat
  | .slice _ n _ => n
  | _ => 0

/-- What put tells, owned if what it was handed was. -/
theorem put_owned {w w' : World} {B : Nat} {u v : Value} {l : List It} {x : It} (ho : OwnI w B u l) (hB : B ≤ w.heap.size) (hb : Below w.heap.size w w') (h0 : newB x l = false → v = u) (h1 : newB x l = true → OwnI w' w.heap.size v (putI x l)) : OwnI w' B v (putI x l) := by
  cases hn : newB x l with
  | false =>
    rw [h0 hn, putI_old hn]
    exact own_fr ho (Fr.new hb) fun _ _ => id
  | true => exact (h1 hn).down hB
set_option maxRecDepth 100000 in
set_option maxHeartbeats 8000000 in
theorem of19_any (G : Gram) (v kv : Value) (K : List It) (w : World) (h : IsGram w v G) (hr : rightG G = true) (hk : IsItems w kv K) (hin : ∀ x ∈ K, InI G x) (hl : K.length ≤ 90000) :
    Calls Try.prog 24 #[v, kv] w fun e w' => ∃ u, e = .returned u ∧ IsItems w' u (cloL G K) ∧ OwnI w' w.heap.size u (cloL G K) ∧ Below w.heap.size w w' := by
  have hG := h
  obtain ⟨hterms, vs, vp, rfl, hs, hp⟩ := h
  obtain ⟨-, sa, sc, rfl, -, -, -⟩ := id hs
  obtain ⟨-, pa, pc, rfl, -, -, -⟩ := id hp
  obtain ⟨ka, kc, rfl, -, -, -⟩ := id hk.parts
  have hS0 : Stands w.heap.size w G sa pa sc pc (w.alloc (grO G sa pa sc pc)) := ⟨alloc_obj _ _, hG.fr (Fr.alloc _ _), (Below.refl _ w).alloc (Nat.le_refl _) _⟩
  have HS0 := Lib.hid hS0
  have HK := Lib.hid hk
  have HR := Lib.hid hr
  have HIN := Lib.hid hin
  have hpl := right_short hr
  have hcl := cloL_len G K
  clear hS0 hs hp hG hk hr hin
  obtain ⟨nK, hnK⟩ : ∃ n, K.length = n := ⟨_, rfl⟩
  rw [hnK] at hl HK hcl ⊢
  have HNK := Lib.hid hnK
  clear hnK
  obtain ⟨N, hN⟩ : ∃ n, (cloL G K).length = n := ⟨_, rfl⟩
  rw [hN] at hcl
  have HN := Lib.hid hN
  clear hN
  go_enter Try.func24, Try.ntmps24
  go_upto_region 1 with fail
  unfold grO at HS0
  generalize hw1 : w.alloc (Obj.cells #[.int .i64 G.terms, .slice sa G.syms.length sc, .slice pa G.prods.length pc] 25 (0, 0)) = W1 at *
  clear hw1
  go_wp2
  go_loopw [5, 6] (fun u i wr => ∃ (k : Nat) (u' : Value) (L : List It), u' = u ∧ k ≤ nK ∧ i = .int .i64 k ∧ (IsItems wr u' L ∧ OwnI wr W1.heap.size u' L) ∧ RisI L ∧ (∀ x, x ∈ L ↔ x ∈ K.take k) ∧ L.length ≤ k ∧ Below W1.heap.size W1 wr) (fun _ i _ => nK - (intOf i).toNat)
  case atStart => exact ⟨0, _, [], rfl, Nat.zero_le _, rfl, ⟨isItems_nil _, OwnI.nil _ _⟩, List.Pairwise.nil, by simp, Nat.le_refl _, Below.refl _ _⟩
  case round =>
    obtain ⟨k, u, L, rfl, hkn, rfl, ⟨hL, hLo⟩, hris, hmem, hlen, hb⟩ := hrel
    by_cases hlt : k < nK
    · have hkk : k < K.length := by rw [HNK.out]; exact hlt
      obtain ⟨kb, ko, rfl, c0, c1, i0, i1⟩ := (HK.out.fr (Fr.new (HS0.out.keep hb).below)).at hkk
      have hmem' := take_more hkk
      have HP := Lib.hid (put19_any u L K[k] wr hL ⟨i0, i1⟩ (by omega))
      have HM := Lib.hid (And.intro hris (And.intro hmem (And.intro hmem' (And.intro hlen hb))))
      have HLO := Lib.hid hLo
      have hpl2 := putI_len K[k] L
      clear hris hmem hmem' hlen hb hL hLo i0 i1
      generalize K[k] = x at *
      clear hkk
      obtain ⟨xa, xb⟩ := x
      unfold itVal at HP
      simp only at c0 c1
      go_wp2_with (go_at_call 42; refine HP.out.mono ?_; rintro e w2 ⟨v2, rfl, hi2, ho0, ho1, hb2⟩)
      go_roundw
      case rel => exact ⟨k + 1, v2, _, rfl, by omega, by simp, ⟨hi2, put_owned HLO.out HM.out.2.2.2.2.size hb2 ho0 ho1⟩, putI_ris HM.out.1, fun y => by rw [putI_mem, HM.out.2.1, HM.out.2.2.1], by have := HM.out.2.2.2.1; omega, HM.out.2.2.2.2.trans (hb2.mono HM.out.2.2.2.2.size)⟩
      case measure => simp [intOf]; omega
    · obtain rfl : k = nK := by omega
      have hof : OfAt G K L := ⟨hris, fun x hx => (hmem x).2 (by rw [List.take_of_length_le (Nat.le_of_eq HNK.out)]; exact hx), fun x hx => .ker (List.mem_of_mem_take ((hmem x).1 hx))⟩
      have HO := Lib.hid (And.intro hof (And.intro (And.intro hL hLo) hb))
      clear hof hL hLo hb hris hmem hlen hlt
      generalize wr = W2 at *
      go_wp2
      go_loopw [5, 7, 8, 9, 10] (fun u m _ _ _ wr => ∃ (mb : Bool) (u' : Value) (L : List It), u' = u ∧ m = .bool mb ∧ (IsItems wr u' L ∧ OwnI wr W1.heap.size u' L) ∧ OfAt G K L ∧ (mb = false → ∀ x ∈ L, ∀ y, StepI G x y → y ∈ L) ∧ Below W1.heap.size W1 wr) (fun u m _ _ _ _ => 2 * (N - lenV u) + if boolV m then 1 else 0)
      case atStart => exact ⟨true, u, L, rfl, rfl, HO.out.2.1, HO.out.1, (fun e => by cases e), HO.out.2.2⟩
      case round =>
        obtain ⟨mb, u, L1, rfl, rfl, ⟨hL, hLo⟩, hof, hcl1, hb⟩ := hrel
        have hle := hof.len
        rw [HN.out] at hle
        obtain ⟨ua, uc, rfl, -, -, -⟩ := id hL.parts
        cases mb with
        | false =>
          have hd := hof.done (hcl1 rfl)
          subst hd
          have hS := HS0.out.keep hb
          clear hcl1 hof
          go_wp2
          go_ret
          exact ⟨_, rfl, hL, hLo.down HS0.out.below.size, hS.below⟩
        | true =>
          have HL := Lib.hid (And.intro (And.intro hL hLo) (And.intro hof hb))
          clear hL hLo hof hb hcl1
          generalize wr = WA at *
          generalize hn1 : L1.length = n1 at *
          have HN1 := Lib.hid hn1
          clear hn1
          go_wp2
          go_loopw [5, 7, 8, 9, 10] (fun u m i _ _ wr => ∃ (mb : Bool) (u' : Value) (L : List It) (k : Nat), u' = u ∧ m = .bool mb ∧ i = .int .i64 k ∧ k ≤ L.length ∧ (IsItems wr u' L ∧ OwnI wr W1.heap.size u' L) ∧ OfAt G K L ∧ (mb = false → L = L1 ∧ ∀ x ∈ L1.take k, ∀ y, StepI G x y → y ∈ L1) ∧ (mb = true → n1 < L.length) ∧ Below W1.heap.size W1 wr) (fun _ _ i _ _ _ => N + 1 - (intOf i).toNat)
          case atStart => exact ⟨false, _, L1, 0, rfl, rfl, rfl, Nat.zero_le _, HL.out.1, HL.out.2.1, (fun _ => ⟨rfl, by simp⟩), (fun e => by cases e), HL.out.2.2⟩
          case round =>
            obtain ⟨mb, u, L, k, rfl, rfl, rfl, hkl, ⟨hi, hio⟩, hof, hf, ht, hb⟩ := hrel
            have hle := hof.len
            rw [HN.out] at hle
            obtain ⟨va, vc, rfl, -, -, -⟩ := id hi.parts
            have HQ := Lib.hid (And.intro hi (And.intro hof (And.intro hf (And.intro ht hb))))
            have HQO := Lib.hid hio
            clear hi hio hof hf ht hb
            generalize hln : L.length = ln at *
            have HLN := Lib.hid hln
            clear hln
            by_cases hgo : k < ln ∧ mb = false
            · obtain ⟨hkn, rfl⟩ := hgo
              have hkL : k < L.length := by rw [HLN.out]; exact hkn
              have hS := HS0.out.keep HQ.out.2.2.2.2
              obtain ⟨ob, oo, rfl, c0, c1, x6, x7⟩ := HQ.out.1.at hkL
              have hxL := List.getElem_mem hkL
              have hxin : InI G L[k] := inClo_in HIN.out (HQ.out.2.1.sound _ hxL)
              have hprev := (HQ.out.2.2.1 rfl).2
              have hL1 := (HQ.out.2.2.1 rfl).1
              rw [← hL1] at hprev
              have htk := take_more hkL
              have HBH := Lib.hid fun p : After wr => after_call p (behind19_any G (grV G sa pa sc pc) p.w (hS.gram.fr (Fr.new p.ok)) L[k] hxin)
              unfold grV at HBH
              have e0 := after_cell hS.d0
              have e1 := after_cell hS.d1
              have e2 := after_cell hS.d2
              have f0 := after_cell c0
              have f1 := after_cell c1
              have HX := Lib.hid (And.intro hxL (And.intro hprev (And.intro htk (And.intro hL1 hS))))
              have hne := after_ne wr
              clear hS c0 c1 x6 x7 hxL hxin hprev htk hL1
              generalize L[k] = x at *
              clear hkL
              generalize hbz : behZ G x = bz at *
              have HBZ := Lib.hid hbz
              clear hbz
              obtain ⟨xa, xb⟩ := x
              unfold itVal at HBH
              simp only at f0 f1
              have hkt : decide (k < ln) = true := decide_eq_true hkn
              go_upto_region 12 with fail
              refine wp_region_after wr (by kernel_rfl) (by kernel_rfl) (Below.refl _ _) ?_
              repeat (go_big_quiet_step (exact HBH.out _))
              refine wpQuiet_nil ?_
              intro _ hw'
              obtain ⟨pw, hw''⟩ := hw'
              subst hw''
              have hb2 := HQ.out.2.2.2.2.trans (pw.ok.mono HQ.out.2.2.2.2.size)
              have hi2 := HQ.out.1.fr (Fr.new pw.ok)
              have HW2 := Lib.hid (And.intro (And.intro hi2 (own_fr HQO.out (Fr.new pw.ok) fun _ _ => id)) hb2)
              have hlg : ln ≤ 100000 := by omega
              clear e0 e1 e2 f0 f1 hne hi2 hb2 HBH
              generalize pw.w = WB at *
              clear pw
              go_wp2
              go_loopw [5, 7, 10] (fun u m q wr => ∃ (mb : Bool) (u' : Value) (L' : List It) (r : Nat), u' = u ∧ m = .bool mb ∧ q = .int .i64 r ∧ r ≤ G.prods.length ∧ (IsItems wr u' L' ∧ OwnI wr W1.heap.size u' L') ∧ OfAt G K L' ∧ (mb = false → L' = L ∧ ∀ y, StepTo G (xa, xb) r y → y ∈ L) ∧ (mb = true → ln < L'.length) ∧ Below W1.heap.size W1 wr) (fun _ _ q _ => G.prods.length + 1 - (intOf q).toNat)
              case atStart => exact ⟨false, _, L, 0, rfl, rfl, rfl, Nat.zero_le _, HW2.out.1, HQ.out.2.1, (fun _ => ⟨rfl, fun y hy => absurd hy stepTo_zero⟩), (fun e => by cases e), HW2.out.2⟩
              case round =>
                obtain ⟨mb, u, L', r, rfl, rfl, rfl, hrm, ⟨hi, hio⟩, hof, hf, ht, hb⟩ := hrel
                have hle' := hof.len
                rw [HN.out] at hle'
                have hS := HS0.out.keep hb
                have d2 := hS.d2
                obtain ⟨va', vc', rfl, -, -, -⟩ := id hi.parts
                have HQ2 := Lib.hid (And.intro hi (And.intro hof (And.intro hf (And.intro ht hb))))
                have HQ2O := Lib.hid hio
                clear hi hio hof hf ht hb
                generalize hln2 : L'.length = ln2 at *
                have HLN2 := Lib.hid hln2
                clear hln2
                by_cases hgo : r < G.prods.length ∧ mb = false
                · obtain ⟨hrm2, rfl⟩ := hgo
                  have hL' := (HQ2.out.2.2.1 rfl).1
                  have hprev := (HQ2.out.2.2.1 rfl).2
                  obtain ⟨_, vs', vp', he, _, hPr⟩ := id hS.gram
                  unfold grV at he
                  simp only [Value.agg.injEq, Array.mk.injEq, List.cons.injEq, true_and, and_true] at he
                  obtain ⟨rfl, rfl⟩ := he
                  obtain ⟨pb, po, _, _, rfl, z0, -, -⟩ := prd19_at hPr hrm2
                  have hz := behZ_step HR.out (x := (xa, xb)) hrm2
                  have hhit := fun y (h : behI G (xa, xb) = some G.prods[r].left) => stepTo_hit (y := y) hrm2 h
                  have hmiss := fun y (h : behI G (xa, xb) ≠ some G.prods[r].left) => stepTo_miss (y := y) hrm2 h
                  have hstep : behI G (xa, xb) = some G.prods[r].left → StepI G (xa, xb) ((r : Int), 0) := fun h => ⟨r, hrm2, h, rfl⟩
                  have HZ := Lib.hid (And.intro hhit (And.intro hmiss (And.intro hstep (And.intro hL' hprev))))
                  have hrt : decide (r < G.prods.length) = true := decide_eq_true hrm2
                  rw [HBZ.out] at hz
                  clear hPr hhit hmiss hstep hS hL' hprev
                  generalize G.prods[r].left = lf at *
                  by_cases hit : lf = bz
                  · have hbi := hz.1 hit
                    have hit' : (lf == bz) = true := by simp [hit]
                    have hP := put19_any (.slice va' ln2 vc') L' ((r : Int), 0) wr HQ2.out.1 ⟨by unfold i64; simp only; omega, by unfold i64; simp only; omega⟩ (by rw [HLN2.out]; omega)
                    unfold itVal at hP
                    have HP := Lib.hid hP
                    have HBI := Lib.hid hbi
                    clear hit hz hbi hP
                    go_wp2_with (go_at_call 42; refine HP.out.mono ?_; rintro e w2 ⟨v2, rfl, hi2, ho0, ho1, hb2⟩)
                    go_roundw
                    case rel =>
                      have hy := HZ.out.2.2.1 HBI.out
                      have hxL' : (xa, xb) ∈ L' := by rw [HZ.out.2.2.2.1]; exact HX.out.1
                      refine ⟨newB ((r : Int), 0) L', v2, _, r + 1, rfl, rfl, by simp, by omega, ⟨hi2, put_owned HQ2O.out HQ2.out.2.2.2.2.size hb2 ho0 ho1⟩, HQ2.out.2.1.put hxL' hy, fun e => ?_, fun e => ?_, HQ2.out.2.2.2.2.trans (hb2.mono HQ2.out.2.2.2.2.size)⟩
                      · have ho := putI_old e
                        rw [ho]
                        refine ⟨HZ.out.2.2.2.1, fun y hy' => ?_⟩
                        rcases (HZ.out.1 y HBI.out).1 hy' with rfl | hy'
                        · rw [← HZ.out.2.2.2.1, ← ho]
                          exact putI_mem.2 (.inl rfl)
                        · exact HZ.out.2.2.2.2 y hy'
                      · rw [putI_longer e, HZ.out.2.2.2.1, HLN.out]
                        omega
                    case measure => simp [intOf]; omega
                  · have hnb : behI G (xa, xb) ≠ some lf := fun h => hit (hz.2 h)
                    have hit' : (lf == bz) = false := beq_eq_false_iff_ne.2 hit
                    have HNB := Lib.hid hnb
                    clear hit hz hnb
                    go_wp2
                    go_roundw
                    case rel => exact ⟨false, _, L', r + 1, rfl, rfl, by simp, by omega, ⟨HQ2.out.1, HQ2O.out⟩, HQ2.out.2.1, (fun _ => ⟨HZ.out.2.2.2.1, fun y hy => HZ.out.2.2.2.2 y ((HZ.out.2.1 y HNB.out).1 hy)⟩), (fun e => by cases e), HQ2.out.2.2.2.2⟩
                    case measure => simp [intOf]; omega
                · have hrel' : mb = false → L' = L1 ∧ ∀ z ∈ L1.take (k + 1), ∀ y, StepI G z y → y ∈ L1 := fun e => by
                    obtain ⟨h1, h2⟩ := HQ2.out.2.2.1 e
                    have hrm3 : G.prods.length ≤ r := by
                      rcases Nat.lt_or_ge r G.prods.length with h | h
                      · exact absurd ⟨h, e⟩ hgo
                      · exact h
                    have hLL := HX.out.2.2.2.1
                    refine ⟨by rw [h1, hLL], fun z hz y hy => ?_⟩
                    rw [← hLL] at hz ⊢
                    rcases (HX.out.2.2.1 z).1 hz with rfl | hz
                    · exact h2 y ((stepTo_all hrm3).2 hy)
                    · exact HX.out.2.1 z hz y hy
                  have hgt : mb = true → n1 < L'.length := fun e => by
                    have h1 := HQ2.out.2.2.2.1 e
                    rw [HLN2.out]
                    have h2 := HX.out.2.2.2.1
                    have h3 := HLN.out
                    rw [h2, HN1.out] at h3
                    omega
                  have hkl2 : k + 1 ≤ L'.length := by
                    cases mb with
                    | true => have h1 := HQ2.out.2.2.2.1 rfl; rw [HLN2.out]; omega
                    | false => rw [(HQ2.out.2.2.1 rfl).1, HLN.out]; omega
                  have HE := Lib.hid (And.intro hrel' (And.intro hgt hkl2))
                  clear hrel' hgt hkl2
                  by_cases hrm2 : r < G.prods.length
                  · have hmb : mb = true := by cases mb with
                      | true => rfl
                      | false => exact absurd ⟨hrm2, rfl⟩ hgo
                    subst hmb
                    have hrt : decide (r < G.prods.length) = true := decide_eq_true hrm2
                    clear hgo
                    go_wp2
                    go_roundw
                    case rel => exact ⟨true, _, L', k + 1, rfl, rfl, by simp, HE.out.2.2, ⟨HQ2.out.1, HQ2O.out⟩, HQ2.out.2.1, (fun e => by cases e), HE.out.2.1, HQ2.out.2.2.2.2⟩
                    case measure => simp [intOf]; omega
                  · have hrt : decide (r < G.prods.length) = false := decide_eq_false hrm2
                    clear hgo
                    go_wp2
                    go_roundw
                    case rel => exact ⟨mb, _, L', k + 1, rfl, rfl, by simp, HE.out.2.2, ⟨HQ2.out.1, HQ2O.out⟩, HQ2.out.2.1, HE.out.1, HE.out.2.1, HQ2.out.2.2.2.2⟩
                    case measure => simp [intOf]; omega
            · by_cases hkn : k < ln
              · have hmb : mb = true := by cases mb with
                  | true => rfl
                  | false => exact absurd ⟨hkn, rfl⟩ hgo
                subst hmb
                have hlonger := HQ.out.2.2.2.1 rfl
                have hkt : decide (k < ln) = true := decide_eq_true hkn
                clear hgo
                go_wp2
                go_roundw
                case rel => exact ⟨true, _, L, rfl, rfl, ⟨HQ.out.1, HQO.out⟩, HQ.out.2.1, (fun e => by cases e), HQ.out.2.2.2.2⟩
                case measure => simp [lenV, boolV]; omega
              · have hkt : decide (k < ln) = false := decide_eq_false hkn
                have hend : mb = false → ∀ x ∈ L, ∀ y, StepI G x y → y ∈ L := fun e x hx y hy => by
                  obtain ⟨h1, h2⟩ := HQ.out.2.2.1 e
                  rw [h1] at hx ⊢
                  refine h2 x ?_ y hy
                  rw [List.take_of_length_le (by have := HLN.out; rw [h1] at this; omega)]
                  exact hx
                have HE := Lib.hid hend
                have hml : mb = true → n1 < ln := HQ.out.2.2.2.1
                have hn1 : mb = false → ln = n1 := fun e => by rw [← HLN.out, ← HN1.out, (HQ.out.2.2.1 e).1]
                clear hgo hend
                go_wp2
                go_roundw
                case rel => exact ⟨mb, _, L, rfl, rfl, ⟨HQ.out.1, HQO.out⟩, HQ.out.2.1, HE.out, HQ.out.2.2.2.2⟩
                case measure =>
                  cases mb with
                  | true => have := hml rfl; simp [lenV, boolV]; omega
                  | false => have := hn1 rfl; simp [lenV, boolV]; omega
end Go.Proofs.Ytgmkpncpcikecaa
namespace Go.Proofs.Ytgmkpncpcikecaa
open Go.RowKit Go.MapKept Go.ChangeMaps
set_option maxHeartbeats 400000

theorem onI_take {G : Gram} {L : List It} {s : Int} {k : Nat} (hk : k < L.length) : onI G (L.take (k + 1)) s = if behI G L[k] = some s then onI G (L.take k) s ++ [(L[k].1, L[k].2 + 1)] else onI G (L.take k) s := by
  have e : L.take (k + 1) = L.take k ++ [L[k]] := by rw [List.take_add_one, List.getElem?_eq_getElem hk]; rfl
  unfold onI
  rw [e, List.filter_append, List.map_append]
  by_cases h : behI G L[k] = some s <;> simp [h]
theorem behZ_is {G : Gram} {x : It} {s : Int} (hs : 0 ≤ s) : behZ G x = s ↔ behI G x = some s := by
  unfold behZ
  cases hb : behI G x with
  | none => simp; omega
  | some t => simp

set_option maxRecDepth 100000 in
set_option maxHeartbeats 8000000 in
theorem on19_any (G : Gram) (v uv : Value) (L : List It) (s : Int) (w : World) (h : IsGram w v G) (hr : rightG G = true) (hu : IsItems w uv L) (hin : ∀ x ∈ L, InI G x) (hl : L.length ≤ 100000) (hs0 : 0 ≤ s) :
    Calls Try.prog 25 #[v, uv, .int .i64 s] w (NewI (onI G L s) w) := by
  have hG := h
  obtain ⟨hterms, vs, vp, rfl, hs, hp⟩ := h
  obtain ⟨-, sa, sc, rfl, -, -, -⟩ := id hs
  obtain ⟨-, pa, pc, rfl, -, -, -⟩ := id hp
  obtain ⟨ua, uc, rfl, -, -, -⟩ := id hu.parts
  have hS0 : Stands w.heap.size w G sa pa sc pc (w.alloc (grO G sa pa sc pc)) := ⟨alloc_obj _ _, hG.fr (Fr.alloc _ _), (Below.refl _ w).alloc (Nat.le_refl _) _⟩
  have HS0 := Lib.hid hS0
  have HU := Lib.hid hu
  have HR := Lib.hid hr
  have HIN := Lib.hid hin
  obtain ⟨i0, hi, hz0, hz1, hz2⟩ := info_parts Try.infoItem
  clear hS0 hs hp hG hu hr hin
  obtain ⟨n, hn⟩ : ∃ n, L.length = n := ⟨_, rfl⟩
  rw [hn] at hl HU ⊢
  have HNL := Lib.hid hn
  clear hn
  go_enter Try.func25, Try.ntmps25
  go_upto_region 1 with fail
  unfold grO at HS0
  generalize hw1 : w.alloc (Obj.cells #[.int .i64 G.terms, .slice sa G.syms.length sc, .slice pa G.prods.length pc] 25 (0, 0)) = W1 at *
  clear hw1
  go_wp2
  go_loopw [7, 8] (fun u i wr => ∃ (k : Nat) (u' : Value), u' = u ∧ k ≤ n ∧ i = .int .i64 k ∧ OwnI wr W1.heap.size u' (onI G (L.take k) s) ∧ Below W1.heap.size W1 wr) (fun _ i _ => n - (intOf i).toNat)
  case atStart => exact ⟨0, _, rfl, Nat.zero_le _, rfl, OwnI.nil _ _, Below.refl _ _⟩
  case round =>
    obtain ⟨k, u, rfl, hkn, rfl, hown, hb⟩ := hrel
    by_cases hlt : k < n
    · have hkL : k < L.length := by rw [HNL.out]; exact hlt
      have hS := HS0.out.keep hb
      obtain ⟨ob, oo, rfl, c0, c1, x6, x7⟩ := (HU.out.fr (Fr.new hS.below)).at hkL
      have hxin : InI G L[k] := HIN.out _ (List.getElem_mem hkL)
      have hsm := smallI_i64 (inI_small HR.out hxin)
      have hon := onI_take (G := G) (s := s) hkL
      have hbz := behZ_is (G := G) (x := L[k]) hs0
      have HBH := Lib.hid fun p : After wr => after_call p (behind19_any G (grV G sa pa sc pc) p.w (hS.gram.fr (Fr.new p.ok)) L[k] hxin)
      unfold grV at HBH
      have e0 := after_cell hS.d0
      have e1 := after_cell hS.d1
      have e2 := after_cell hS.d2
      have f0 := after_cell c0
      have f1 := after_cell c1
      have hd2 : -9223372036854775808 ≤ L[k].2 + 1 ∧ L[k].2 + 1 ≤ 9223372036854775807 := by
        have h1 := (inI_small HR.out hxin).2
        have h1 := (small_iff _).1 h1
        omega
      have HX := Lib.hid (And.intro hown (And.intro hb (And.intro hon (And.intro c0 c1))))
      have hol : (onI G (L.take k) s).length ≤ 100000 := by
        have h1 := onI_len G (L.take k) s
        have h2 := List.length_take_le k L
        omega
      have hne := after_ne wr
      obtain ⟨qa, qc, rfl, -, -, -⟩ := own_as_cells2 hown
      clear hS c0 c1 x6 x7 hxin hon hown hb hsm
      generalize L[k] = x at *
      clear hkL
      generalize behZ G x = bz at *
      generalize hM : onI G (L.take k) s = M at *
      clear hM
      obtain ⟨xa, xb⟩ := x
      unfold itVal at HBH
      simp only at f0 f1 hd2 HX
      generalize hml : M.length = mn at *
      have HML := Lib.hid hml
      clear hml
      by_cases hit : bz = s
      · have hbi := hbz.1 hit
        have hit' : (bz == s) = true := by simp [hit]
        have hon := HX.out.2.2.1
        rw [if_pos hbi] at hon
        have HON := Lib.hid hon
        clear hon hbi hit hbz
        go_upto_region 5 with fail
        refine wp_region_after wr (by kernel_rfl) (by kernel_rfl) (Below.refl _ _) ?_
        repeat (go_big_quiet_step (exact HBH.out _))
        refine wpQuiet_nil ?_
        intro _ hw'
        obtain ⟨pw, hw''⟩ := hw'
        subst hw''
        go_upto_region 6 with fail
        have hwr : IntKind.i64.wrap (xb + 1) = xb + 1 := IntWalk.i64_in _ (by omega)
        obtain ⟨wq, hq⟩ : ∃ wq, wq = pw.w.drew := ⟨_, rfl⟩
        have kq : Fr nothing wr wq := by rw [hq]; exact (Fr.new pw.ok).trans (Fr.drew _)
        have hownq : wq.ownsRow W1.heap.size 41 2 (.slice qa mn qc) M.length (M.flatMap encI) := own_fr HX.out.1 kq fun _ _ => id
        rw [HML.out] at hownq
        have hS0 : wq.cell? ⟨ob, oo + k * 2, none⟩ = some (.int .i64 xa) ∧ wq.cell? ⟨ob, oo + k * 2 + 1, none⟩ = some (.int .i64 xb) := ⟨kq.cell HX.out.2.2.2.1 id, kq.cell HX.out.2.2.2.2 id⟩
        have HQ := Lib.hid (And.intro kq hownq)
        refine wp_region_anyT (fun j W => j < 14 → W.cell? ⟨ob, oo + k * 2, none⟩ = some (.int .i64 xa) ∧ W.cell? ⟨ob, oo + k * 2 + 1, none⟩ = some (.int .i64 xb)) (by kernel_rfl) ?_
        rw [← hq]
        clear hq kq hownq e0 e1 e2 f0 f1 hne HBH
        clear pw
        refine anyT_take (R := _) (i := 0) (v := ?_) (fun j => decide (j < 14)) (fun j w h k => k (of_decide_eq_true h)) (fun w h _ => h) rfl (by kernel_rfl) (fun _ _ _ h => h) _ _ _ _ (by kernel_rfl) (by kernel_rfl) (by kernel_rfl) (by kernel_rfl) (Or.inl ⟨by rfl, ?_⟩) (by assumption) ?_
        rotate_left
        · (intro w hSw; (try dsimp only at hSw); go_simp)
          try with_reducible rfl
        refine anyT_take (R := _) (i := 1) (v := ?_) (fun j => decide (j < 14)) (fun j w h k => k (of_decide_eq_true h)) (fun w h _ => h) rfl (by kernel_rfl) (fun _ _ _ h => h) _ _ _ _ (by kernel_rfl) (by kernel_rfl) (by kernel_rfl) (by kernel_rfl) (Or.inl ⟨by rfl, ?_⟩) (by assumption) ?_
        rotate_left
        · (intro w hSw; (try dsimp only at hSw); go_simp)
          try with_reducible rfl
        refine anyT_take (R := _) (i := 2) (v := ?_) (fun j => decide (j < 14)) (fun j w h k => k (of_decide_eq_true h)) (fun w h _ => h) rfl (by kernel_rfl) (fun _ _ _ h => h) _ _ _ _ (by kernel_rfl) (by kernel_rfl) (by kernel_rfl) (by kernel_rfl) (Or.inl ⟨by rfl, ?_⟩) (by assumption) ?_
        rotate_left
        · (intro w hSw; (try dsimp only at hSw); go_simp)
          try with_reducible rfl
        refine anyT_take (R := _) (i := 3) (v := ?_) (fun j => decide (j < 14)) (fun j w h k => k (of_decide_eq_true h)) (fun w h _ => h) rfl (by kernel_rfl) (fun _ _ _ h => h) _ _ _ _ (by kernel_rfl) (by kernel_rfl) (by kernel_rfl) (by kernel_rfl) (Or.inl ⟨by rfl, ?_⟩) (by assumption) ?_
        rotate_left
        · (intro w hSw; (try dsimp only at hSw); go_simp)
          try with_reducible rfl
        refine anyT_take (R := _) (i := 4) (v := ?_) (fun j => decide (j < 14)) (fun j w h k => k (of_decide_eq_true h)) (fun w h _ => h) rfl (by kernel_rfl) (fun _ _ _ h => h) _ _ _ _ (by kernel_rfl) (by kernel_rfl) (by kernel_rfl) (by kernel_rfl) (Or.inl ⟨by rfl, ?_⟩) (by assumption) ?_
        rotate_left
        · (intro w hSw; (try dsimp only at hSw); go_simp)
          try with_reducible rfl
        refine anyT_take (R := _) (i := 5) (v := ?_) (fun j => decide (j < 14)) (fun j w h k => k (of_decide_eq_true h)) (fun w h _ => h) rfl (by kernel_rfl) (fun _ _ _ h => h) _ _ _ _ (by kernel_rfl) (by kernel_rfl) (by kernel_rfl) (by kernel_rfl) (Or.inl ⟨by rfl, ?_⟩) (by assumption) ?_
        rotate_left
        · (intro w hSw; (try dsimp only at hSw); go_simp)
          try with_reducible rfl
        refine anyT_take (R := _) (i := 6) (v := ?_) (fun j => decide (j < 14)) (fun j w h k => k (of_decide_eq_true h)) (fun w h _ => h) rfl (by kernel_rfl) (fun _ _ _ h => h) _ _ _ _ (by kernel_rfl) (by kernel_rfl) (by kernel_rfl) (by kernel_rfl) (Or.inl ⟨by rfl, ?_⟩) (by assumption) ?_
        rotate_left
        · (intro w hSw; (try dsimp only at hSw); go_simp)
          try with_reducible rfl
        refine anyT_take (R := _) (i := 7) (v := ?_) (fun j => decide (j < 14)) (fun j w h k => k (of_decide_eq_true h)) (fun w h _ => h) rfl (by kernel_rfl) (fun _ _ _ h => h) _ _ _ _ (by kernel_rfl) (by kernel_rfl) (by kernel_rfl) (by kernel_rfl) (Or.inl ⟨by rfl, ?_⟩) (by assumption) ?_
        rotate_left
        · (intro w hSw; (try dsimp only at hSw); go_simp)
          try with_reducible rfl
        refine anyT_take (R := _) (i := 8) (v := ?_) (fun j => decide (j < 14)) (fun j w h k => k (of_decide_eq_true h)) (fun w h _ => h) rfl (by kernel_rfl) (fun _ _ _ h => h) _ _ _ _ (by kernel_rfl) (by kernel_rfl) (by kernel_rfl) (by kernel_rfl) (Or.inl ⟨by rfl, ?_⟩) (by assumption) ?_
        rotate_left
        · (intro w hSw; (try dsimp only at hSw); go_simp)
          try with_reducible rfl
        refine anyT_take (R := _) (i := 9) (v := ?_) (fun j => decide (j < 14)) (fun j w h k => k (of_decide_eq_true h)) (fun w h _ => h) rfl (by kernel_rfl) (fun _ _ _ h => h) _ _ _ _ (by kernel_rfl) (by kernel_rfl) (by kernel_rfl) (by kernel_rfl) (Or.inl ⟨by rfl, ?_⟩) (by assumption) ?_
        rotate_left
        · (intro w hSw; (try dsimp only at hSw); go_simp)
          try with_reducible rfl
        refine anyT_take (R := _) (i := 10) (v := ?_) (fun j => decide (j < 14)) (fun j w h k => k (of_decide_eq_true h)) (fun w h _ => h) rfl (by kernel_rfl) (fun _ _ _ h => h) _ _ _ _ (by kernel_rfl) (by kernel_rfl) (by kernel_rfl) (by kernel_rfl) (Or.inl ⟨by rfl, ?_⟩) (by assumption) ?_
        rotate_left
        · (intro w hSw; (try dsimp only at hSw); go_simp)
          try with_reducible rfl
        refine anyT_take (R := _) (i := 11) (v := ?_) (fun j => decide (j < 14)) (fun j w h k => k (of_decide_eq_true h)) (fun w h _ => h) rfl (by kernel_rfl) (fun _ _ _ h => h) _ _ _ _ (by kernel_rfl) (by kernel_rfl) (by kernel_rfl) (by kernel_rfl) (Or.inl ⟨by rfl, ?_⟩) (by assumption) ?_
        rotate_left
        · (intro w hSw; (try dsimp only at hSw); go_simp)
          try with_reducible rfl
        refine anyT_take (R := _) (i := 12) (v := ?_) (fun j => decide (j < 14)) (fun j w h k => k (of_decide_eq_true h)) (fun w h _ => h) rfl (by kernel_rfl) (fun _ _ _ h => h) _ _ _ _ (by kernel_rfl) (by kernel_rfl) (by kernel_rfl) (by kernel_rfl) (Or.inl ⟨by rfl, ?_⟩) (by assumption) ?_
        rotate_left
        · (intro w hSw; (try dsimp only at hSw); go_simp)
          try with_reducible rfl
        refine anyT_ready (rs := [13]) (by kernel_rfl) (by simp) ?_
        intro j hj
        obtain rfl := List.mem_singleton.1 hj
        clear hj
        refine wpOp_plain rfl rfl ?_
        go_simp
        refine ⟨⟨(Fr.alloc (ch := nothing) wq _).cell hS0.1 id, (Fr.alloc (ch := nothing) wq _).cell hS0.2 id⟩, ?_⟩
        have hga := HQ.out.2.alloc (Obj.cells #[.int .i64 xa, .int .i64 (xb + 1)] 41 (0, 0))
        have hna := two_news (alloc_obj wq (Obj.cells #[.int .i64 xa, .int .i64 (xb + 1)] 41 (0, 0)))
        have hka := HQ.out.1.trans (Fr.alloc wq (Obj.cells #[.int .i64 xa, .int .i64 (xb + 1)] 41 (0, 0)))
        have hBa : W1.heap.size ≤ (wq.alloc (Obj.cells #[.int .i64 xa, .int .i64 (xb + 1)] 41 (0, 0))).heap.size := Nat.le_trans HX.out.2.1.size hka.size
        have HKA := Lib.hid hka
        clear hS0 hka
        refine anyT_ready (rs := [14]) (by kernel_rfl) (by simp) ?_
        intro j hj
        obtain rfl := List.mem_singleton.1 hj
        clear hj
        refine wpOp_plain rfl rfl ?_
        generalize hwa : wq.alloc (Obj.cells #[.int .i64 xa, .int .i64 (xb + 1)] 41 (0, 0)) = wa at *
        refine wp_append_lies _ _ _ 36 rfl W1.heap.size 41 i0 _ 2 16 Try.underlying36 hi hz0 hz1 hz2 (by rfl) (by decide) (.slice qa mn qc) _ _ (by rfl) hga ⟨wq.heap.size, 0, none⟩ 1 1 [.int .i64 xa, .int .i64 (xb + 1)] (by rfl) (by rfl) hna (by simp [Value.oneCell']) (by omega) (by unfold maxLen; omega) (by omega) hBa _ rfl ?_
        intro g cap w4 hown4 hgrow4 hat4 hlt4
        refine ⟨fun h => absurd h (by decide), ?_⟩
        refine anyT_ready (rs := [15]) (by kernel_rfl) (by simp) ?_
        intro j hj
        obtain rfl := List.mem_singleton.1 hj
        clear hj
        refine wpOp_plain rfl rfl ?_
        go_simp
        refine anyT_done (by kernel_rfl) ?_ _
        have hf4 : Fr (from_ W1.heap.size) wr w4 := by
          have h1 := HKA.out
          exact h1.wide.trans ((Fr.grown hgrow4).mono fun g _ e => (ownObj hga g e).1)
        have hb4 : Below W1.heap.size W1 w4 := HX.out.2.1.trans (hf4.below HX.out.2.1.size fun g e => e)
        have ho4 : OwnI w4 W1.heap.size (.slice (some ⟨g, 0, none⟩) (mn + 1) cap) (onI G (L.take (k + 1)) s) := by
          rw [HON.out]
          unfold OwnI
          rw [List.length_append, List.flatMap_append, HML.out]
          simpa [encI] using hown4
        have HE := Lib.hid (And.intro ho4 hb4)
        clear ho4 hb4 hf4 hown4 hgrow4 hat4 hlt4 hga hna hBa HKA hwa HQ
        go_wp2
        go_roundw
        case rel => exact ⟨k + 1, _, rfl, by omega, by simp, HE.out.1, HE.out.2⟩
        case measure => simp [intOf]; omega
      · have hbi : ¬ behI G (xa, xb) = some s := fun h => hit (hbz.2 h)
        have hit' : (bz == s) = false := beq_eq_false_iff_ne.2 hit
        have hon := HX.out.2.2.1
        rw [if_neg hbi] at hon
        have HON := Lib.hid hon
        clear hon hbi hit hbz
        go_upto_region 5 with fail
        refine wp_region_after wr (by kernel_rfl) (by kernel_rfl) (Below.refl _ _) ?_
        repeat (go_big_quiet_step (exact HBH.out _))
        refine wpQuiet_nil ?_
        intro _ hw'
        obtain ⟨pw, hw''⟩ := hw'
        subst hw''
        have ho4 := own_fr HX.out.1 (Fr.new pw.ok) fun _ _ => id
        have hb4 := HX.out.2.1.trans (pw.ok.mono HX.out.2.1.size)
        have HE := Lib.hid (And.intro ho4 hb4)
        clear ho4 hb4 e0 e1 e2 f0 f1 hne HBH
        generalize pw.w = WB at *
        clear pw
        go_wp2
        go_roundw
        case rel => exact ⟨k + 1, _, rfl, by omega, by simp, by rw [HON.out]; exact HE.out.1, HE.out.2⟩
        case measure => simp [intOf]; omega
    · obtain rfl : k = n := by omega
      rw [List.take_of_length_le (Nat.le_of_eq HNL.out)] at hown
      have hS := HS0.out.keep hb
      clear hb
      go_wp2
      go_ret
      exact ⟨_, rfl, hown.down HS0.out.below.size, hS.below⟩
end Go.Proofs.Ytgmkpncpcikecaa
namespace Go.Proofs.Ytgmkpncpcikecaa
open Go.RowKit Go.MapKept Go.ChangeMaps
set_option maxHeartbeats 400000

/-- The states in memory: kernels ks, edges es. -/
structure StsR (w : World) (B : Nat) (lv : Value) (vs : List (Value × Value)) (ks : List (List It)) (es : List (List (Int × Int))) : Prop where
  own : w.ownsRow B 39 2 lv vs.length (stV vs)
  lk : ks.length = vs.length
  le : es.length = vs.length
  small : SmallK ks
  ker : ∀ i (h : i < vs.length), OwnI w B vs[i].1 (ks.getD i [])
  edg : ∀ i (h : i < vs.length), OwnE w B vs[i].2 (es.getD i [])
  apart : ∀ i j (hi : i < vs.length) (hj : j < vs.length) g, i ≠ j → vs[i].2.ownBlock = some g → vs[j].2.ownBlock ≠ some g
theorem StsR.fr {w w' : World} {B : Nat} {lv : Value} {vs : List (Value × Value)} {ks : List (List It)} {es : List (List (Int × Int))} (h : StsR w B lv vs ks es) (k : Fr nothing w w') : StsR w' B lv vs ks es :=
  ⟨own_fr h.own k fun _ _ => id, h.lk, h.le, h.small, fun i hi => own_fr (h.ker i hi) k fun _ _ => id, fun i hi => own_fr (h.edg i hi) k fun _ _ => id, h.apart⟩
theorem StsR.keepRow {w w' : World} {B : Nat} {lv : Value} {vs : List (Value × Value)} {ks : List (List It)} {es : List (List (Int × Int))} (h : StsR w B lv vs ks es) (k : Fr (fun g => lv.ownBlock = some g) w w')
    {B' e size n : Nat} {v : Value} {xs : List Value} (hv : w.ownsRow B' e size v n xs) (h1 : e ≠ 39) : w'.ownsRow B' e size v n xs := by
  refine own_fr hv k fun g hg hc => ?_
  obtain ⟨_, cs, hcs⟩ := ownObj hv g hg
  obtain ⟨_, cs', hcs'⟩ := ownObj h.own g hc
  rw [hcs'] at hcs
  simp only [Option.some.injEq, Obj.cells.injEq] at hcs
  exact h1 hcs.2.1.symm
/-- A new state has been laid. -/
theorem StsR.snoc {w w' : World} {B : Nat} {lv lv' kv : Value} {vs : List (Value × Value)} {ks : List (List It)} {es : List (List (Int × Int))} {K : List It} (h : StsR w B lv vs ks es) (k : Fr (fun g => lv.ownBlock = some g) w w')
    (hown : w'.ownsRow B 39 2 lv' (vs.length + 1) (stV vs ++ [kv, .slice none 0 0]))
    (hK : ∀ x ∈ K, smallI x) (hkv : OwnI w B kv K) : StsR w' B lv' (vs ++ [(kv, .slice none 0 0)]) (ks ++ [K]) (es ++ [[]]) := by
  have hlk := h.lk
  have hle := h.le
  refine ⟨by simpa [stV] using hown, by simp [hlk], by simp [hle], fun k hk => ?_, fun i hi => ?_, fun i hi => ?_, fun i j hi hj g hij hg => ?_⟩
  · rcases List.mem_append.1 hk with hk | hk
    · exact h.small k hk
    · rw [List.mem_singleton.1 hk]; exact hK
  · simp only [List.length_append, List.length_singleton] at hi
    by_cases e : i < vs.length
    · rw [List.getElem_append_left e, List.getD_eq_getElem?_getD, List.getElem?_append_left (by omega), ← List.getD_eq_getElem?_getD]
      exact h.keepRow k (h.ker i e) (by decide)
    · have : i = vs.length := by omega
      subst this
      rw [List.getElem_concat_length rfl, List.getD_eq_getElem?_getD, ← hlk, List.getElem?_concat_length]
      exact h.keepRow k hkv (by decide)
  · simp only [List.length_append, List.length_singleton] at hi
    by_cases e : i < vs.length
    · rw [List.getElem_append_left e, List.getD_eq_getElem?_getD, List.getElem?_append_left (by omega), ← List.getD_eq_getElem?_getD]
      exact h.keepRow k (h.edg i e) (by decide)
    · have : i = vs.length := by omega
      subst this
      rw [List.getElem_concat_length rfl, List.getD_eq_getElem?_getD, ← hle, List.getElem?_concat_length]
      exact World.ownsRow_nil _ _ _ _
  · simp only [List.length_append, List.length_singleton] at hi hj
    by_cases e : i < vs.length
    · by_cases e' : j < vs.length
      · rw [List.getElem_append_left e] at hg
        rw [List.getElem_append_left e']
        exact h.apart i j e e' g hij hg
      · have : j = vs.length := by omega
        subst this
        rw [List.getElem_concat_length rfl]
        simp [Value.ownBlock]
    · have : i = vs.length := by omega
      subst this
      rw [List.getElem_concat_length rfl] at hg
      cases hg
theorem StsR.cells {w : World} {B : Nat} {lv : Value} {vs : List (Value × Value)} {ks : List (List It)} {es : List (List (Int × Int))} (h : StsR w B lv vs ks es) (hn : 0 < vs.length) :
    ∃ lb c, lv = .slice (some ⟨lb, 0, none⟩) vs.length c ∧ B ≤ lb ∧ (∀ i (hi : i < vs.length), w.cell? ⟨lb, i * 2, none⟩ = some vs[i].1 ∧ w.cell? ⟨lb, i * 2 + 1, none⟩ = some vs[i].2) ∧ ∃ cs, w.heap[lb]? = some (.cells cs 39 (0, 0)) := by
  obtain ⟨a, c, hv, h1, h2, h3⟩ := own_as_cells2 h.own
  rcases h3 with h3 | ⟨g, rfl, hb, hc⟩
  · have := stV_len vs
    rw [h3] at this
    simp at this
    omega
  · refine ⟨g, c, hv, hb, fun i hi => ?_, (ownObj h.own g (by rw [hv]; rfl)).2⟩
    have at_ : ∀ j, j < 2 → w.cell? ⟨g, i * 2 + j, none⟩ = ([vs[i].1, vs[i].2] : List Value)[j]? := fun j hj => by
      have hlt : i * 2 + j < (stV vs).length := by rw [stV_len]; omega
      have h5 := hc (i * 2 + j) hlt
      have h6 := stV_at hi j hj
      rw [List.getElem?_eq_getElem hlt] at h6
      rw [Nat.zero_add] at h5
      rw [h5, h6]
    exact ⟨at_ 0 (by omega), at_ 1 (by omega)⟩
/-- An edge has been laid behind state i's. -/
theorem StsR.edge {w w0 w4 : World} {B lb n c i g cap : Nat} {vs : List (Value × Value)} {ks : List (List It)} {es : List (List (Int × Int))} {x t : Int} (h : StsR w B (.slice (some ⟨lb, 0, none⟩) n c) vs ks es) (hn : vs.length = n) (hi : i < vs.length)
    (k0 : Fr nothing w w0) (hown : w4.ownsRow B 44 2 (.slice (some ⟨g, 0, none⟩) ((es.getD i []).length + 1) cap) ((es.getD i []).length + 1) ((es.getD i []).flatMap encI ++ [.int .i64 x, .int .i64 t])) (hgrow : w0.grownBy w4 vs[i].2.ownBlock) (hat : vs[i].2.ownBlock = some g ∨ w.heap.size ≤ g) :
    StsR (w4.setCell ⟨lb, i * 2 + 1, none⟩ (.slice (some ⟨g, 0, none⟩) ((es.getD i []).length + 1) cap)) B (.slice (some ⟨lb, 0, none⟩) n c) (vs.set i (vs[i].1, .slice (some ⟨g, 0, none⟩) ((es.getD i []).length + 1) cap)) ks (es.set i (es.getD i [] ++ [(x, t)])) ∧
      Fr (fun k => k = lb ∨ vs[i].2.ownBlock = some k) w (w4.setCell ⟨lb, i * 2 + 1, none⟩ (.slice (some ⟨g, 0, none⟩) ((es.getD i []).length + 1) cap)) := by
  have hlk := h.lk
  have hle := h.le
  have k4 : Fr (fun k => vs[i].2.ownBlock = some k) w w4 := k0.wide.trans (Fr.grown hgrow)
  have hsc := Fr.setCell w4 ⟨lb, i * 2 + 1, none⟩ (.slice (some ⟨g, 0, none⟩) ((es.getD i []).length + 1) cap)
  obtain ⟨_, csl, hlb⟩ := ownObj h.own lb rfl
  have hE : ∀ k, vs[i].2.ownBlock = some k → ∃ cs, w.heap[k]? = some (.cells cs 44 (0, 0)) := fun k hk => (ownObj (h.edg i hi) k hk).2
  have notE : ∀ {k : Nat} {cs : Array Value} {e : TypeId} {fz : Nat × Nat}, w.heap[k]? = some (.cells cs e fz) → e ≠ 44 → vs[i].2.ownBlock ≠ some k := fun hk hne hv => by
    obtain ⟨cs', hc⟩ := hE _ hv
    rw [hk] at hc
    simp only [Option.some.injEq, Obj.cells.injEq] at hc
    exact hne hc.2.1
  have notL : ∀ {k : Nat} {cs : Array Value} {e : TypeId} {fz : Nat × Nat}, w.heap[k]? = some (.cells cs e fz) → e ≠ 39 → k ≠ lb := fun hk hne e => by
    rw [e, hlb] at hk
    simp only [Option.some.injEq, Obj.cells.injEq] at hk
    exact hne hk.2.1.symm
  have hF : Fr (fun k => k = lb ∨ vs[i].2.ownBlock = some k) w (w4.setCell ⟨lb, i * 2 + 1, none⟩ (.slice (some ⟨g, 0, none⟩) ((es.getD i []).length + 1) cap)) := (k4.mono fun _ _ e => .inr e).trans (Fr.setCell' ⟨lb, i * 2 + 1, none⟩ _ (.inl rfl))
  have keep : ∀ {B' e size n : Nat} {v : Value} {xs : List Value}, w.ownsRow B' e size v n xs → e ≠ 39 → (∀ k, v.ownBlock = some k → vs[i].2.ownBlock ≠ some k) → (w4.setCell ⟨lb, i * 2 + 1, none⟩ (.slice (some ⟨g, 0, none⟩) ((es.getD i []).length + 1) cap)).ownsRow B' e size v n xs := fun hv hne hk => own_fr hv hF fun k hkv hc => by
    rcases hc with hc | hc
    · obtain ⟨_, cs, hcs⟩ := ownObj hv k hkv
      exact notL hcs hne hc
    · exact hk k hkv hc
  refine ⟨⟨?_, by rw [List.length_set]; exact hlk, by rw [List.length_set, List.length_set]; exact hle, h.small, fun j hj => ?_, fun j hj => ?_, fun j j' hj hj' g' hne hg' => ?_⟩, hF⟩
  · have h4 := own_fr h.own k4 fun k hk hc => by
      have hk' : k = lb := by simpa [Value.ownBlock] using hk.symm
      subst hk'
      exact notE hlb (by decide) hc
    rw [hn] at h4
    rw [List.length_set, stV_set hi, hn]
    exact (World.ownsRow.stored h4 _ _).1
  · rw [List.length_set] at hj
    have hkj := h.ker j hj
    have : (vs.set i (vs[i].1, Value.slice (some ⟨g, 0, none⟩) ((es.getD i []).length + 1) cap))[j].1 = vs[j].1 := by
      rw [List.getElem_set]
      split
      · rename_i e; subst e; rfl
      · rfl
    rw [this]
    refine keep hkj (by decide) fun k hk => ?_
    obtain ⟨_, cs, hcs⟩ := ownObj hkj k hk
    exact notE hcs (by decide)
  · rw [List.length_set] at hj
    rw [List.getElem_set]
    by_cases e : i = j
    · subst e
      rw [if_pos rfl, getD_set_same (by omega)]
      unfold OwnE
      rw [List.length_append, List.flatMap_append]
      refine own_fr hown hsc fun k hk hc => ?_
      have hk' : k = g := by simpa [Value.ownBlock] using hk.symm
      have hc' : k = lb := hc
      subst hk'
      obtain ⟨_, cs, hcs⟩ := ownObj hown k rfl
      have hl4 := k4.obj hlb (notE hlb (by decide))
      rw [← hc', hcs] at hl4
      simp only [Option.some.injEq, Obj.cells.injEq] at hl4
      exact absurd hl4.2.1 (by decide)
    · rw [if_neg e, getD_set_other e]
      exact keep (h.edg j hj) (by decide) fun k hk hc => h.apart i j hi hj k e hc hk
  · rw [List.length_set] at hj hj'
    have old : ∀ a (ha : a < vs.length), a ≠ i → vs[a].2.ownBlock ≠ some g := fun a ha hne hg => by
      rcases hat with e | e
      · exact h.apart i a hi ha g (Ne.symm hne) e hg
      · obtain ⟨_, cs, hcs⟩ := ownObj (h.edg a ha) g hg
        have := (Array.getElem?_eq_some_iff.1 hcs).1
        omega
    rw [List.getElem_set] at hg' ⊢
    by_cases e : i = j
    · subst e
      rw [if_pos rfl] at hg'
      simp only [Value.ownBlock, Option.some.injEq] at hg'
      subst hg'
      rw [if_neg hne]
      exact old j' hj' (Ne.symm hne)
    · rw [if_neg e] at hg'
      by_cases e' : i = j'
      · subst e'
        rw [if_pos rfl]
        simp only [Value.ownBlock, ne_eq, Option.some.injEq]
        rintro rfl
        exact old j hj (Ne.symm e) hg'
      · rw [if_neg e']
        exact h.apart j j' hj hj' g' hne hg'
/-- What lies as states of its own reads as states. -/
theorem StsR.states {w : World} {B : Nat} {lv : Value} {vs : List (Value × Value)} {ks : List (List It)} {es : List (List (Int × Int))} (h : StsR w B lv vs ks es) (hl : vs.length ≤ 1000) (hk : ∀ k ∈ ks, k.length ≤ 1000000) (he : ∀ e ∈ es, e.length ≤ 1000000 ∧ ∀ x ∈ e, i64 x.1 ∧ i64 x.2)
    : IsStates w lv (ks.zip es) := by
  have hz : (ks.zip es).length = vs.length := by rw [List.length_zip, h.lk, h.le]; omega
  refine ⟨by omega, ?_⟩
  obtain ⟨a, c, hv, h1, h2, h3⟩ := own_as_cells2 h.own
  refine ⟨a, c, by rw [hz]; exact hv, by omega, h2, ?_⟩
  by_cases h0 : vs.length = 0
  · left
    exact List.eq_nil_of_length_eq_zero (by omega)
  · obtain ⟨lb, c', hv', hb, hcell, _⟩ := h.cells (by omega)
    rw [hv] at hv'
    simp only [Value.slice.injEq, true_and] at hv'
    obtain ⟨rfl, rfl⟩ := hv'
    refine .inr ⟨lb, 0, rfl, fun i hi => ?_⟩
    have hi' : i < vs.length := by omega
    have hik : i < ks.length := by rw [h.lk]; exact hi'
    have hie : i < es.length := by rw [h.le]; exact hi'
    obtain ⟨q0, q1⟩ := hcell i hi'
    have e1 := h.ker i hi'
    have e2 := h.edg i hi'
    rw [List.getD_eq_getElem?_getD, List.getElem?_eq_getElem hik, Option.getD_some] at e1
    rw [List.getD_eq_getElem?_getD, List.getElem?_eq_getElem hie, Option.getD_some] at e2
    rw [List.getElem_zip, Nat.zero_add]
    have hks := hk _ (List.getElem_mem hik)
    have hes := he _ (List.getElem_mem hie)
    refine ⟨vs[i].1, vs[i].2, e1.items (fun x hx => smallI_i64 (h.small _ (List.getElem_mem hik) x hx)) (by omega), row_items e2 hes.2 (by show es[i].length ≤ _; omega), q0, q1⟩
end Go.Proofs.Ytgmkpncpcikecaa
namespace Go.Proofs.Ytgmkpncpcikecaa
open Go.RowKit Go.MapKept Go.ChangeMaps
set_option maxHeartbeats 400000

/-- The states at a round's head. -/
structure ColR (G : Gram) (w : World) (B k : Nat) (lv : Value) (vs : List (Value × Value)) (ks : List (List It)) (gs : List (List (Int × Int))) : Prop where
  sts : StsR w B lv vs ks (gs ++ List.replicate (ks.length - k) [])
  lg : gs.length = k
  lk : k ≤ ks.length
  le : ks.length ≤ 256
  ok : KOk G ks
  go : colGo G (257 - k) k ks gs = colI G
/-- The states in a round: the symbols up to s have been gone through. -/
structure InR (G : Gram) (L : List It) (w : World) (B k : Nat) (av : Value) (gs : List (List (Int × Int))) (s : Nat) (lv : Value) (vs : List (Value × Value)) (ks : List (List It)) (es : List (Int × Int)) : Prop where
  sts : StsR w B lv vs ks (gs ++ [es] ++ List.replicate (ks.length - (k + 1)) [])
  all : OwnI w B av L
  lk : k < ks.length
  le : ks.length ≤ 256
  ok : KOk G ks
  lg : gs.length = k
  ln : es.length ≤ s
  go : colI G = match edgesGo G L ((symsI G).drop s) ks es with
    | none => none
    | some (ks', es') => colGo G (257 - (k + 1)) (k + 1) ks' (gs ++ [es'])
theorem colR_none {G : Gram} {w : World} {B k : Nat} {lv : Value} {vs : List (Value × Value)} {ks : List (List It)} {gs : List (List (Int × Int))} (h : ColR G w B k lv vs ks gs) (hk : ¬ k < ks.length) : colI G = some (ks, gs) ∧ StsR w B lv vs ks gs := by
  obtain ⟨h1, h2, h3, h4, h5, h6⟩ := h
  have : k = ks.length := by omega
  subst this
  rw [Nat.sub_self, List.replicate_zero, List.append_nil] at h1
  refine ⟨?_, h1⟩
  rw [← h6, show 257 - ks.length = (256 - ks.length) + 1 by omega]
  unfold colGo
  rw [List.getElem?_eq_none (Nat.le_refl _)]
theorem colR_start {G : Gram} {w w' : World} {B k : Nat} {lv av : Value} {vs : List (Value × Value)} {ks : List (List It)} {gs : List (List (Int × Int))} {L : List It} (h : ColR G w B k lv vs ks gs) (hk : k < ks.length) (hF : Fr nothing w w') (hL : L = cloL G ks[k]) (ha : OwnI w' B av L) : InR G L w' B k av gs 0 lv vs ks [] := by
  have h4 := h.le
  have hm := h.sts.fr hF
  refine ⟨?_, ha, hk, h4, h.ok, h.lg, Nat.le_refl _, ?_⟩
  · rw [rep_succ (show ks.length - k = (ks.length - (k + 1)) + 1 by omega)] at hm
    simpa using hm
  · rw [← h.go, show 257 - k = (257 - (k + 1)) + 1 by omega, List.drop_zero, hL]
    conv => lhs; unfold colGo
    rw [List.getElem?_eq_getElem hk]
    rfl
theorem inR_end {G : Gram} {L : List It} {w : World} {B k s : Nat} {av lv : Value} {gs : List (List (Int × Int))} {vs : List (Value × Value)} {ks : List (List It)} {es : List (Int × Int)} (h : InR G L w B k av gs s lv vs ks es) (hs : G.syms.length ≤ s) : ColR G w B (k + 1) lv vs ks (gs ++ [es]) := by
  have h1 := h.go
  rw [List.drop_eq_nil_of_le (by rw [symsI, List.length_map, List.length_range]; exact hs)] at h1
  exact ⟨h.sts, by simp [h.lg], h.lk, h.le, h.ok, h1.symm⟩
theorem symsI_drop' {G : Gram} {s : Nat} (hs : s < G.syms.length) : (symsI G).drop s = (s : Int) :: (symsI G).drop (s + 1) := by
  rw [List.drop_eq_getElem_cons (by rw [symsI, List.length_map, List.length_range]; exact hs)]
  simp [symsI]
theorem inR_skip {G : Gram} {L : List It} {w w' : World} {B k s : Nat} {av lv : Value} {gs : List (List (Int × Int))} {vs : List (Value × Value)} {ks : List (List It)} {es : List (Int × Int)} (h : InR G L w B k av gs s lv vs ks es) (hs : s < G.syms.length) (hF : Fr nothing w w') (ho : onI G L (s : Int) = []) : InR G L w' B k av gs (s + 1) lv vs ks es := by
  refine ⟨h.sts.fr hF, own_fr h.all hF fun _ _ => id, h.lk, h.le, h.ok, h.lg, by have := h.ln; omega, ?_⟩
  have h1 := h.go
  rw [symsI_drop' hs] at h1
  unfold edgesGo at h1
  rwa [if_pos ho] at h1
theorem inR_many {G : Gram} {L : List It} {w : World} {B k s : Nat} {av lv : Value} {gs : List (List (Int × Int))} {vs : List (Value × Value)} {ks : List (List It)} {es : List (Int × Int)} (h : InR G L w B k av gs s lv vs ks es) (hs : s < G.syms.length) (ho : onI G L (s : Int) ≠ []) (hp : putK ks (onI G L (s : Int)) = none) : colI G = none := by
  rw [h.go, symsI_drop' hs]
  unfold edgesGo
  rw [if_neg ho, hp]
theorem putK_old {ks : List (List It)} {M : List It} {t : Nat} (ht : t < ks.length) (hM : ks[t] = M) (hn : ∀ j (h : j < ks.length), j < t → ks[j] ≠ M) : putK ks M = some (t, ks) := by
  have : ks.findIdx? (fun x => decide (x = M)) = some t := List.findIdx?_eq_some_iff_getElem.2 ⟨ht, decide_eq_true hM, fun j hj => by simpa using hn j (by omega) hj⟩
  unfold putK
  rw [this]
theorem putK_no {ks : List (List It)} {M : List It} (hn : ∀ j (h : j < ks.length), ks[j] ≠ M) : putK ks M = if ks.length = 256 then none else some (ks.length, ks ++ [M]) := by
  have : ks.findIdx? (fun x => decide (x = M)) = none := List.findIdx?_eq_none_iff.2 fun x hx => by
    obtain ⟨i, hi, rfl⟩ := List.getElem_of_mem hx
    simpa using hn i hi
  unfold putK
  rw [this]
/-- An edge behind state k's, the state it leads to laid or not: what is reckoned. -/
theorem inR_go {G : Gram} {L : List It} {w : World} {B k s c : Nat} {av lv : Value} {gs : List (List (Int × Int))} {vs : List (Value × Value)} {ks ks1 : List (List It)} {es : List (Int × Int)} (h : InR G L w B k av gs s lv vs ks es) (hs : s < G.syms.length) (ho : onI G L (s : Int) ≠ []) (hp : putK ks (onI G L (s : Int)) = some (c, ks1)) :
    colI G = match edgesGo G L ((symsI G).drop (s + 1)) ks1 (es ++ [((s : Int), (c : Int))]) with
    | none => none
    | some (ks', es') => colGo G (257 - (k + 1)) (k + 1) ks' (gs ++ [es']) := by
  have h1 := h.go
  rw [symsI_drop' hs] at h1
  unfold edgesGo at h1
  rw [if_neg ho, hp] at h1
  exact h1
/-- The same in memory: w5, the state laid; w4, w6: the edge. -/
theorem inR_edge {G : Gram} {L : List It} {w5 w0 w4 w6 : World} {B k s c lb n cp g cap : Nat} {av : Value} {gs : List (List (Int × Int))} {vs5 : List (Value × Value)} {ks1 : List (List It)} {es : List (Int × Int)}
    (hst : StsR w5 B (.slice (some ⟨lb, 0, none⟩) n cp) vs5 ks1 (gs ++ [es] ++ List.replicate (ks1.length - (k + 1)) [])) (hall : OwnI w5 B av L) (hlg : gs.length = k) (hln : es.length ≤ s)
    (hk1 : k < vs5.length) (hle1 : ks1.length ≤ 256) (hok1 : KOk G ks1) (hn : vs5.length = n) (k0 : Fr nothing w5 w0)
    (hown : w4.ownsRow B 44 2 (.slice (some ⟨g, 0, none⟩) (es.length + 1) cap) (es.length + 1) (es.flatMap encI ++ [.int .i64 (s : Int), .int .i64 (c : Int)])) (hgrow : w0.grownBy w4 vs5[k].2.ownBlock) (hat : vs5[k].2.ownBlock = some g ∨ w5.heap.size ≤ g)
    (h6 : w6 = w4.setCell ⟨lb, k * 2 + 1, none⟩ (.slice (some ⟨g, 0, none⟩) (es.length + 1) cap))
    (hgo : colI G = match edgesGo G L ((symsI G).drop (s + 1)) ks1 (es ++ [((s : Int), (c : Int))]) with
    | none => none
    | some (ks', es') => colGo G (257 - (k + 1)) (k + 1) ks' (gs ++ [es'])) :
    InR G L w6 B k av gs (s + 1) (.slice (some ⟨lb, 0, none⟩) n cp) (vs5.set k (vs5[k].1, .slice (some ⟨g, 0, none⟩) (es.length + 1) cap)) ks1 (es ++ [((s : Int), (c : Int))]) ∧ Fr (from_ B) w5 w6 := by
  have hE := mid_get hlg es (List.replicate (ks1.length - (k + 1)) [])
  obtain ⟨e1, e2⟩ := hst.edge (x := (s : Int)) (t := (c : Int)) (g := g) (cap := cap) (w0 := w0) (w4 := w4) hn hk1 k0 (by rw [hE]; exact hown) hgrow hat
  rw [hE, mid_set hlg] at e1
  rw [hE] at e2
  rw [← h6] at e1 e2
  obtain ⟨hbl, csl, hlb⟩ := ownObj hst.own lb rfl
  have hgo' := ownObj (hst.edg k hk1)
  refine ⟨⟨e1, own_fr hall e2 fun q hq hc => ?_, by rw [hst.lk]; exact hk1, hle1, hok1, hlg, by simp; omega, hgo⟩, e2.mono fun q _ hc => ?_⟩
  · obtain ⟨_, cs, hcs⟩ := ownObj hall q hq
    rcases hc with rfl | hc
    · rw [hlb] at hcs
      simp only [Option.some.injEq, Obj.cells.injEq] at hcs
      exact absurd hcs.2.1 (by decide)
    · obtain ⟨_, cs', hcs'⟩ := hgo' q hc
      rw [hcs'] at hcs
      simp only [Option.some.injEq, Obj.cells.injEq] at hcs
      exact absurd hcs.2.1 (by decide)
  · show B ≤ q
    rcases hc with rfl | hc
    · exact hbl
    · exact (hgo' q hc).1
end Go.Proofs.Ytgmkpncpcikecaa
namespace Go.Proofs.Ytgmkpncpcikecaa
open Go.RowKit Go.MapKept Go.ChangeMaps
set_option maxHeartbeats 400000

/-- What the document's Collection tells. -/
def Col19P (G : Gram) (w : World) (e : Ending) (w' : World) : Prop := Below w.heap.size w w' ∧
  if rightG G = false then e = .returned (.tuple #[.slice none 0 0, .int .i64 2]) else match colI G with
  | some (ks, gs) => ∃ B lv vs, e = .returned (.tuple #[lv, .int .i64 0]) ∧ StsR w' B lv vs ks gs ∧ w.heap.size ≤ B
  | none => e = .returned (.tuple #[.slice none 0 0, .int .i64 104])

set_option maxRecDepth 100000 in
set_option maxHeartbeats 8000000 in
theorem col19_any (G : Gram) (v : Value) (w : World) (h : IsGram w v G) :
    Calls Try.prog 8 #[v] w (Col19P G w) := by
  have hG := h
  obtain ⟨hterms, vs, vp, rfl, hs, hp⟩ := h
  obtain ⟨-, sa, sc, rfl, -, -, -⟩ := id hs
  obtain ⟨-, pa, pc, rfl, -, -, -⟩ := id hp
  have hS0 : Stands w.heap.size w G sa pa sc pc (w.alloc (grO G sa pa sc pc)) := ⟨alloc_obj _ _, hG.fr (Fr.alloc _ _), (Below.refl _ w).alloc (Nat.le_refl _) _⟩
  have HS0 := Lib.hid hS0
  clear hS0 hs hp hG
  obtain ⟨i0, hi, hz0, hz1, hz2⟩ := info_parts Try.infoEdge
  obtain ⟨j0, hj, hy0, hy1, hy2⟩ := info_parts Try.infoState
  go_enter Try.func8, Try.ntmps8
  go_upto_region 1 with fail
  unfold grO at HS0
  generalize hw1 : w.alloc (Obj.cells #[.int .i64 G.terms, .slice sa G.syms.length sc, .slice pa G.prods.length pc] 25 (0, 0)) = W1 at *
  clear hw1
  have HRT := Lib.hid (right14_gram G _ W1 HS0.out.gram)
  unfold grV at HRT
  have d0 := HS0.out.d0
  have d1 := HS0.out.d1
  have d2 := HS0.out.d2
  cases hr : rightG G with
  | false =>
    rw [hr] at HRT
    have HR := Lib.hid hr
    clear hr
    go_wp2_with (go_at_call 23; refine HRT.out.mono ?_; rintro e w2 ⟨rfl, hb2⟩)
    go_ret2
    exact ⟨(HS0.out.keep hb2).below, by rw [if_pos HR.out]; rfl⟩
  | true =>
    rw [hr] at HRT
    have HR := Lib.hid hr
    have hpl := right_short hr
    have hpp := (rightG_parts hr).1
    clear hr
    go_upto_region 3 with (go_at_call 23; refine HRT.out.mono ?_; rintro e w2 ⟨rfl, hb2⟩)
    have hS2 := HS0.out.keep hb2
    clear d0 d1 d2 hb2 HRT HS0
    have HS2 := Lib.hid hS2
    clear hS2
    go_upto_region 4 with fail
    refine wp_at (F := fun W => StsR W w2.heap.size (.slice (some ⟨w2.heap.size + 1, 0, none⟩) 1 1) [(.slice (some ⟨w2.heap.size, 0, none⟩) 1 1, .slice none 0 0)] [[(0, 0)]] [[]] ∧ Below w2.heap.size w2 W) ⟨?_, ?_⟩ ?_
    · refine ⟨own_laid0 (n := 1) (alloc_at (by simp)) (by omega) rfl (by unfold maxLen; omega), rfl, rfl, fun k hk x hx => ?_, fun i hi => ?_, fun i hi => ?_, fun i j hi hj g hne hg => ?_⟩
      · rw [List.mem_singleton.1 hk] at hx
        rw [List.mem_singleton.1 hx]
        exact ⟨(small_iff _).2 (by omega), (small_iff _).2 (by omega)⟩
      · obtain rfl : i = 0 := by simpa using hi
        exact own_laid0 (n := 1) (alloc_older (alloc_obj _ _)) (Nat.le_refl _) rfl (by unfold maxLen; omega)
      · obtain rfl : i = 0 := by simpa using hi
        exact World.ownsRow_nil _ _ _ _
      · simp at hi hj
        omega
    · exact ((Below.refl _ w2).alloc (Nat.le_refl _) _).alloc (by simp) _
    intro W3 ⟨hst3, hb3⟩
    have hin0 : InI G (0, 0) := ⟨Int.le_refl _, by show (0 : Int) < _; omega, Int.le_refl _, by show (0 : Int) ≤ _; omega⟩
    have hc3 : ColR G W3 w2.heap.size 0 (.slice (some ⟨w2.heap.size + 1, 0, none⟩) 1 1) [(.slice (some ⟨w2.heap.size, 0, none⟩) 1 1, .slice none 0 0)] [[(0, 0)]] [] := ⟨hst3, rfl, Nat.zero_le _, by simp, fun j hj => by
      obtain rfl : j = 0 := by simpa using hj
      exact ⟨by simp, fun x hx => by rw [List.mem_singleton.1 hx]; exact hin0⟩, rfl⟩
    have H3 := Lib.hid (And.intro hc3 hb3)
    clear hst3 hb3 hin0 hc3
    generalize hBe : w2.heap.size = B at *
    have HB := Lib.hid hBe
    clear hBe
    go_wp2
    go_loopw [4, 5, 6, 7, 8, 9] (fun u i _ _ _ _ wr => ∃ (k : Nat) (lv : Value) (vs : List (Value × Value)) (ks : List (List It)) (gs : List (List (Int × Int))), lv = u ∧ i = .int .i64 k ∧ ColR G wr B k lv vs ks gs ∧ Below B w2 wr) (fun _ i _ _ _ _ _ => 256 - (intOf i).toNat)
    case atStart => exact ⟨0, _, _, _, _, rfl, rfl, H3.out.1, H3.out.2⟩
    case round =>
      obtain ⟨k, lv, vs, ks, gs, rfl, rfl, hcm, hbw⟩ := hrel
      have hS := HS2.out.keep (show Below w2.heap.size w2 wr from by rw [HB.out]; exact hbw)
      have hvl : vs.length = ks.length := hcm.sts.lk.symm
      have hkn := hcm.lk
      have hn := hcm.le
      by_cases hlt : k < ks.length
      · have hk' : k < vs.length := by omega
        obtain ⟨lb, lc, rfl, hlbB, hcell, -⟩ := hcm.sts.cells (by omega)
        have hK := hcm.ok k hlt
        have hker := hcm.sts.ker k hk'
        rw [List.getD_eq_getElem?_getD, List.getElem?_eq_getElem hlt, Option.getD_some] at hker
        have e0 := (hcell k hk').1
        have hki := hker.items (fun x hx => smallI_i64 (inI_small HR.out (hK.2 x hx))) (by have := hK.1; omega)
        have HOF := Lib.hid (of19_any G (grV G sa pa sc pc) vs[k].1 ks[k] wr.drew (hS.gram.fr (Fr.drew _)) HR.out (hki.fr (Fr.drew _)) hK.2 (by have := hK.1; omega))
        unfold grV at HOF
        have hS0' : wr.drew.cell? ⟨w.heap.size, 0, none⟩ = some (.int .i64 G.terms) ∧ wr.drew.cell? ⟨w.heap.size, 1, none⟩ = some (.slice sa G.syms.length sc) ∧ wr.drew.cell? ⟨w.heap.size, 2, none⟩ = some (.slice pa G.prods.length pc) ∧ wr.drew.cell? ⟨lb, k * 2, none⟩ = some vs[k].1 := ⟨hS.d0, hS.d1, hS.d2, e0⟩
        have hLi : ∀ x ∈ cloL G ks[k], InI G x := fun x hx => inClo_in hK.2 (cloL_mem.1 hx)
        have hLl : (cloL G ks[k]).length ≤ 40000 := by
          have h1 := cloL_len G ks[k]
          have h2 := hK.1
          omega
        have hstart := fun (w' : World) (av : Value) (L : List It) (hF : Fr nothing wr w') (hL : L = cloL G ks[k]) (ha : OwnI w' B av L) => colR_start hcm hlt hF hL ha
        have HCM := Lib.hid (And.intro hstart (And.intro hK (And.intro hLi hLl)))
        have HBW := Lib.hid hbw
        have hBwr : B ≤ wr.heap.size := Nat.le_trans hlbB (Nat.le_of_lt (World.block_lt_of_cell? wr _ e0))
        clear hcm hbw hLi hLl hK hker hcell hki e0 hstart hS hlbB
        generalize hKv : vs[k].1 = kv at *
        clear hKv hk'
        generalize hnv : vs.length = nv at *
        have HNV := Lib.hid hnv
        clear hnv hkn
        generalize hLe : cloL G ks[k] = L at *
        have HLE := Lib.hid hLe
        clear hLe
        have ht : decide ((k : Int) < (nv : Int)) = true := decide_eq_true (by omega)
        have hkv : k < nv := by omega
        have hnv6 : nv ≤ 256 := by omega
        have HVL := Lib.hid hvl
        clear hvl
        go_upto_region 7 with fail
        refine wp_region_anyT (fun j W => j < 6 → W.cell? ⟨w.heap.size, 0, none⟩ = some (.int .i64 G.terms) ∧ W.cell? ⟨w.heap.size, 1, none⟩ = some (.slice sa G.syms.length sc) ∧ W.cell? ⟨w.heap.size, 2, none⟩ = some (.slice pa G.prods.length pc) ∧ W.cell? ⟨lb, k * 2, none⟩ = some kv) (by kernel_rfl) ?_
        refine anyT_take (R := _) (i := 0) (v := ?_) (fun j => decide (j < 6)) (fun j w h k => k (of_decide_eq_true h)) (fun w h _ => h) rfl (by kernel_rfl) (fun _ _ _ h => h) _ _ _ _ (by kernel_rfl) (by kernel_rfl) (by kernel_rfl) (by kernel_rfl) (Or.inl ⟨by rfl, ?_⟩) (by assumption) ?_
        rotate_left
        · (intro w hSw; (try dsimp only at hSw); go_simp)
          try with_reducible rfl
        refine anyT_take (R := _) (i := 1) (v := ?_) (fun j => decide (j < 6)) (fun j w h k => k (of_decide_eq_true h)) (fun w h _ => h) rfl (by kernel_rfl) (fun _ _ _ h => h) _ _ _ _ (by kernel_rfl) (by kernel_rfl) (by kernel_rfl) (by kernel_rfl) (Or.inl ⟨by rfl, ?_⟩) (by assumption) ?_
        rotate_left
        · (intro w hSw; (try dsimp only at hSw); go_simp)
          try with_reducible rfl
        refine anyT_take (R := _) (i := 2) (v := ?_) (fun j => decide (j < 6)) (fun j w h k => k (of_decide_eq_true h)) (fun w h _ => h) rfl (by kernel_rfl) (fun _ _ _ h => h) _ _ _ _ (by kernel_rfl) (by kernel_rfl) (by kernel_rfl) (by kernel_rfl) (Or.inl ⟨by rfl, ?_⟩) (by assumption) ?_
        rotate_left
        · (intro w hSw; (try dsimp only at hSw); go_simp)
          try with_reducible rfl
        refine anyT_take (R := _) (i := 3) (v := ?_) (fun j => decide (j < 6)) (fun j w h k => k (of_decide_eq_true h)) (fun w h _ => h) rfl (by kernel_rfl) (fun _ _ _ h => h) _ _ _ _ (by kernel_rfl) (by kernel_rfl) (by kernel_rfl) (by kernel_rfl) (Or.inl ⟨by rfl, ?_⟩) (by assumption) ?_
        rotate_left
        · (intro w hSw; (try dsimp only at hSw); go_simp)
          try with_reducible rfl
        refine anyT_take (R := _) (i := 4) (v := ?_) (fun j => decide (j < 6)) (fun j w h k => k (of_decide_eq_true h)) (fun w h _ => h) rfl (by kernel_rfl) (fun _ _ _ h => h) _ _ _ _ (by kernel_rfl) (by kernel_rfl) (by kernel_rfl) (by kernel_rfl) (Or.inl ⟨by rfl, ?_⟩) (by assumption) ?_
        rotate_left
        · (intro w hSw; (try dsimp only at hSw); go_simp)
          try with_reducible rfl
        refine anyT_take (R := _) (i := 5) (v := ?_) (fun j => decide (j < 6)) (fun j w h k => k (of_decide_eq_true h)) (fun w h _ => h) rfl (by kernel_rfl) (fun _ _ _ h => h) _ _ _ _ (by kernel_rfl) (by kernel_rfl) (by kernel_rfl) (by kernel_rfl) (Or.inl ⟨by rfl, ?_⟩) (by assumption) ?_
        rotate_left
        · (intro w hSw; (try dsimp only at hSw); go_simp)
          try with_reducible rfl
        refine anyT_ready (rs := [6]) (by kernel_rfl) (by simp) ?_
        intro j hj
        obtain rfl := List.mem_singleton.1 hj
        clear hj
        refine wpOp_plain rfl rfl ?_
        go_simp
        refine HOF.out.mono ?_
        rintro e w7 ⟨u, rfl, hu7, ho7, hb7⟩
        dsimp only
        refine anyT_ready (rs := [7]) (by kernel_rfl) (by simp) ?_
        intro j hj
        obtain rfl := List.mem_singleton.1 hj
        clear hj
        refine wpOp_plain rfl rfl ?_
        go_simp
        refine anyT_done (by kernel_rfl) ?_ _
        have k7 : Fr nothing wr w7 := (Fr.drew wr).trans (Fr.new hb7)
        have hir := HCM.out.1 w7 u L k7 rfl (ho7.down hBwr)
        have hbin : Below B w2 w7 := HBW.out.trans (k7.below hBwr fun _ e => e.elim)
        have HIN := Lib.hid (And.intro hir hbin)
        obtain ⟨ua, uc, rfl, -, -, -⟩ := id hu7.parts
        have hcond : ∀ x ∈ L, InI G x := HCM.out.2.2.1
        have HLI := Lib.hid hcond
        have HLL := Lib.hid HCM.out.2.2.2
        clear hir hbin hu7 ho7 hb7 k7 HOF hS0' hBwr hcond
        generalize hll : L.length = nl at *
        have HNL := Lib.hid hll
        clear hll
        have hns : G.syms.length ≤ 1000 := by omega
        have hnl4 : nl ≤ 40000 := HLL.out
        go_wp2
        go_loopw [4, 7, 8, 9] (fun u s _ _ wr => ∃ (s' : Nat) (lv : Value) (vs : List (Value × Value)) (ks' : List (List It)) (es : List (Int × Int)), lv = u ∧ s = .int .i64 s' ∧ s' ≤ G.syms.length ∧ InR G L wr B k (.slice ua nl uc) gs s' lv vs ks' es ∧ Below B w2 wr) (fun _ s _ _ _ => G.syms.length - (intOf s).toNat)
        case atStart => exact ⟨0, _, _, _, _, rfl, rfl, Nat.zero_le _, HIN.out.1, HIN.out.2⟩
        case round =>
          obtain ⟨s, lv, vs', ks', es, rfl, rfl, hsn, him, hbw⟩ := hrel
          have hS := HS2.out.keep (show Below w2.heap.size w2 wr from by rw [HB.out]; exact hbw)
          have d1 := hS.d1
          by_cases hls : s < G.syms.length
          · have d0 := hS.d0
            have d2 := hS.d2
            have HON := Lib.hid (on19_any G (grV G sa pa sc pc) (.slice ua nl uc) L (s : Int) wr hS.gram HR.out (by have := OwnI.items him.all (fun x hx => smallI_i64 (inI_small HR.out (HLI.out x hx))) (by rw [HNL.out]; omega); exact this) HLI.out (by rw [HNL.out]; omega) (by omega))
            unfold grV at HON
            have hMs : ∀ x ∈ onI G L (s : Int), smallI x := fun x hx => inI_small HR.out (onI_in HLI.out (s : Int) x hx)
            have hMl : (onI G L (s : Int)).length ≤ 40000 := by have := onI_len G L (s : Int); rw [HNL.out] at this; omega
            have hskip := fun w' (hF : Fr nothing wr w') ho => inR_skip him hls hF ho
            have hmany := inR_many him hls
            have hgo := fun c ks1 ho hp => inR_go (c := c) (ks1 := ks1) him hls ho hp
            have HIM := Lib.hid (And.intro him hbw)
            have HG := Lib.hid (And.intro hskip (And.intro hmany hgo))
            have HMS := Lib.hid (And.intro hMs hMl)
            clear him hbw hskip hmany hgo hMs hMl hS
            generalize hMe : onI G L (s : Int) = M at *
            have HME := Lib.hid hMe
            clear hMe
            go_upto_region 12 with (go_at_call 25; refine HON.out.mono ?_; rintro e w8 ⟨u8, rfl, hu8, hb8⟩)
            obtain ⟨qa, qc, rfl, -, -, -⟩ := own_as_cells2 hu8
            by_cases hM0 : M = []
            · have hI := HG.out.1 w8 (Fr.new hb8) hM0
              have hbs : B ≤ wr.heap.size := by have := HIM.out.2.size; rw [HB.out] at this; exact this
              have HE := Lib.hid (And.intro hI (HIM.out.2.trans (hb8.mono hbs)))
              subst hM0
              simp only [List.length_nil]
              clear hI hu8 hb8 d0 d1 d2 HON
              go_wp2
              go_roundw
              case rel => exact ⟨s + 1, _, _, _, _, rfl, by simp, by omega, HE.out.1, HE.out.2⟩
              case measure => simp [intOf]; omega
            · have hml0 : M.length ≠ 0 := fun e => hM0 (List.eq_nil_of_length_eq_zero e)
              have him8 := HIM.out.1
              have hkv : k < vs'.length := by rw [← him8.sts.lk]; exact him8.lk
              have hvl : vs'.length = ks'.length := him8.sts.lk.symm
              have hst8 := him8.sts.fr (Fr.new hb8)
              have hall8 := own_fr him8.all (Fr.new hb8) fun _ _ => id
              obtain ⟨lb2, lc2, rfl, hlbB, hcell8, -⟩ := hst8.cells (by omega)
              have hbs : B ≤ wr.heap.size := by have := HIM.out.2.size; rw [HB.out] at this; exact this
              have hB8 : B ≤ w8.heap.size := Nat.le_trans hbs hb8.size
              have hbw8 := HIM.out.2.trans (hb8.mono hbs)
              have hu8i : IsItems w8 (.slice qa M.length qc) M := OwnI.items hu8 (fun x hx => smallI_i64 (HMS.out.1 x hx)) (by have := HMS.out.2; omega)
              have hkvs := fun j (hj : j < vs'.length) => hst8.ker j hj
              have hsm := him8.sts.small
              have HS8 := Lib.hid (And.intro hst8 (And.intro hall8 (And.intro hbw8 (And.intro hu8i hsm))))
              have HLG := Lib.hid (And.intro him8.lg him8.ln)
              have HOK := Lib.hid (And.intro him8.ok (And.intro him8.le him8.lk))
              have hmany := fun hp => HG.out.2.1 hM0 hp
              have hgo := fun c ks1 hp => HG.out.2.2 c ks1 hM0 hp
              have HG2 := Lib.hid (And.intro hmany hgo)
              have HU8 := Lib.hid (hu8.down hbs)
              have hn256 : vs'.length ≤ 256 := by rw [hvl]; exact him8.le
              have HCL := Lib.hid hcell8
              have HKS := Lib.hid hkvs
              clear him8 hst8 hall8 hcell8 hbw8 hu8i hkvs hsm hmany hgo HG d0 d1 d2 HON hu8 hb8 hbs
              generalize hmn : M.length = mn at *
              have HMN := Lib.hid hmn
              clear hmn
              obtain ⟨n2, hn2⟩ : ∃ n, vs'.length = n := ⟨_, rfl⟩
              rw [hn2] at hvl hn256 HS8 ⊢
              have HN2 := Lib.hid (And.intro hn2 hvl)
              have hkn2 : k < n2 := by rw [← hn2]; exact hkv
              clear hn2 hvl
              have t1 : ((mn : Int) == 0) = false := beq_eq_false_iff_ne.2 (by omega)
              generalize w8 = WA at *
              go_wp2
              go_loopw [9] (fun t wq => ∃ t' : Nat, t = .int .i64 t' ∧ t' ≤ n2 ∧ (∀ j (h : j < ks'.length), j < t' → ks'[j] ≠ M) ∧ Fr nothing WA wq) (fun t _ => n2 - (intOf t).toNat)
              case atStart => exact ⟨0, rfl, Nat.zero_le _, fun j _ h => absurd h (by omega), Fr.refl _ _⟩
              case round =>
                obtain ⟨t, rfl, htn, hno, hkA⟩ := hrel
                by_cases hlt2 : t < n2
                · have htv : t < vs'.length := by rw [HN2.out.1]; exact hlt2
                  have htk : t < ks'.length := by rw [← HN2.out.2]; exact hlt2
                  have c0 := hkA.cell (HCL.out t htv).1 id
                  have hker := HKS.out t htv
                  rw [List.getD_eq_getElem?_getD, List.getElem?_eq_getElem htk, Option.getD_some] at hker
                  have hki := IsItems.fr (OwnI.items hker (fun x hx => smallI_i64 (HS8.out.2.2.2.2 _ (List.getElem_mem htk) x hx)) (by have := (HOK.out.1 t htk).1; omega)) hkA
                  have HSI := Lib.hid ((sameItems_any vs'[t].1 _ ks'[t] M wr hki (HS8.out.2.2.2.1.fr hkA)).mono fun e w' (hh : e = .returned (.bool (decide (ks'[t] = M))) ∧ ∃ n, w' = wr.drewN n) => show e = .returned (.bool (decide (ks'[t] = M))) ∧ Fr nothing wr w' from ⟨hh.1, by obtain ⟨n, rfl⟩ := hh.2; exact Fr.drewN _ _⟩)
                  have HT := Lib.hid (And.intro htk (And.intro hno hkA))
                  clear hker hki hno hkA
                  generalize hTV : vs'[t].1 = tv at *
                  clear hTV htv
                  have htt : decide (t < n2) = true := decide_eq_true hlt2
                  by_cases hsame : ks'[t] = M
                  · rw [decide_eq_true hsame] at HSI
                    have hp := putK_old htk hsame HT.out.2.1
                    have HP := Lib.hid hp
                    clear hp htk hsame
                    go_upto_region 16 with (go_at_call 13; refine HSI.out.mono ?_; rintro e w9 ⟨rfl, hk9⟩)
                    have kW := HT.out.2.2.trans hk9
                    have hst := HS8.out.1.fr kW
                    have hall := own_fr HS8.out.2.1 kW fun _ _ => id
                    have hgoc := HG2.out.2 t ks' HP.out
                    have hok1 := HOK.out.1
                    have hle1 := HOK.out.2.1
                    have hcell := fun i (hi : i < vs'.length) => And.intro (kW.cell (HCL.out i hi).1 id) (kW.cell (HCL.out i hi).2 id)
                    have hnv5 := HN2.out.1
                    have hBw5 : B ≤ w9.heap.size := Nat.le_trans hB8 kW.size
                    have hbW5 : Below B w2 w9 := HS8.out.2.2.1.trans (kW.below hB8 fun _ e => e.elim)
                    have q1 : ((t : Int) == 256) = false := beq_eq_false_iff_ne.2 (by omega)
                    have q2 : ((t : Int) == (n2 : Int)) = false := beq_eq_false_iff_ne.2 (by omega)
                    clear c0 HSI kW
                    generalize w9 = W5 at *
                    obtain ⟨_, csl, hlbo⟩ := ownObj hst.own lb2 rfl
                    have e1 := (hcell k hkv).2
                    have hgE := hst.edg k hkv
                    rw [mid_get HLG.out.1] at hgE
                    obtain ⟨ga, gc, hgl, -, -, -⟩ := own_as_cells2 hgE
                    rw [hgl] at hgE e1
                    have HGL := Lib.hid hgl
                    have hga := hgE.alloc (Obj.cells #[.int .i64 (s : Int), .int .i64 (t : Int)] 44 (0, 0))
                    have hna := two_news (alloc_obj W5 (Obj.cells #[.int .i64 (s : Int), .int .i64 (t : Int)] 44 (0, 0)))
                    have hBa : B ≤ (W5.alloc (Obj.cells #[.int .i64 (s : Int), .int .i64 (t : Int)] 44 (0, 0))).heap.size := by have := hBw5; simp; omega
                    have hob := ownObj hgE
                    have hnotE : (Value.slice ga es.length gc).ownBlock ≠ some lb2 := fun e => by
                      obtain ⟨_, cs, hc⟩ := hob _ e
                      rw [hlbo] at hc
                      simp only [Option.some.injEq, Obj.cells.injEq] at hc
                      exact absurd hc.2.1 (by decide)
                    have HE5 := Lib.hid (And.intro hst (And.intro hall (And.intro hgoc (And.intro hok1 (And.intro hle1 (And.intro hkv (And.intro hnv5 hbW5)))))))
                    have HNE := Lib.hid (And.intro hnotE hlbo)
                    have hen : es.length ≤ 1000 := by have := HLG.out.2; omega
                    clear hst hall hgoc hok1 hle1 hcell hgE hgl hob hnotE hlbo hnv5 hbW5
                    generalize hene : es.length = en at *
                    have HEN := Lib.hid hene
                    clear hene
                    go_wp2_with (at_builtin; refine wpList_append_lies _ rfl _ _ 37 rfl B 44 i0 _ 2 16 Try.underlying37 hi hz0 hz1 hz2 rfl (by decide) (.slice ga en gc) _ _ rfl hga ⟨W5.heap.size, 0, none⟩ 1 1 [.int .i64 (s : Int), .int .i64 (t : Int)] rfl rfl hna (by simp [Value.oneCell']) (by omega) (by unfold maxLen; omega) (by omega) hBa _ rfl ?_
                                 intro g cap w4 hown4 hgrow4 hat4 hlt4
                                 have hf4 : Fr (fun g => (Value.slice ga en gc).ownBlock = some g) W5 w4 := (Fr.alloc _ _).trans (Fr.grown hgrow4)
                                 have x4 := hf4.cell e1 HNE.out.1
                                 have z4 : w4.frozen? ⟨lb2, k * 2 + 1, none⟩ = false := by simp [World.frozen?, hf4.obj HNE.out.2 HNE.out.1]
                                 have HF4 := Lib.hid hf4
                                 clear hf4)
                    go_roundw
                    case rel =>
                      obtain ⟨hst, hall, hgoc, hok1, hle1, hkv', hnv5, hbW5⟩ := HE5.out
                      obtain rfl := HEN.out
                      obtain ⟨hin6, hF6⟩ := inR_edge hst hall HLG.out.1 HLG.out.2 hkv' hle1 hok1 hnv5 (Fr.alloc W5 _) hown4 (by rw [HGL.out]; exact hgrow4) (by rw [HGL.out]; exact hat4.imp id fun e => by rw [e]; simp) rfl hgoc
                      exact ⟨s + 1, _, _, _, _, rfl, by simp, by omega, hin6, hbW5.trans (hF6.below (by have := hbW5.size; have := HB.out; omega) fun g e => e)⟩
                    case measure => simp [intOf]; omega
                  · rw [decide_eq_false hsame] at HSI
                    have hno' : ∀ j (h : j < ks'.length), j < t + 1 → ks'[j] ≠ M := fun j hj hjt => by
                      by_cases e : j = t
                      · subst e; exact hsame
                      · exact HT.out.2.1 j hj (by omega)
                    have HNO := Lib.hid hno'
                    clear hno' htk hsame
                    go_wp2_with (go_at_call 13; refine HSI.out.mono ?_; rintro e w9 ⟨rfl, hk9⟩)
                    go_roundw
                    case rel => exact ⟨t + 1, by simp, by omega, HNO.out, HT.out.2.2.trans hk9⟩
                    case measure => simp [intOf]; omega
                · obtain rfl : t = n2 := by omega
                  have hlen : ks'.length = t := HN2.out.2.symm
                  have hput := putK_no (ks := ks') (M := M) fun j hj => hno j hj (by omega)
                  rw [hlen] at hput
                  have kW := hkA
                  by_cases hfull : t = 256
                  · rw [if_pos hfull] at hput
                    have hci := HG2.out.1 hput
                    have HCI := Lib.hid hci
                    have hbe := HS2.out.below.trans (show Below w.heap.size w2 wr from ?_)
                    · subst hfull
                      have HBE := Lib.hid hbe
                      clear hput hci hlen hno hkA kW hbe hlt2
                      go_wp2
                      go_ret2
                      unfold Col19P
                      rw [if_neg (by rw [HR.out]; decide), HCI.out]
                      exact ⟨HBE.out, rfl⟩
                    · have h1 := HS8.out.2.2.1.trans (kW.below hB8 fun _ e => e.elim)
                      exact h1.mono (by rw [← HB.out]; exact HS2.out.below.size)
                  · rw [if_neg hfull] at hput
                    have hst := HS8.out.1.fr kW
                    have hgoc := HG2.out.2 t _ hput
                    have hall := own_fr HS8.out.2.1 kW fun _ _ => id
                    have hBw5 : B ≤ wr.heap.size := Nat.le_trans hB8 kW.size
                    have hbW5 : Below B w2 wr := HS8.out.2.2.1.trans (kW.below hB8 fun _ e => e.elim)
                    have hkv8 := own_fr HU8.out kW fun _ _ => id
                    have q1 : ((t : Int) == 256) = false := beq_eq_false_iff_ne.2 (by omega)
                    have hown5 := hst.own
                    rw [HN2.out.1] at hown5
                    have hown5 := hown5.alloc (Obj.cells #[.slice qa mn qc, .slice none 0 0] 39 (0, 0))
                    have hnb := two_news (alloc_obj wr (Obj.cells #[.slice qa mn qc, .slice none 0 0] 39 (0, 0)))
                    have hBb : B ≤ (wr.alloc (Obj.cells #[.slice qa mn qc, .slice none 0 0] 39 (0, 0))).heap.size := by simp; omega
                    have hmnl : mn ≤ 40000 := HMS.out.2
                    have H5 := Lib.hid (And.intro hst (And.intro hgoc (And.intro hall (And.intro hbW5 hkv8))))
                    have HW := Lib.hid hBw5
                    have HNOK := Lib.hid (fun j (hj : j < ks'.length) => hno j hj (by omega))
                    have HF := Lib.hid hfull
                    clear hput hst hgoc hall hbW5 hkv8 hno hkA kW hlt2 hlen hBw5
                    go_upto_region 20 with (at_builtin; refine wpList_append_lies _ rfl _ _ 27 rfl B 39 j0 _ 2 48 Try.underlying27 hj hy0 hy1 hy2 rfl (by decide) (.slice (some ⟨lb2, 0, none⟩) t lc2) _ _ rfl hown5 ⟨wr.heap.size, 0, none⟩ 1 1 [.slice qa mn qc, .slice none 0 0] rfl rfl hnb (by simp [Value.oneCell']) (by omega) (by unfold maxLen; omega) (by omega) hBb _ rfl ?_
                                            intro gS capS w9 hownS hgrowS hatS hltS)
                    have kS : Fr (fun g => (Value.slice (some ⟨lb2, 0, none⟩) t lc2).ownBlock = some g) wr w9 := (Fr.alloc _ _).trans (Fr.grown hgrowS)
                    have hst9 := H5.out.1.snoc (lv' := .slice (some ⟨gS, 0, none⟩) (t + 1) capS) (kv := .slice qa mn qc) (K := M) kS (by rw [HN2.out.1]; exact hownS) HMS.out.1 (by have := H5.out.2.2.2.2; unfold OwnI at this; rw [HMN.out] at this; unfold OwnI; rw [HMN.out]; exact this)
                    have hrep : gs ++ [es] ++ List.replicate (ks'.length - (k + 1)) [] ++ [[]] = gs ++ [es] ++ List.replicate ((ks' ++ [M]).length - (k + 1)) [] := by
                      have h1 := HOK.out.2.2
                      have e : (ks' ++ [M]).length - (k + 1) = (ks'.length - (k + 1)) + 1 := by simp; omega
                      rw [e, List.replicate_succ']
                      simp
                    rw [hrep] at hst9
                    have hst := hst9
                    have hall := H5.out.1.keepRow kS H5.out.2.2.1 (by decide)
                    have hgoc := H5.out.2.1
                    have hkt : k < ks'.length := HOK.out.2.2
                    have hok1 : KOk G (ks' ++ [M]) := by
                      have h1 := HCM.out.2.1
                      have h2 := putK_no (ks := ks') (M := M) (fun j hj => HNOK.out j hj)
                      rw [if_neg (by rw [← HN2.out.2]; exact HF.out)] at h2
                      have h3 : onI G (cloL G ks[k]) (s : Int) = M := by rw [HLE.out, HME.out]
                      rw [← h3] at h2 ⊢
                      exact KOk.put HR.out HOK.out.1 HOK.out.2.1 ks[k] hkt h1.1 h1.2 (s : Int) h2
                    have hle1 : (ks' ++ [M]).length ≤ 256 := by
                      have h1 := HF.out
                      rw [List.length_append, ← HN2.out.2]
                      simp
                      omega
                    have hnv5 : (vs' ++ [(Value.slice qa mn qc, Value.slice none 0 0)]).length = t + 1 := by simp [HN2.out.1]
                    have hkv : k < (vs' ++ [(Value.slice qa mn qc, Value.slice none 0 0)]).length := by rw [hnv5]; omega
                    obtain ⟨lb9, lc9, e9, -, hcell, -⟩ := hst.cells (by omega)
                    simp only [Value.slice.injEq, Option.some.injEq, Addr.mk.injEq, and_true] at e9
                    obtain ⟨rfl, -, rfl⟩ := e9
                    have hBw5 : B ≤ w9.heap.size := Nat.le_trans HW.out kS.size
                    have hbW5 : Below B w2 w9 := H5.out.2.2.2.1.trans (kS.below HW.out fun g e => (ownObj H5.out.1.own g e).1)
                    generalize vs' ++ [(Value.slice qa mn qc, Value.slice none 0 0)] = vs5 at *
                    generalize ks' ++ [M] = ks5 at *
                    clear hst9 hrep kS hownS hgrowS hatS hltS hown5 hnb hBb q1 H5 HW hkt
                    generalize w9 = W5 at *
                    obtain ⟨_, csl, hlbo⟩ := ownObj hst.own gS rfl
                    have e1 := (hcell k hkv).2
                    have hgE := hst.edg k hkv
                    rw [mid_get HLG.out.1] at hgE
                    obtain ⟨ga, gc, hgl, -, -, -⟩ := own_as_cells2 hgE
                    rw [hgl] at hgE e1
                    have HGL := Lib.hid hgl
                    have hga := hgE.alloc (Obj.cells #[.int .i64 (s : Int), .int .i64 (t : Int)] 44 (0, 0))
                    have hna := two_news (alloc_obj W5 (Obj.cells #[.int .i64 (s : Int), .int .i64 (t : Int)] 44 (0, 0)))
                    have hBa : B ≤ (W5.alloc (Obj.cells #[.int .i64 (s : Int), .int .i64 (t : Int)] 44 (0, 0))).heap.size := by have := hBw5; simp; omega
                    have hob := ownObj hgE
                    have hnotE : (Value.slice ga es.length gc).ownBlock ≠ some gS := fun e => by
                      obtain ⟨_, cs, hc⟩ := hob _ e
                      rw [hlbo] at hc
                      simp only [Option.some.injEq, Obj.cells.injEq] at hc
                      exact absurd hc.2.1 (by decide)
                    have HE5 := Lib.hid (And.intro hst (And.intro hall (And.intro hgoc (And.intro hok1 (And.intro hle1 (And.intro hkv (And.intro hnv5 hbW5)))))))
                    have HNE := Lib.hid (And.intro hnotE hlbo)
                    have hen : es.length ≤ 1000 := by have := HLG.out.2; omega
                    clear hst hall hgoc hok1 hle1 hcell hgE hgl hob hnotE hlbo hnv5 hbW5
                    generalize hene : es.length = en at *
                    have HEN := Lib.hid hene
                    clear hene
                    go_wp2_with (at_builtin; refine wpList_append_lies _ rfl _ _ 37 rfl B 44 i0 _ 2 16 Try.underlying37 hi hz0 hz1 hz2 rfl (by decide) (.slice ga en gc) _ _ rfl hga ⟨W5.heap.size, 0, none⟩ 1 1 [.int .i64 (s : Int), .int .i64 (t : Int)] rfl rfl hna (by simp [Value.oneCell']) (by omega) (by unfold maxLen; omega) (by omega) hBa _ rfl ?_
                                 intro g cap w4 hown4 hgrow4 hat4 hlt4
                                 have hf4 : Fr (fun g => (Value.slice ga en gc).ownBlock = some g) W5 w4 := (Fr.alloc _ _).trans (Fr.grown hgrow4)
                                 have x4 := hf4.cell e1 HNE.out.1
                                 have z4 : w4.frozen? ⟨gS, k * 2 + 1, none⟩ = false := by simp [World.frozen?, hf4.obj HNE.out.2 HNE.out.1]
                                 have HF4 := Lib.hid hf4
                                 clear hf4)
                    go_roundw
                    case rel =>
                      obtain ⟨hst, hall, hgoc, hok1, hle1, hkv', hnv5, hbW5⟩ := HE5.out
                      obtain rfl := HEN.out
                      obtain ⟨hin6, hF6⟩ := inR_edge hst hall HLG.out.1 HLG.out.2 hkv' hle1 hok1 hnv5 (Fr.alloc W5 _) hown4 (by rw [HGL.out]; exact hgrow4) (by rw [HGL.out]; exact hat4.imp id fun e => by rw [e]; simp) rfl hgoc
                      exact ⟨s + 1, _, _, _, _, rfl, by simp, by omega, hin6, hbW5.trans (hF6.below (by have := hbW5.size; have := HB.out; omega) fun g e => e)⟩
                    case measure => simp [intOf]; omega
          · obtain rfl : s = G.syms.length := by omega
            have hend := inR_end him (Nat.le_refl _)
            have hk256 : k < 256 := by have := him.lk; have := him.le; omega
            have HE := Lib.hid (And.intro hend hbw)
            clear hend hbw him hS hls
            go_wp2
            go_roundw
            case rel => exact ⟨k + 1, _, _, _, _, rfl, by simp, HE.out.1, HE.out.2⟩
            case measure => simp [intOf]; omega
      · obtain ⟨hci, hst⟩ := colR_none hcm hlt
        have hlt' : ¬ k < vs.length := by rw [hvl]; exact hlt
        obtain ⟨la, lc, rfl, -, -, -⟩ := own_as_cells2 hst.own
        have hsz := HS2.out.below.size
        have HE := Lib.hid (And.intro hci (And.intro hst hS.below))
        clear hcm hci hst hbw hS hlt
        generalize vs.length = nv at *
        go_wp2
        go_ret2
        unfold Col19P
        rw [if_neg (by rw [HR.out]; decide), HE.out.1]
        exact ⟨HE.out.2.2, B, _, _, rfl, HE.out.2.1, by rw [← HB.out]; exact hsz⟩
end Go.Proofs.Ytgmkpncpcikecaa
