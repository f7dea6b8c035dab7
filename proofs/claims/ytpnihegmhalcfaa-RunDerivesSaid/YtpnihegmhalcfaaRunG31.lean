/-
  Package table: Right of any table.
-/
import Derived.Test.YtpnihegmhalcfaaRunG30
import Derived.Test.YtpnihegmhalcfaaRunG14
namespace Go.Proofs.Ytpnihegmhalcfaa
open Go.RowKit
set_option maxHeartbeats 400000

theorem gotosB_any (n : Nat) (l : List Int) : gotosB n l = !(l.any (badGoto (n : Int))) := by
  unfold gotosB
  induction l with
  | nil => rfl
  | cons x r ih =>
    rw [List.all_cons, List.any_cons, ih, Bool.not_or]
    congr 2
    unfold badGoto
    by_cases h : x < -1
    · simp [h]
    · simp [h]
theorem rowB_gotos {G : Gram} {n : Nat} {a : List Ac} {g : List Int} (h : g.any (badGoto (n : Int)) = true) : rowB G n a g = false := by
  unfold rowB
  rw [gotosB_any, h]
  simp
theorem rowB_all2 {G : Gram} {n : Nat} {a : List Ac} {g : List Int} (h1 : (a.length : Int) = G.terms) (h2 : (g.length : Int) = (G.syms.length : Int) - G.terms) (h3 : ∀ j (hj : j < a.length), entryB G n (j : Int) a[j] = true) (h4 : g.any (badGoto (n : Int)) = false) : rowB G n a g = true := by
  unfold rowB
  rw [decide_eq_true h1, decide_eq_true h2, gotosB_any, h4, entsB_all a 0 fun k hk => by simpa using h3 k hk]
  rfl
theorem three_boxes (w : World) (o1 o2 o3 : Obj) : (((w.alloc o1).alloc o2).alloc o3).heap[w.heap.size]? = some o1 ∧ (((w.alloc o1).alloc o2).alloc o3).heap[w.heap.size + 1]? = some o2 ∧ (((w.alloc o1).alloc o2).alloc o3).heap[w.heap.size + 2]? = some o3 ∧ Below w.heap.size w (((w.alloc o1).alloc o2).alloc o3) := by
  have h := two_boxes w o1 o2
  have f := Fr.alloc (ch := nothing) ((w.alloc o1).alloc o2) o3
  have hs : ((w.alloc o1).alloc o2).heap.size = w.heap.size + 2 := by simp
  refine ⟨f.obj h.1 fun e => e, f.obj h.2.1 fun e => e, ?_, ((Fr.new h.2.2).trans f).below_new⟩
  have := alloc_obj ((w.alloc o1).alloc o2) o3
  rwa [hs] at this

set_option maxRecDepth 100000 in
set_option maxHeartbeats 4000000 in
theorem lookAct_full (G : Gram) (terms : Int) (vs : Value) (pa : Option Addr) (pc : Nat) (n : Nat) (t : Int) (x : Ac) (w : World) :
    Calls Try.prog 33 #[.agg #[.int .i64 terms, vs, .slice pa G.prods.length pc, .int .i64 (n : Int)], .int .i64 t, .agg #[.int .u8 x.kind, .int .i64 x.dst]] w fun e w' => e = .returned (.bool (entryB G n t x)) ∧ Below w.heap.size w w' := by
  obtain ⟨kind, dst⟩ := x
  have hx := two_boxes w (.cells #[.int .i64 terms, vs, .slice pa G.prods.length pc, .int .i64 (n : Int)] 75 (0, 0)) (.cells #[.int .u8 kind, .int .i64 dst] 81 (0, 0))
  obtain ⟨w1, hw1⟩ : ∃ w1, w1 = (w.alloc (.cells #[.int .i64 terms, vs, .slice pa G.prods.length pc, .int .i64 (n : Int)] 75 (0, 0))).alloc (.cells #[.int .u8 kind, .int .i64 dst] 81 (0, 0)) := ⟨_, rfl⟩
  rw [← hw1] at hx
  have x2 : w1.cell? ⟨w.heap.size, 2, none⟩ = some (.slice pa G.prods.length pc) := obj_cell hx.1 2 rfl
  have x3 : w1.cell? ⟨w.heap.size, 3, none⟩ = some (.int .i64 (n : Int)) := obj_cell hx.1 3 rfl
  have y0 : w1.cell? ⟨w.heap.size + 1, 0, none⟩ = some (.int .u8 kind) := obj_cell hx.2.1 0 rfl
  have y1 : w1.cell? ⟨w.heap.size + 1, 1, none⟩ = some (.int .i64 dst) := obj_cell hx.2.1 1 rfl
  have HB := Lib.hid hx.2.2
  have HW := Lib.hid hw1
  clear hx hw1
  unfold entryB
  generalize G.prods.length = np at *
  simp only
  by_cases k0 : kind = 0
  · subst k0
    rw [if_pos rfl]
    go_enter Try.func33, Try.ntmps33
    go_upto_region 1 with fail
    rw [← HW.out]
    go_wp2
    go_ret
    exact ⟨rfl, HB.out⟩
  have b0 : (kind == 0) = false := beq_eq_false_iff_ne.2 k0
  rw [if_neg k0]
  by_cases k3 : kind = 3
  · subst k3
    rw [if_pos rfl]
    clear k0
    go_enter Try.func33, Try.ntmps33
    go_upto_region 1 with fail
    rw [← HW.out]
    go_wp2
    go_ret
    exact ⟨rfl, HB.out⟩
  have b3 : (kind == 3) = false := beq_eq_false_iff_ne.2 k3
  rw [if_neg k3]
  by_cases k1 : kind = 1
  · subst k1
    rw [if_pos rfl]
    clear k0 k3
    by_cases h1 : 0 < t
    · have d1 : decide (0 < t) = true := decide_eq_true h1
      by_cases h2 : 0 ≤ dst
      · have d2 : decide (0 ≤ dst) = true := decide_eq_true h2
        rw [d1, d2, Bool.true_and, Bool.true_and]
        clear h1 h2
        go_enter Try.func33, Try.ntmps33
        go_upto_region 1 with fail
        rw [← HW.out]
        go_wp2
        go_ret
        exact ⟨rfl, HB.out⟩
      · have d2 : decide (0 ≤ dst) = false := decide_eq_false h2
        rw [d1, d2, Bool.true_and, Bool.false_and]
        clear h1 h2
        go_enter Try.func33, Try.ntmps33
        go_upto_region 1 with fail
        rw [← HW.out]
        go_wp2
        go_ret
        exact ⟨rfl, HB.out⟩
    · have d1 : decide (0 < t) = false := decide_eq_false h1
      rw [d1, Bool.false_and]
      clear h1
      go_enter Try.func33, Try.ntmps33
      go_upto_region 1 with fail
      rw [← HW.out]
      go_wp2
      go_ret
      exact ⟨rfl, HB.out⟩
  have b1 : (kind == 1) = false := beq_eq_false_iff_ne.2 k1
  rw [if_neg k1]
  by_cases k2 : kind = 2
  · subst k2
    rw [if_pos rfl]
    clear k0 k3 k1
    by_cases h2 : 1 ≤ dst
    · have d2 : decide (1 ≤ dst) = true := decide_eq_true h2
      rw [d2, Bool.true_and]
      clear h2
      go_enter Try.func33, Try.ntmps33
      go_upto_region 1 with fail
      rw [← HW.out]
      go_wp2
      go_ret
      exact ⟨rfl, HB.out⟩
    · have d2 : decide (1 ≤ dst) = false := decide_eq_false h2
      rw [d2, Bool.false_and]
      clear h2
      go_enter Try.func33, Try.ntmps33
      go_upto_region 1 with fail
      rw [← HW.out]
      go_wp2
      go_ret
      exact ⟨rfl, HB.out⟩
  have b2 : (kind == 2) = false := beq_eq_false_iff_ne.2 k2
  rw [if_neg k2]
  clear k0 k1 k2 k3
  go_enter Try.func33, Try.ntmps33
  go_upto_region 1 with fail
  rw [← HW.out]
  go_wp2
  go_ret
  exact ⟨rfl, HB.out⟩

set_option maxRecDepth 100000 in
set_option maxHeartbeats 16000000 in
theorem tableRight_any (G : Gram) (v tv : Value) (T : Tbl) (w : World) (h : IsGram w v G) (ht : IsTbl w tv T) :
    Calls Try.prog 12 #[v, tv] w fun e w' => e = .returned (.bool (rightT G T)) ∧ Below w.heap.size w w' := by
  have hG := h
  obtain ⟨_, vs, vp, rfl, hs, hp⟩ := h
  obtain ⟨-, sa, sc, rfl, -, -, -⟩ := id hs
  obtain ⟨-, pa, pc, rfl, -, -, -⟩ := id hp
  obtain ⟨av, gv, rfl, hta, htg⟩ := ht
  obtain ⟨aa, ac, rfl, haa, -, han⟩ := Rows'.parts hta
  obtain ⟨ga, gc, rfl, hgg, -, hgn⟩ := Rows'.parts htg
  have hx := three_boxes w (grO G sa pa sc pc) (.cells #[.slice aa T.acts.length ac, .slice ga T.gotos.length gc] 29 (0, 0)) (.cells #[.int .i64 G.terms, .slice sa G.syms.length sc, .slice pa G.prods.length pc, .int .i64 (T.acts.length : Int)] 75 (0, 0))
  unfold grO at hx
  obtain ⟨w1, hw1⟩ : ∃ w1, w1 = ((w.alloc (.cells #[.int .i64 G.terms, .slice sa G.syms.length sc, .slice pa G.prods.length pc] 25 (0, 0))).alloc (.cells #[.slice aa T.acts.length ac, .slice ga T.gotos.length gc] 29 (0, 0))).alloc (.cells #[.int .i64 G.terms, .slice sa G.syms.length sc, .slice pa G.prods.length pc, .int .i64 (T.acts.length : Int)] 75 (0, 0)) := ⟨_, rfl⟩
  rw [← hw1] at hx
  have d0 : w1.cell? ⟨w.heap.size, 0, none⟩ = some (.int .i64 G.terms) := obj_cell hx.1 0 rfl
  have d1 : w1.cell? ⟨w.heap.size, 1, none⟩ = some (.slice sa G.syms.length sc) := obj_cell hx.1 1 rfl
  have d2 : w1.cell? ⟨w.heap.size, 2, none⟩ = some (.slice pa G.prods.length pc) := obj_cell hx.1 2 rfl
  have e0 : w1.cell? ⟨w.heap.size + 1, 0, none⟩ = some (.slice aa T.acts.length ac) := obj_cell hx.2.1 0 rfl
  have e1 : w1.cell? ⟨w.heap.size + 1, 1, none⟩ = some (.slice ga T.gotos.length gc) := obj_cell hx.2.1 1 rfl
  have l0 : w1.cell? ⟨w.heap.size + 2, 0, none⟩ = some (.int .i64 G.terms) := obj_cell hx.2.2.1 0 rfl
  have l1 : w1.cell? ⟨w.heap.size + 2, 1, none⟩ = some (.slice sa G.syms.length sc) := obj_cell hx.2.2.1 1 rfl
  have l2 : w1.cell? ⟨w.heap.size + 2, 2, none⟩ = some (.slice pa G.prods.length pc) := obj_cell hx.2.2.1 2 rfl
  have l3 : w1.cell? ⟨w.heap.size + 2, 3, none⟩ = some (.int .i64 (T.acts.length : Int)) := obj_cell hx.2.2.1 3 rfl
  have HB := Lib.hid hx.2.2.2
  have hk1 := Fr.new hx.2.2.2
  have hG1 := hG.fr hk1
  have HT := Lib.hid (And.intro (actRows_fr hta hk1) (numRows_fr htg hk1))
  have HR := Lib.hid (right_gram G _ w1 hG1)
  have HG := Lib.hid hG1
  have HRT := Lib.hid (rightT_eq (G := G) (T := T))
  have HZ := Lib.hid (show rightG G = false → rightT G T = false from fun e => by unfold rightT; rw [e]; rfl)
  have HZ1 := Lib.hid (show T.acts.length < 1 → rightT G T = false from fun e => by unfold rightT; rw [decide_eq_false (by omega : ¬ 1 ≤ T.acts.length)]; simp)
  have HZ2 := Lib.hid (show 256 < T.acts.length → rightT G T = false from fun e => by unfold rightT; rw [decide_eq_false (by omega : ¬ T.acts.length ≤ 256)]; simp)
  have HZ3 := Lib.hid (show T.gotos.length ≠ T.acts.length → rightT G T = false from fun e => by unfold rightT; rw [decide_eq_false e]; simp)
  have HGP := Lib.hid (fun e => (rightG_parts (G := G) e).1)
  clear hx hs hp hta htg hG hG1 hk1
  obtain ⟨n, hn⟩ : ∃ n, T.acts.length = n := ⟨_, rfl⟩
  obtain ⟨m, hm⟩ : ∃ m, T.gotos.length = m := ⟨_, rfl⟩
  rw [hn] at han haa HRT HZ1 HZ2 HZ3 e0 l3 hw1 HT ⊢
  rw [hm] at hgn hgg HRT HZ3 e1 hw1 HT ⊢
  have HW := Lib.hid hw1
  generalize rightT G T = rt at *
  have HN := Lib.hid (And.intro hn hm)
  clear hn hm hw1
  go_enter Try.func12, Try.ntmps12
  go_upto_region 2 with fail
  rw [← HW.out]
  cases hr : rightG G with
  | false =>
    rw [hr] at HR
    obtain rfl := HZ.out hr
    go_wp2_with (go_at_call 30; refine HR.out.mono ?_; rintro e w2 ⟨rfl, hb2⟩; have e0 := (Fr.new hb2).cell e0 id; have e1 := (Fr.new hb2).cell e1 id; have l3 := (Fr.new hb2).cell l3 id)
    go_ret
    exact ⟨rfl, HB.out.trans (hb2.mono HB.out.size)⟩
  | true =>
    rw [hr] at HR
    have hgp := HGP.out hr
    have HRG := Lib.hid hr
    clear hr
    by_cases h1 : n < 1
    · obtain rfl := HZ1.out h1
      obtain rfl : n = 0 := by omega
      go_wp2_with (go_at_call 30; refine HR.out.mono ?_; rintro e w2 ⟨rfl, hb2⟩; have e0 := (Fr.new hb2).cell e0 id; have e1 := (Fr.new hb2).cell e1 id; have l3 := (Fr.new hb2).cell l3 id)
      go_ret
      exact ⟨rfl, HB.out.trans (hb2.mono HB.out.size)⟩
    have t1 : decide ((n : Int) < 1) = false := decide_eq_false (by omega)
    by_cases h2 : 256 < n
    · have t2 : decide ((256 : Int) < (n : Int)) = true := decide_eq_true (by omega)
      obtain rfl := HZ2.out h2
      go_wp2_with (go_at_call 30; refine HR.out.mono ?_; rintro e w2 ⟨rfl, hb2⟩; have e0 := (Fr.new hb2).cell e0 id; have e1 := (Fr.new hb2).cell e1 id; have l3 := (Fr.new hb2).cell l3 id)
      go_ret
      exact ⟨rfl, HB.out.trans (hb2.mono HB.out.size)⟩
    have t2 : decide ((256 : Int) < (n : Int)) = false := decide_eq_false (by omega)
    by_cases h3 : m = n
    rotate_left
    · have t3 : ((m : Int) == (n : Int)) = false := beq_eq_false_iff_ne.2 (by omega)
      obtain rfl := HZ3.out h3
      go_wp2_with (go_at_call 30; refine HR.out.mono ?_; rintro e w2 ⟨rfl, hb2⟩; have e0 := (Fr.new hb2).cell e0 id; have e1 := (Fr.new hb2).cell e1 id; have l3 := (Fr.new hb2).cell l3 id)
      go_ret
      exact ⟨rfl, HB.out.trans (hb2.mono HB.out.size)⟩
    obtain rfl : n = m := h3.symm
    have hrt := HRT.out HRG.out (by omega) (by omega) rfl
    have HRR := Lib.hid hrt
    clear hrt HRT HZ HZ1 HZ2 HZ3 HGP h3
    have e2 : IntKind.i64.wrap ((G.syms.length : Int) - G.terms) = (G.syms.length : Int) - G.terms := IntWalk.i64_in _ (by omega)
    go_upto_region 5 with (go_at_call 30; refine HR.out.mono ?_; rintro e w2 ⟨rfl, hb2⟩; have q0 := (Fr.new hb2).cell e0 id; have q1 := (Fr.new hb2).cell e1 id; have q3 := (Fr.new hb2).cell l3 id)
    have HB2 := Lib.hid hb2
    clear hb2 HR q0 q1 q3
    go_loopw [6, 7, 8, 9, 10, 40] (fun _ _ _ _ _ iv wr => ∃ k : Nat, k ≤ n ∧ iv = .int .i64 (k : Int) ∧ (∀ j (hj : j < T.acts.length) (hs : j < T.gotos.length), j < k → rowB G n T.acts[j] T.gotos[j] = true) ∧ Below w1.heap.size w1 wr) (fun _ _ _ _ _ iv _ => n - (intOf iv).toNat)
    case atStart => exact ⟨0, Nat.zero_le _, rfl, fun j _ _ h => absurd h (by omega), HB2.out⟩
    case round =>
      obtain ⟨k, hk, rfl, hdone, hbw⟩ := hrel
      have kw := Fr.new hbw
      have d0 := kw.cell d0 id
      have d1 := kw.cell d1 id
      have d2 := kw.cell d2 id
      have e0 := kw.cell e0 id
      have e1 := kw.cell e1 id
      have l0 := kw.cell l0 id
      have l1 := kw.cell l1 id
      have l2 := kw.cell l2 id
      have l3 := kw.cell l3 id
      by_cases hlt : k < n
      ·
        -- <X>
        have hka : k < T.acts.length := by rw [HN.out.1]; exact hlt
        have hkg : k < T.gotos.length := by rw [HN.out.2]; exact hlt
        obtain ⟨ab, ao, rfl, -, ra, ha0, hra⟩ := Rows'.at (actRows_fr HT.out.1 kw) hka
        obtain ⟨gb, gO, rfl, -, rg, hg0, hrg⟩ := Rows'.at (numRows_fr HT.out.2 kw) hkg
        rw [Nat.mul_one] at ha0 hg0
        have HCF := Lib.hid (containsR_any wr (w.heap.size + 2) (badGoto (n : Int)) T.gotos[k] rg hrg (fun V hV x _ => right1_any x (n : Int) (w.heap.size + 2) V ((Fr.new hV).cell l3 id)))
        obtain ⟨ra, rc, rfl, hrc, -, hra44⟩ := Rows'.parts hra
        obtain ⟨-, hgl44, rga, rgc, rfl, hrgc, -, -⟩ := id hrg
        have hstep : rowB G n T.acts[k] T.gotos[k] = true → ∀ j (hj : j < T.acts.length) (hs : j < T.gotos.length), j < k + 1 → rowB G n T.acts[j] T.gotos[j] = true := fun e j hj hs hjk => by
          rcases Nat.lt_or_ge j k with h | h
          · exact hdone j hj hs h
          · obtain rfl : j = k := by omega
            exact e
        have hoff : rowB G n T.acts[k] T.gotos[k] = false → rt = false := fun e => by
          rw [HRR.out]
          exact rowsB_off _ _ k hka hkg e
        have HQ := Lib.hid (And.intro hstep hoff)
        have HRA := Lib.hid hra
        have HBW := Lib.hid hbw
        clear hstep hoff hdone hra hrg hbw kw
        generalize T.acts[k] = A at *
        generalize T.gotos[k] = S at *
        obtain ⟨al, hal⟩ : ∃ al, A.length = al := ⟨_, rfl⟩
        obtain ⟨sl, hsl⟩ : ∃ sl, S.length = sl := ⟨_, rfl⟩
        rw [hal] at hrc hra44 ha0
        rw [hsl] at hrgc hgl44 hg0 HCF
        have HAL := Lib.hid (And.intro hal hsl)
        clear hal hsl
        by_cases hA : (al : Int) = G.terms
        rotate_left
        · have b1 : ((al : Int) == G.terms) = false := beq_eq_false_iff_ne.2 hA
          have c1 : ((al : Int) != G.terms) = true := bne_iff_ne.2 hA
          obtain rfl := HQ.out.2 (rowB_len (.inl (by rw [HAL.out.1]; exact hA)))
          clear hA HCF
          go_wp2
          go_ret
          exact ⟨rfl, HB.out.trans (HBW.out.mono HB.out.size)⟩
        have b1 : ((al : Int) == G.terms) = true := beq_iff_eq.2 hA
        have c1 : ((al : Int) != G.terms) = false := bne_eq_false_iff_eq.2 hA
        by_cases hS : (sl : Int) = (G.syms.length : Int) - G.terms
        rotate_left
        · have b2 : ((sl : Int) == (G.syms.length : Int) - G.terms) = false := beq_eq_false_iff_ne.2 hS
          have c2 : ((sl : Int) != (G.syms.length : Int) - G.terms) = true := bne_iff_ne.2 hS
          obtain rfl := HQ.out.2 (rowB_len (.inr (by rw [HAL.out.2]; exact hS)))
          clear hA hS HCF
          go_wp2
          go_ret
          exact ⟨rfl, HB.out.trans (HBW.out.mono HB.out.size)⟩
        have b2 : ((sl : Int) == (G.syms.length : Int) - G.terms) = true := beq_iff_eq.2 hS
        have c2 : ((sl : Int) != (G.syms.length : Int) - G.terms) = false := bne_eq_false_iff_eq.2 hS
        have HAS := Lib.hid (And.intro hA hS)
        have hal1 : al ≤ 64 := by omega
        have hsl1 : sl ≤ 64 := by omega
        clear hA hS
        cases hbad : S.any (badGoto (n : Int)) with
        | true =>
          rw [hbad] at HCF
          obtain rfl := HQ.out.2 (rowB_gotos hbad)
          go_wp2_with (go_at_call 31; refine HCF.out.mono ?_; rintro e w3 ⟨rfl, hb3⟩)
          go_ret
          exact ⟨rfl, HB.out.trans ((HBW.out.trans (hb3.mono HBW.out.size)).mono HB.out.size)⟩
        | false =>
          rw [hbad] at HCF
          have HBAD := Lib.hid hbad
          clear hbad
          generalize hwa : wr = wA at *
          clear hwa
          go_upto_region 11 with (go_at_call 31; refine HCF.out.mono ?_; rintro e w3 ⟨rfl, hb3⟩)
          have HB3 := Lib.hid hb3
          clear b1 b2 c1 c2 HCF hb3
          go_loopw [9, 10, 73] (fun _ _ jv wr => ∃ j : Nat, j ≤ al ∧ jv = .int .i64 (j : Int) ∧ (∀ i (hi : i < A.length), i < j → entryB G n (i : Int) A[i] = true) ∧ Below wA.heap.size wA wr) (fun _ _ jv _ => al - (intOf jv).toNat)
          case atStart => exact ⟨0, Nat.zero_le _, rfl, fun j _ h => absurd h (by omega), HB3.out⟩
          case round =>
            obtain ⟨j, hj, rfl, hent, hbj⟩ := hrel
            have kj := Fr.new hbj
            by_cases hltj : j < al
            · have hja : j < A.length := by rw [HAL.out.1]; exact hltj
              obtain ⟨rb, ro, rfl, -, -, -, hcs⟩ := Rows'.at (HRA.out.fr kj) hja
              have s0 := hcs 0 (by simp [acCells])
              have s1 := hcs 1 (by simp [acCells])
              simp only [acCells, List.getElem_cons_zero, List.getElem_cons_succ, Nat.add_zero] at s0 s1
              have l0 : ∀ ob, (wr.alloc ob).cell? ⟨w.heap.size + 2, 0, none⟩ = some (.int .i64 G.terms) := fun ob => (kj.trans (Fr.alloc wr ob)).cell l0 id
              have l1 : ∀ ob, (wr.alloc ob).cell? ⟨w.heap.size + 2, 1, none⟩ = some (.slice sa G.syms.length sc) := fun ob => (kj.trans (Fr.alloc wr ob)).cell l1 id
              have l2 : ∀ ob, (wr.alloc ob).cell? ⟨w.heap.size + 2, 2, none⟩ = some (.slice pa G.prods.length pc) := fun ob => (kj.trans (Fr.alloc wr ob)).cell l2 id
              have l3 : ∀ ob, (wr.alloc ob).cell? ⟨w.heap.size + 2, 3, none⟩ = some (.int .i64 (n : Int)) := fun ob => (kj.trans (Fr.alloc wr ob)).cell l3 id
              have HL1 := Lib.hid fun (W : World) => lookAct_full G G.terms (.slice sa G.syms.length sc) pa pc n (j : Int) A[j] W
              have hE := fun (e : entryB G n (j : Int) A[j] = true) => (show ∀ i (hi : i < A.length), i < j + 1 → entryB G n (i : Int) A[i] = true from fun i hi hij => by
                rcases Nat.lt_or_ge i j with h | h
                · exact hent i hi h
                · obtain rfl : i = j := by omega
                  exact e)
              have hO := fun (e : entryB G n (j : Int) A[j] = false) => HQ.out.2 (rowB_ent hja e)
              have HE := Lib.hid (And.intro hE (And.intro hO hbj))
              clear hE hO hent hbj kj hcs
              generalize entryB G n (j : Int) A[j] = bb at *
              generalize A[j] = x at *
              obtain ⟨kind, dst⟩ := x
              simp only at HL1 s0 s1
              cases bb with
              | false =>
                obtain rfl := HE.out.2.1 rfl
                go_wp2_with (go_at_call 33; refine (HL1.out _).mono ?_; rintro e w4 ⟨rfl, hb4⟩)
                go_ret
                exact ⟨rfl, HB.out.trans ((HBW.out.trans ((HE.out.2.2.trans ((((Fr.alloc _ _).trans (Fr.new hb4)).below_new).mono HE.out.2.2.size)).mono HBW.out.size)).mono HB.out.size)⟩
              | true =>
                go_wp2_with (go_at_call 33; refine (HL1.out _).mono ?_; rintro e w4 ⟨rfl, hb4⟩)
                go_roundw
                case rel => exact ⟨j + 1, by omega, by simp, HE.out.1 (by first | rfl | trivial), HE.out.2.2.trans ((((Fr.alloc _ _).trans (Fr.new hb4)).below_new).mono HE.out.2.2.size)⟩
                case measure => simp [intOf]; omega
            · obtain rfl : j = al := by omega
              have HENT := Lib.hid (And.intro hent hbj)
              clear hent hbj kj
              go_wp2
              go_roundw
              case rel => exact ⟨k + 1, by omega, by simp, HQ.out.1 (rowB_all2 (by rw [HAL.out.1]; exact HAS.out.1) (by rw [HAL.out.2]; exact HAS.out.2) (fun q hq => HENT.out.1 q hq (by rw [← HAL.out.1]; exact hq)) HBAD.out), HBW.out.trans (HENT.out.2.mono HBW.out.size)⟩
              case measure => simp [intOf]; omega
        -- </X>
      · obtain rfl : k = n := by omega
        have hrt : rt = true := by
          rw [HRR.out]
          exact rowsB_all _ _ fun j hj hs => hdone j hj hs (by rw [← HN.out.1]; exact hj)
        subst hrt
        have HBW := Lib.hid hbw
        clear hbw hdone kw
        go_wp2
        go_ret
        exact ⟨rfl, HB.out.trans (HBW.out.mono HB.out.size)⟩
end Go.Proofs.Ytpnihegmhalcfaa
