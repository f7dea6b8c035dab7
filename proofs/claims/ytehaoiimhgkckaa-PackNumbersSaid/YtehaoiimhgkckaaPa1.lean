/-
  slices.ContainsFunc over numbers, with each of the closures that the program hands it.
  Package table: Right of a table of one row whose entries may all stand, and of none.
  Package table: Right of a table of one row whose entries may all stand, and of none.
-/
import Derived.Test.YtehaoiimhgkckaaPk1
import Derived.Test.YtehaoiimhgkckaaSym3
namespace Go.Proofs.Ytehaoiimhgkckaa
open Go.RowKit
set_option maxHeartbeats 400000

/-- The closure over these boxes tells of numbers what p tells, wherever what was there stands. -/
def TellR (w : World) (b0 : Nat) (p : Int → Bool) (xs : List Int) : Prop :=
  ∀ W, Below w.heap.size w W → ∀ x ∈ xs, Calls Try.prog 76 #[.int .i64 x, .pointer (some ⟨b0, 0, none⟩)] W fun e w' => e = .returned (.bool (p x)) ∧ Below W.heap.size W w'
set_option maxRecDepth 100000 in
set_option maxHeartbeats 1000000 in
theorem indexR_any (w : World) (b0 : Nat) (p : Int → Bool) (xs : List Int) (v : Value) (hv : Ints w v xs) (h : TellR w b0 p xs) :
    Calls Try.prog 86 #[v, .func (.func 76) #[] #[.pointer (some ⟨b0, 0, none⟩)]] w fun e w' => (∃ k : Int, e = .returned (.int .i64 k) ∧ decide (0 ≤ k) = xs.any p) ∧ Below w.heap.size w w' := by
  obtain ⟨_, hlen, a, cap, rfl, _, _, _⟩ := id hv
  have HV := Lib.hid hv
  have HT := Lib.hid h
  clear hv h
  generalize hN : xs.length = N at *
  have HN := Lib.hid hN
  clear hN
  go_enter Try.func86, Try.ntmps86
  go_wp2
  go_loopw [4, 5, 8] (fun _ _ i wr => ∃ k : Nat, k ≤ N ∧ i = .int .i64 k ∧ (∀ j (hj : j < xs.length), j < k → p xs[j] = false) ∧ Below w.heap.size w wr) (fun _ _ i _ => N - (intOf i).toNat)
  case atStart => exact ⟨0, Nat.zero_le _, rfl, fun j _ h => by omega, Below.refl _ _⟩
  case round =>
    obtain ⟨k, hk, rfl, hno, hB⟩ := hrel
    have HNO := Lib.hid hno
    clear hno
    by_cases hlt : k < N
    · have hk' : k < xs.length := by rw [HN.out]; exact hlt
      obtain ⟨b, o, rfl, -, -, hcx, -⟩ := (HV.out.fr (Fr.new hB)).at hk'
      have hcall := HT.out wr hB _ (List.getElem_mem hk')
      have HB := Lib.hid hB
      clear hB
      cases hp : p xs[k] with
      | true =>
        rw [hp] at hcall
        have HP := Lib.hid hp
        have HCL := Lib.hid hcall
        clear hp hcall
        generalize hs : xs[k] = s at hcx HCL
        clear hs
        go_wp2_with (go_at_call 76; refine HCL.out.mono ?_; rintro e w' ⟨rfl, hb⟩)
        go_ret
        exact ⟨⟨_, rfl, by rw [List.any_eq_true.2 ⟨_, List.getElem_mem hk', HP.out⟩]; simp⟩, HB.out.trans (hb.mono HB.out.size)⟩
      | false =>
        rw [hp] at hcall
        have HP := Lib.hid hp
        have HCL := Lib.hid hcall
        clear hp hcall
        generalize hs : xs[k] = s at hcx HCL
        clear hs
        go_wp2_with (go_at_call 76; refine HCL.out.mono ?_; rintro e w' ⟨rfl, hb⟩)
        go_roundw
        case rel =>
          refine ⟨k + 1, by omega, by simp, fun j hj hjk => ?_, HB.out.trans (hb.mono HB.out.size)⟩
          by_cases e : j = k
          · subst e; exact HP.out
          · exact HNO.out j hj (by omega)
        case measure => simp [intOf]; omega
    · obtain rfl : k = N := by omega
      clear hlt
      go_wp2
      go_ret
      refine ⟨⟨-1, rfl, ?_⟩, hB⟩
      have : xs.any p = false := by
        rw [List.any_eq_false]
        intro x hx
        obtain ⟨i, hi, rfl⟩ := List.mem_iff_getElem.1 hx
        rw [HNO.out i hi (by rw [← HN.out]; exact hi)]
        simp
      rw [this]
      rfl
theorem containsR_any (w : World) (b0 : Nat) (p : Int → Bool) (xs : List Int) (v : Value) (hv : Ints w v xs) (h : TellR w b0 p xs) :
    Calls Try.prog 75 #[v, .func (.func 76) #[] #[.pointer (some ⟨b0, 0, none⟩)]] w fun e w' => e = .returned (.bool (xs.any p)) ∧ Below w.heap.size w w' := by
  obtain ⟨_, hlen, a, cap, rfl, _, _, _⟩ := id hv
  have HI := Lib.hid (indexR_any w b0 p xs _ hv h)
  generalize xs.any p = bb at *
  clear hv h
  generalize xs.length = N at *
  go_enter Try.func75, Try.ntmps75
  go_wp2_with (go_at_call 86; refine HI.out.mono ?_; rintro e w' ⟨⟨k, rfl, rfl⟩, hb⟩)
  go_ret
  exact ⟨rfl, hb⟩

/-- The closure over these boxes tells of numbers what p tells, wherever what was there stands. -/
def TellA (w : World) (b0 b1 : Nat) (p : Int → Bool) (xs : List Int) : Prop :=
  ∀ W, Below w.heap.size w W → ∀ x ∈ xs, Calls Try.prog 79 #[.int .i64 x, .pointer (some ⟨b0, 0, none⟩), .pointer (some ⟨b1, 0, none⟩)] W fun e w' => e = .returned (.bool (p x)) ∧ Below W.heap.size W w'
set_option maxRecDepth 100000 in
set_option maxHeartbeats 1000000 in
theorem indexA_any (w : World) (b0 b1 : Nat) (p : Int → Bool) (xs : List Int) (v : Value) (hv : Ints w v xs) (h : TellA w b0 b1 p xs) :
    Calls Try.prog 86 #[v, .func (.func 79) #[] #[.pointer (some ⟨b0, 0, none⟩), .pointer (some ⟨b1, 0, none⟩)]] w fun e w' => (∃ k : Int, e = .returned (.int .i64 k) ∧ decide (0 ≤ k) = xs.any p) ∧ Below w.heap.size w w' := by
  obtain ⟨_, hlen, a, cap, rfl, _, _, _⟩ := id hv
  have HV := Lib.hid hv
  have HT := Lib.hid h
  clear hv h
  generalize hN : xs.length = N at *
  have HN := Lib.hid hN
  clear hN
  go_enter Try.func86, Try.ntmps86
  go_wp2
  go_loopw [4, 5, 8] (fun _ _ i wr => ∃ k : Nat, k ≤ N ∧ i = .int .i64 k ∧ (∀ j (hj : j < xs.length), j < k → p xs[j] = false) ∧ Below w.heap.size w wr) (fun _ _ i _ => N - (intOf i).toNat)
  case atStart => exact ⟨0, Nat.zero_le _, rfl, fun j _ h => by omega, Below.refl _ _⟩
  case round =>
    obtain ⟨k, hk, rfl, hno, hB⟩ := hrel
    have HNO := Lib.hid hno
    clear hno
    by_cases hlt : k < N
    · have hk' : k < xs.length := by rw [HN.out]; exact hlt
      obtain ⟨b, o, rfl, -, -, hcx, -⟩ := (HV.out.fr (Fr.new hB)).at hk'
      have hcall := HT.out wr hB _ (List.getElem_mem hk')
      have HB := Lib.hid hB
      clear hB
      cases hp : p xs[k] with
      | true =>
        rw [hp] at hcall
        have HP := Lib.hid hp
        have HCL := Lib.hid hcall
        clear hp hcall
        generalize hs : xs[k] = s at hcx HCL
        clear hs
        go_wp2_with (go_at_call 79; refine HCL.out.mono ?_; rintro e w' ⟨rfl, hb⟩)
        go_ret
        exact ⟨⟨_, rfl, by rw [List.any_eq_true.2 ⟨_, List.getElem_mem hk', HP.out⟩]; simp⟩, HB.out.trans (hb.mono HB.out.size)⟩
      | false =>
        rw [hp] at hcall
        have HP := Lib.hid hp
        have HCL := Lib.hid hcall
        clear hp hcall
        generalize hs : xs[k] = s at hcx HCL
        clear hs
        go_wp2_with (go_at_call 79; refine HCL.out.mono ?_; rintro e w' ⟨rfl, hb⟩)
        go_roundw
        case rel =>
          refine ⟨k + 1, by omega, by simp, fun j hj hjk => ?_, HB.out.trans (hb.mono HB.out.size)⟩
          by_cases e : j = k
          · subst e; exact HP.out
          · exact HNO.out j hj (by omega)
        case measure => simp [intOf]; omega
    · obtain rfl : k = N := by omega
      clear hlt
      go_wp2
      go_ret
      refine ⟨⟨-1, rfl, ?_⟩, hB⟩
      have : xs.any p = false := by
        rw [List.any_eq_false]
        intro x hx
        obtain ⟨i, hi, rfl⟩ := List.mem_iff_getElem.1 hx
        rw [HNO.out i hi (by rw [← HN.out]; exact hi)]
        simp
      rw [this]
      rfl
theorem containsA_any (w : World) (b0 b1 : Nat) (p : Int → Bool) (xs : List Int) (v : Value) (hv : Ints w v xs) (h : TellA w b0 b1 p xs) :
    Calls Try.prog 75 #[v, .func (.func 79) #[] #[.pointer (some ⟨b0, 0, none⟩), .pointer (some ⟨b1, 0, none⟩)]] w fun e w' => e = .returned (.bool (xs.any p)) ∧ Below w.heap.size w w' := by
  obtain ⟨_, hlen, a, cap, rfl, _, _, _⟩ := id hv
  have HI := Lib.hid (indexA_any w b0 b1 p xs _ hv h)
  generalize xs.any p = bb at *
  clear hv h
  generalize xs.length = N at *
  go_enter Try.func75, Try.ntmps75
  go_wp2_with (go_at_call 86; refine HI.out.mono ?_; rintro e w' ⟨⟨k, rfl, rfl⟩, hb⟩)
  go_ret
  exact ⟨rfl, hb⟩

/-- The closure over these boxes tells of numbers what p tells, wherever what was there stands. -/
def TellI (w : World) (b0 b1 : Nat) (p : Int → Bool) (xs : List Int) : Prop :=
  ∀ W, Below w.heap.size w W → ∀ x ∈ xs, Calls Try.prog 81 #[.int .i64 x, .pointer (some ⟨b0, 0, none⟩), .pointer (some ⟨b1, 0, none⟩)] W fun e w' => e = .returned (.bool (p x)) ∧ Below W.heap.size W w'
set_option maxRecDepth 100000 in
set_option maxHeartbeats 1000000 in
theorem indexI_any (w : World) (b0 b1 : Nat) (p : Int → Bool) (xs : List Int) (v : Value) (hv : Ints w v xs) (h : TellI w b0 b1 p xs) :
    Calls Try.prog 86 #[v, .func (.func 81) #[] #[.pointer (some ⟨b0, 0, none⟩), .pointer (some ⟨b1, 0, none⟩)]] w fun e w' => (∃ k : Int, e = .returned (.int .i64 k) ∧ decide (0 ≤ k) = xs.any p) ∧ Below w.heap.size w w' := by
  obtain ⟨_, hlen, a, cap, rfl, _, _, _⟩ := id hv
  have HV := Lib.hid hv
  have HT := Lib.hid h
  clear hv h
  generalize hN : xs.length = N at *
  have HN := Lib.hid hN
  clear hN
  go_enter Try.func86, Try.ntmps86
  go_wp2
  go_loopw [4, 5, 8] (fun _ _ i wr => ∃ k : Nat, k ≤ N ∧ i = .int .i64 k ∧ (∀ j (hj : j < xs.length), j < k → p xs[j] = false) ∧ Below w.heap.size w wr) (fun _ _ i _ => N - (intOf i).toNat)
  case atStart => exact ⟨0, Nat.zero_le _, rfl, fun j _ h => by omega, Below.refl _ _⟩
  case round =>
    obtain ⟨k, hk, rfl, hno, hB⟩ := hrel
    have HNO := Lib.hid hno
    clear hno
    by_cases hlt : k < N
    · have hk' : k < xs.length := by rw [HN.out]; exact hlt
      obtain ⟨b, o, rfl, -, -, hcx, -⟩ := (HV.out.fr (Fr.new hB)).at hk'
      have hcall := HT.out wr hB _ (List.getElem_mem hk')
      have HB := Lib.hid hB
      clear hB
      cases hp : p xs[k] with
      | true =>
        rw [hp] at hcall
        have HP := Lib.hid hp
        have HCL := Lib.hid hcall
        clear hp hcall
        generalize hs : xs[k] = s at hcx HCL
        clear hs
        go_wp2_with (go_at_call 81; refine HCL.out.mono ?_; rintro e w' ⟨rfl, hb⟩)
        go_ret
        exact ⟨⟨_, rfl, by rw [List.any_eq_true.2 ⟨_, List.getElem_mem hk', HP.out⟩]; simp⟩, HB.out.trans (hb.mono HB.out.size)⟩
      | false =>
        rw [hp] at hcall
        have HP := Lib.hid hp
        have HCL := Lib.hid hcall
        clear hp hcall
        generalize hs : xs[k] = s at hcx HCL
        clear hs
        go_wp2_with (go_at_call 81; refine HCL.out.mono ?_; rintro e w' ⟨rfl, hb⟩)
        go_roundw
        case rel =>
          refine ⟨k + 1, by omega, by simp, fun j hj hjk => ?_, HB.out.trans (hb.mono HB.out.size)⟩
          by_cases e : j = k
          · subst e; exact HP.out
          · exact HNO.out j hj (by omega)
        case measure => simp [intOf]; omega
    · obtain rfl : k = N := by omega
      clear hlt
      go_wp2
      go_ret
      refine ⟨⟨-1, rfl, ?_⟩, hB⟩
      have : xs.any p = false := by
        rw [List.any_eq_false]
        intro x hx
        obtain ⟨i, hi, rfl⟩ := List.mem_iff_getElem.1 hx
        rw [HNO.out i hi (by rw [← HN.out]; exact hi)]
        simp
      rw [this]
      rfl
theorem containsI_any (w : World) (b0 b1 : Nat) (p : Int → Bool) (xs : List Int) (v : Value) (hv : Ints w v xs) (h : TellI w b0 b1 p xs) :
    Calls Try.prog 75 #[v, .func (.func 81) #[] #[.pointer (some ⟨b0, 0, none⟩), .pointer (some ⟨b1, 0, none⟩)]] w fun e w' => e = .returned (.bool (xs.any p)) ∧ Below w.heap.size w w' := by
  obtain ⟨_, hlen, a, cap, rfl, _, _, _⟩ := id hv
  have HI := Lib.hid (indexI_any w b0 b1 p xs _ hv h)
  generalize xs.any p = bb at *
  clear hv h
  generalize xs.length = N at *
  go_enter Try.func75, Try.ntmps75
  go_wp2_with (go_at_call 86; refine HI.out.mono ?_; rintro e w' ⟨⟨k, rfl, rfl⟩, hb⟩)
  go_ret
  exact ⟨rfl, hb⟩

end Go.Proofs.Ytehaoiimhgkckaa
namespace Go.Proofs.Ytehaoiimhgkckaa
open Go.RowKit
set_option maxHeartbeats 400000

/-- What the closure of table.Right tells. -/
def badGoto (st : Int) (x : Int) : Bool := if x < -1 then true else decide (st ≤ x)
theorem right1_any (x st : Int) (b : Nat) (w : World) (hc : w.cell? ⟨b, 3, none⟩ = some (.int .i64 st)) :
    Calls Try.prog 76 #[.int .i64 x, .pointer (some ⟨b, 0, none⟩)] w fun e w' => e = .returned (.bool (badGoto st x)) ∧ Below w.heap.size w w' := by
  unfold badGoto
  by_cases h : x < -1
  · have d1 : decide (x < -1) = true := decide_eq_true h
    rw [if_pos h]
    clear h
    go_enter Try.func76, Try.ntmps76
    go_wp2
    go_ret
    exact ⟨rfl, Below.refl _ _⟩
  · have d1 : decide (x < -1) = false := decide_eq_false h
    rw [if_neg h]
    clear h
    generalize e2 : decide (st ≤ x) = B2
    go_enter Try.func76, Try.ntmps76
    go_wp2
    go_ret
    exact ⟨rfl, Below.refl _ _⟩

/-- Entries that may stand in a table of one state, at a terminal from 0 on, of so many productions. -/
def actOk (np : Nat) (a : Ac) : Prop := (a.kind = 0 ∧ a.dst = 0) ∨ (a.kind = 2 ∧ 1 ≤ a.dst ∧ a.dst < np)
theorem lookAct_any (terms st term : Int) (vs : Value) (b : Option Addr) (np cp : Nat) (a : Ac) (w : World) (h : actOk np a) :
    Calls Try.prog 77 #[.agg #[.int .i64 terms, vs, .slice b np cp, .int .i64 st], .int .i64 term, .agg #[.int .u8 a.kind, .int .i64 a.dst]] w fun e w' => e = .returned (.bool true) ∧ Below w.heap.size w w' := by
  obtain ⟨kind, dst⟩ := a
  have hx := two_boxes w (.cells #[.int .i64 terms, vs, .slice b np cp, .int .i64 st] 135 (0, 0)) (.cells #[.int .u8 kind, .int .i64 dst] 31 (0, 0))
  obtain ⟨w1, hw1⟩ : ∃ w1, w1 = (w.alloc (.cells #[.int .i64 terms, vs, .slice b np cp, .int .i64 st] 135 (0, 0))).alloc (.cells #[.int .u8 kind, .int .i64 dst] 31 (0, 0)) := ⟨_, rfl⟩
  rw [← hw1] at hx
  have x2 : w1.cell? ⟨w.heap.size, 2, none⟩ = some (.slice b np cp) := obj_cell hx.1 2 rfl
  have y0 : w1.cell? ⟨w.heap.size + 1, 0, none⟩ = some (.int .u8 kind) := obj_cell hx.2.1 0 rfl
  have y1 : w1.cell? ⟨w.heap.size + 1, 1, none⟩ = some (.int .i64 dst) := obj_cell hx.2.1 1 rfl
  have HB := Lib.hid hx.2.2
  have HW := Lib.hid hw1
  clear hx hw1
  rcases h with ⟨h1, h2⟩ | ⟨h1, h2, h3⟩
  · simp only at h1 h2
    subst h1 h2
    go_enter Try.func77, Try.ntmps77
    go_upto_region 1 with fail
    rw [← HW.out]
    go_wp2
    go_ret
    exact ⟨rfl, HB.out⟩
  · simp only at h1 h2 h3
    subst h1
    have d1 : decide ((1 : Int) ≤ dst) = true := decide_eq_true h2
    have d2 : decide (dst < (np : Int)) = true := decide_eq_true h3
    clear h2 h3
    go_enter Try.func77, Try.ntmps77
    go_upto_region 1 with fail
    rw [← HW.out]
    go_wp2
    go_ret
    exact ⟨rfl, HB.out⟩

/-- A table of one row. -/
structure Tab1 (w : World) (v : Value) (row : List Ac) (gotos : List Int) : Prop where
  lie : ∃ ga ca gg cg rv gv, v = .agg #[.slice (some ⟨ga, 0, none⟩) 1 ca, .slice (some ⟨gg, 0, none⟩) 1 cg] ∧ w.cell? ⟨ga, 0, none⟩ = some rv ∧ IsActs w rv row ∧ w.cell? ⟨gg, 0, none⟩ = some gv ∧ Ints w gv gotos
theorem Tab1.fr {w w' : World} {v : Value} {row : List Ac} {gotos : List Int} (h : Tab1 w v row gotos) (k : Fr nothing w w') : Tab1 w' v row gotos := by
  obtain ⟨ga, ca, gg, cg, rv, gv, h1, h2, h3, h4, h5⟩ := h.lie
  exact ⟨ga, ca, gg, cg, rv, gv, h1, k.cell h2 fun e => e, h3.fr k, k.cell h4 fun e => e, h5.fr k⟩
end Go.Proofs.Ytehaoiimhgkckaa
namespace Go.Proofs.Ytehaoiimhgkckaa
open Go.RowKit
set_option maxHeartbeats 400000

theorem three_boxes (w : World) (o1 o2 o3 : Obj) : (((w.alloc o1).alloc o2).alloc o3).heap[w.heap.size]? = some o1 ∧ (((w.alloc o1).alloc o2).alloc o3).heap[w.heap.size + 1]? = some o2 ∧ (((w.alloc o1).alloc o2).alloc o3).heap[w.heap.size + 2]? = some o3 ∧ Below w.heap.size w (((w.alloc o1).alloc o2).alloc o3) := by
  have h := two_boxes w o1 o2
  have f := Fr.alloc (ch := nothing) ((w.alloc o1).alloc o2) o3
  have hs : ((w.alloc o1).alloc o2).heap.size = w.heap.size + 2 := by simp
  refine ⟨f.obj h.1 fun e => e, f.obj h.2.1 fun e => e, ?_, ((Fr.new h.2.2).trans f).below_new⟩
  have := alloc_obj ((w.alloc o1).alloc o2) o3
  rwa [hs] at this

set_option maxRecDepth 100000 in
set_option maxHeartbeats 4000000 in
theorem tableRight_one (G : Gram) (g v : Value) (row : List Ac) (gotos : List Int) (w : World) (hg : IsGram w g G) (hr : rightG G = true) (ht : Tab1 w v row gotos) (hn : (row.length : Int) = G.terms) (hm : (gotos.length : Int) = G.syms.length - G.terms)
    (hrow : ∀ a ∈ row, actOk G.prods.length a) (hgo : gotos.any (badGoto 1) = false) (hsm : G.syms.length ≤ 1000) :
    Calls Try.prog 51 #[g, v] w fun e w' => e = .returned (.bool true) ∧ Below w.heap.size w w' := by
  obtain ⟨_, vs, vp, rfl, hs, hp⟩ := id hg
  obtain ⟨sa, sc, rfl, _⟩ := Rows'.parts hs
  obtain ⟨pa, pc, rfl, _⟩ := Rows'.parts hp
  obtain ⟨ga, ca, gg, cg, rv, gv, rfl, hc1, hra, hc2, hgi⟩ := ht.lie
  obtain ⟨na, nc, rfl, _⟩ := Rows'.parts hra
  obtain ⟨_, _, ia, ic, rfl, _⟩ := id hgi
  have HR := Lib.hid fun (W : World) (hW : Fr nothing w W) => hr ▸ right_gram G _ W (hg.fr hW)
  obtain ⟨terms, syms, prods⟩ := G
  simp only at hn hm hrow hsm HR
  simp only
  subst hn
  have e1 : IntKind.i64.wrap ((syms.length : Int) - (row.length : Int)) = (gotos.length : Int) := by rw [IntWalk.i64_in _ (by omega)]; omega
  have hn1 : row.length ≤ 1000 := by omega
  have hx := three_boxes w (.cells #[.int .i64 row.length, .slice sa syms.length sc, .slice pa prods.length pc] 39 (0, 0)) (.cells #[.slice (some ⟨ga, 0, none⟩) 1 ca, .slice (some ⟨gg, 0, none⟩) 1 cg] 74 (0, 0)) (.cells #[.int .i64 row.length, .slice sa syms.length sc, .slice pa prods.length pc, .int .i64 1] 135 (0, 0))
  obtain ⟨w1, hw1⟩ : ∃ w1, w1 = (((w.alloc (.cells #[.int .i64 row.length, .slice sa syms.length sc, .slice pa prods.length pc] 39 (0, 0))).alloc (.cells #[.slice (some ⟨ga, 0, none⟩) 1 ca, .slice (some ⟨gg, 0, none⟩) 1 cg] 74 (0, 0))).alloc (.cells #[.int .i64 row.length, .slice sa syms.length sc, .slice pa prods.length pc, .int .i64 1] 135 (0, 0))) := ⟨_, rfl⟩
  rw [← hw1] at hx
  obtain ⟨o0, o1, o2, hB1⟩ := hx
  have HL := Lib.hid fun (a : Ac) (ha : a ∈ row) (j : Int) (W : World) => lookAct_any row.length 1 j (.slice sa syms.length sc) pa prods.length pc a W (hrow a ha)
  have hG := Lib.hid fun (W : World) (b : Nat) (hW : Fr nothing w W) (hb : W.heap[b]? = some (.cells #[.int .i64 row.length, .slice sa syms.length sc, .slice pa prods.length pc, .int .i64 1] 135 (0, 0))) =>
    hgo ▸ containsR_any W b (badGoto 1) gotos _ (hgi.fr hW) (fun V hV x hx => right1_any x 1 b V (obj_cell ((Fr.new hV).obj hb fun e => e) 3 rfl))
  have HA := Lib.hid hra
  have HF := Lib.hid (And.intro o0 (And.intro o1 (And.intro o2 (And.intro hc1 hc2))))
  have z0 : w1.cell? ⟨w.heap.size, 0, none⟩ = some (.int .i64 row.length) := obj_cell o0 0 rfl
  have z1 : w1.cell? ⟨w.heap.size, 1, none⟩ = some (.slice sa syms.length sc) := obj_cell o0 1 rfl
  have z2 : w1.cell? ⟨w.heap.size, 2, none⟩ = some (.slice pa prods.length pc) := obj_cell o0 2 rfl
  have HS := Lib.hid (HR.out w1 (Fr.new hB1))
  have HW := Lib.hid hw1
  have HB := Lib.hid (Fr.new hB1)
  clear hs hp hg ht hra hgi hrow hgo hsm hm HR o0 o1 o2 hB1 hw1 hc1 hc2
  have HN := Lib.hid (rfl : row.length = row.length)
  generalize hnn : row.length = n at *
  generalize gotos.length = m at *
  have HNN := Lib.hid hnn
  clear HN hnn
  generalize syms.length = s at *
  generalize prods.length = p at *
  have t1 : decide ((1 : Int) < 1) = false := by decide
  have t2 : decide ((256 : Int) < 1) = false := by decide
  go_enter Try.func51, Try.ntmps51
  go_upto_region 2 with fail
  rw [← HW.out]
  have zt : ∀ W, Fr nothing w1 W → (W.cell? ⟨w.heap.size + 1, 0, none⟩ = some (.slice (some ⟨ga, 0, none⟩) 1 ca) ∧ W.cell? ⟨w.heap.size + 1, 1, none⟩ = some (.slice (some ⟨gg, 0, none⟩) 1 cg) ∧ W.cell? ⟨w.heap.size + 2, 3, none⟩ = some (.int .i64 1)) :=
    fun W hW => ⟨obj_cell (hW.obj HF.out.2.1 fun e => e) 0 rfl, obj_cell (hW.obj HF.out.2.1 fun e => e) 1 rfl, obj_cell (hW.obj HF.out.2.2.1 fun e => e) 3 rfl⟩
  have ZT := Lib.hid zt
  clear zt
  go_upto_region 5 with (go_at_call 18; refine HS.out.mono ?_; rintro e w2 ⟨rfl, hb2⟩; obtain ⟨q0, q1, q2⟩ := ZT.out w2 (Fr.new hb2))
  have HB2 := Lib.hid (Fr.new hb2)
  clear q0 q1 q2 z0 z1 z2 hb2 HS
  go_loopw [6, 7, 8, 9, 10, 40] (fun _ _ _ _ _ i wr => ∃ k : Nat, k ≤ 1 ∧ i = .int .i64 k ∧ Fr nothing w1 wr) (fun _ _ _ _ _ i _ => 1 - (intOf i).toNat)
  case atStart => exact ⟨0, by omega, rfl, HB2.out⟩
  case round =>
    obtain ⟨k, hk, rfl, hB⟩ := hrel
    rcases (by omega : k = 0 ∨ k = 1) with rfl | rfl
    · have HBk := Lib.hid hB
      obtain ⟨q0, q1, q2⟩ := ZT.out wr hB
      have r0 : wr.cell? ⟨w.heap.size, 0, none⟩ = some (.int .i64 n) := obj_cell (hB.obj HF.out.1 fun e => e) 0 rfl
      have r1 : wr.cell? ⟨w.heap.size, 1, none⟩ = some (.slice sa s sc) := obj_cell (hB.obj HF.out.1 fun e => e) 1 rfl
      have r2 : wr.cell? ⟨ga, 0, none⟩ = some (.slice na n nc) := (HB.out.trans hB).cell HF.out.2.2.2.1 fun e => e
      have r3 : wr.cell? ⟨gg, 0, none⟩ = some (.slice ia m ic) := (HB.out.trans hB).cell HF.out.2.2.2.2 fun e => e
      have HC := Lib.hid (hG.out wr (w.heap.size + 2) (HB.out.trans hB) (hB.obj HF.out.2.2.1 fun e => e))
      clear hB hk
      go_upto_region 11 with (go_at_call 75; refine HC.out.mono ?_; rintro e w3 ⟨rfl, hb3⟩)
      have HB3 := Lib.hid (HBk.out.trans (Fr.new hb3))
      clear q0 q1 q2 r0 r1 r2 r3 hb3
      generalize wr = wA at *
      go_loopw [9, 10, 73] (fun _ _ i wr => ∃ j : Nat, j ≤ n ∧ i = .int .i64 j ∧ Fr nothing w1 wr) (fun _ _ i _ => n - (intOf i).toNat)
      case atStart => exact ⟨0, Nat.zero_le _, rfl, HB3.out⟩
      case round =>
        obtain ⟨j, hj, rfl, hB⟩ := hrel
        by_cases hlt : j < n
        · have hj1 : j < row.length := by rw [HNN.out]; exact hlt
          have hra2 := HA.out.fr (HB.out.trans hB)
          obtain ⟨rb, ro, rfl, _, _, _, hcs⟩ := Rows'.at hra2 hj1
          obtain ⟨q0, q1, q2⟩ := ZT.out wr hB
          have l0 : ∀ ob, (wr.alloc ob).cell? ⟨w.heap.size + 2, 0, none⟩ = some (.int .i64 n) := fun ob => obj_cell ((hB.trans (Fr.alloc wr ob)).obj HF.out.2.2.1 fun e => e) 0 rfl
          have l1 : ∀ ob, (wr.alloc ob).cell? ⟨w.heap.size + 2, 1, none⟩ = some (.slice sa s sc) := fun ob => obj_cell ((hB.trans (Fr.alloc wr ob)).obj HF.out.2.2.1 fun e => e) 1 rfl
          have l2 : ∀ ob, (wr.alloc ob).cell? ⟨w.heap.size + 2, 2, none⟩ = some (.slice pa p pc) := fun ob => obj_cell ((hB.trans (Fr.alloc wr ob)).obj HF.out.2.2.1 fun e => e) 2 rfl
          have l3 : ∀ ob, (wr.alloc ob).cell? ⟨w.heap.size + 2, 3, none⟩ = some (.int .i64 1) := fun ob => obj_cell ((hB.trans (Fr.alloc wr ob)).obj HF.out.2.2.1 fun e => e) 3 rfl
          have HL1 := Lib.hid (HL.out _ (List.getElem_mem hj1))
          have HBr := Lib.hid hB
          generalize row[j] = x at *
          obtain ⟨kind, dst⟩ := x
          have s0 := hcs 0 (by simp [acCells])
          have s1 := hcs 1 (by simp [acCells])
          simp only [acCells, List.getElem_cons_zero, List.getElem_cons_succ, Nat.add_zero] at s0 s1
          clear hra2 hB hcs
          go_wp2_with (go_at_call 77; refine (HL1.out _ _).mono ?_; rintro e w4 ⟨rfl, hb4⟩)
          go_roundw
          case rel => exact ⟨j + 1, by omega, by simp, (HBr.out.trans (Fr.alloc _ _)).trans (Fr.new hb4)⟩
          case measure => simp [intOf]; omega
        · obtain rfl : j = n := by omega
          clear hlt
          go_wp2
          go_roundw
          case rel => exact ⟨1, by omega, by simp, hB⟩
          case measure => simp [intOf]
    · go_wp2
      go_ret
      exact ⟨rfl, (HB.out.trans hB).below_new⟩
end Go.Proofs.Ytehaoiimhgkckaa
