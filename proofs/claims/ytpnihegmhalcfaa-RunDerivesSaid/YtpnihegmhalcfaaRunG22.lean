/-
  Run's documents: where a state goes with a symbol; whether a number is among others.
  gristmillref21: where an item stands.
  gristmillref18: rising, Of; gristmillref20: Used.
  gristmillref18: Of.
  gristmillref21 in plain Lean: sets of terminals of each item of each state, as long as some set grows; how they lie in memory; put.
-/
import Derived.Test.YtpnihegmhalcfaaRunG17
import Derived.Test.YtpnihegmhalcfaaRunG21
import Derived.Test.YtpnihegmhalcfaaRunG01
import Derived.Test.YtpnihegmhalcfaaRunG11
namespace Go.Proofs.Ytpnihegmhalcfaa
open Go.RowKit Go.MapKept Go.ChangeMaps
set_option maxHeartbeats 400000

/-- Where edges lead with a symbol; z: nowhere. -/
def toE (z : Int) (s : Int) : List (Int × Int) → Int
  | [] => z
  | x :: l => if x.1 = s then x.2 else toE z s l
theorem toE_hit {z s : Int} : ∀ {l : List (Int × Int)} {k : Nat} (hk : k < l.length), l[k].1 = s → (∀ j (h : j < l.length), j < k → l[j].1 ≠ s) → toE z s l = l[k].2
  | [], k, hk, _, _ => by simp at hk
  | x :: l, 0, _, h, _ => by
    unfold toE
    rw [if_pos (by simpa using h)]
    rfl
  | x :: l, k + 1, hk, h, hn => by
    unfold toE
    rw [if_neg (show ¬ x.1 = s from hn 0 (by simp) (by omega))]
    exact toE_hit (l := l) (k := k) (by simpa using hk) (by simpa using h) fun j hj hjk => (show l[j].1 ≠ s from hn (j + 1) (by simp; omega) (by omega))
theorem toE_none {z s : Int} : ∀ {l : List (Int × Int)}, (∀ j (h : j < l.length), l[j].1 ≠ s) → toE z s l = z
  | [], _ => rfl
  | x :: l, hn => by
    unfold toE
    rw [if_neg (show ¬ x.1 = s from hn 0 (by simp))]
    exact toE_none fun j hj => (hn (j + 1) (by simp; omega))
set_option maxRecDepth 100000 in
set_option maxHeartbeats 4000000 in
theorem to23_any (kv gv : Value) (l : List (Int × Int)) (s : Int) (w : World) (h : IsItems w gv l) :
    Calls Try.prog 61 #[.agg #[kv, gv], .int .i64 s] w fun e w' => e = .returned (.int .i64 (toE (-1) s l)) ∧ Below w.heap.size w w' := by
  obtain ⟨ga, gc, rfl, -, -, hgl⟩ := id h.parts
  have hk := Fr.alloc (ch := nothing) w (Obj.cells #[kv, .slice ga l.length gc] 106 (0, 0))
  have hob := alloc_obj w (Obj.cells #[kv, .slice ga l.length gc] 106 (0, 0))
  have HH := Lib.hid (h.fr hk)
  have HB := Lib.hid hk.below_new
  have c1 := obj_cell hob 1 (v := .slice ga l.length gc) rfl
  have HC := Lib.hid c1
  clear h hk hob
  obtain ⟨n, hn⟩ : ∃ n, l.length = n := ⟨_, rfl⟩
  rw [hn] at hgl HH HC c1 HB ⊢
  have HN := Lib.hid hn
  clear hn
  go_enter Try.func61, Try.ntmps61
  go_upto_region 1 with fail
  generalize w.alloc (Obj.cells #[kv, .slice ga n gc] 106 (0, 0)) = W1 at *
  go_wp2
  go_loopw [5] (fun i wr => ∃ k : Nat, k ≤ n ∧ i = .int .i64 (k : Int) ∧ (∀ j (h : j < l.length), j < k → l[j].1 ≠ s) ∧ W1 = wr) (fun i _ => n - (intOf i).toNat)
  case atStart => exact ⟨0, Nat.zero_le _, rfl, fun j _ h => absurd h (by omega), rfl⟩
  case round =>
    obtain ⟨k, hk, rfl, hno, rfl⟩ := hrel
    by_cases hlt : k < n
    · have hkl : k < l.length := by rw [HN.out]; exact hlt
      obtain ⟨b, o, rfl, d0, d1, -, -⟩ := HH.out.at hkl
      have hhit := fun (h : l[k].1 = s) => toE_hit (z := -1) hkl h hno
      have hstep : l[k].1 ≠ s → ∀ j (h : j < l.length), j < k + 1 → l[j].1 ≠ s := fun h j hj hjk => by
        by_cases e : j = k
        · subst e; exact h
        · exact hno j hj (by omega)
      have HX := Lib.hid (And.intro hhit hstep)
      clear hhit hstep hno
      generalize l[k] = x at *
      clear hkl
      obtain ⟨xa, xb⟩ := x
      simp only at d0 d1 HX
      by_cases hs : xa = s
      · have he := HX.out.1 hs
        have HE := Lib.hid he
        subst hs
        clear he HX
        go_wp2
        go_ret
        exact ⟨by rw [HE.out]; rfl, HB.out⟩
      · have hs' : (xa == s) = false := beq_eq_false_iff_ne.2 hs
        have HE := Lib.hid (HX.out.2 hs)
        clear hs HX
        go_wp2
        go_roundw
        case rel => exact ⟨k + 1, by omega, by simp, HE.out, trivial⟩
        case measure => simp [intOf]; omega
    · have he := toE_none (z := -1) (s := s) (l := l) fun j hj => hno j hj (by have := HN.out; omega)
      have HE := Lib.hid he
      clear he hno
      go_wp2
      go_ret
      exact ⟨by rw [HE.out]; rfl, HB.out⟩
set_option maxRecDepth 100000 in
set_option maxHeartbeats 4000000 in
theorem to21_any (kv gv : Value) (l : List (Int × Int)) (s : Int) (w : World) (h : IsItems w gv l) :
    Calls Try.prog 91 #[.agg #[kv, gv], .int .i64 s] w fun e w' => e = .returned (.int .i64 (toE 0 s l)) ∧ Below w.heap.size w w' := by
  obtain ⟨ga, gc, rfl, -, -, hgl⟩ := id h.parts
  have hk := Fr.alloc (ch := nothing) w (Obj.cells #[kv, .slice ga l.length gc] 106 (0, 0))
  have hob := alloc_obj w (Obj.cells #[kv, .slice ga l.length gc] 106 (0, 0))
  have HH := Lib.hid (h.fr hk)
  have HB := Lib.hid hk.below_new
  have c1 := obj_cell hob 1 (v := .slice ga l.length gc) rfl
  have HC := Lib.hid c1
  clear h hk hob
  obtain ⟨n, hn⟩ : ∃ n, l.length = n := ⟨_, rfl⟩
  rw [hn] at hgl HH HC c1 HB ⊢
  have HN := Lib.hid hn
  clear hn
  go_enter Try.func91, Try.ntmps91
  go_upto_region 1 with fail
  generalize w.alloc (Obj.cells #[kv, .slice ga n gc] 106 (0, 0)) = W1 at *
  go_wp2
  go_loopw [5] (fun i wr => ∃ k : Nat, k ≤ n ∧ i = .int .i64 (k : Int) ∧ (∀ j (h : j < l.length), j < k → l[j].1 ≠ s) ∧ W1 = wr) (fun i _ => n - (intOf i).toNat)
  case atStart => exact ⟨0, Nat.zero_le _, rfl, fun j _ h => absurd h (by omega), rfl⟩
  case round =>
    obtain ⟨k, hk, rfl, hno, rfl⟩ := hrel
    by_cases hlt : k < n
    · have hkl : k < l.length := by rw [HN.out]; exact hlt
      obtain ⟨b, o, rfl, d0, d1, -, -⟩ := HH.out.at hkl
      have hhit := fun (h : l[k].1 = s) => toE_hit (z := 0) hkl h hno
      have hstep : l[k].1 ≠ s → ∀ j (h : j < l.length), j < k + 1 → l[j].1 ≠ s := fun h j hj hjk => by
        by_cases e : j = k
        · subst e; exact h
        · exact hno j hj (by omega)
      have HX := Lib.hid (And.intro hhit hstep)
      clear hhit hstep hno
      generalize l[k] = x at *
      clear hkl
      obtain ⟨xa, xb⟩ := x
      simp only at d0 d1 HX
      by_cases hs : xa = s
      · have he := HX.out.1 hs
        have HE := Lib.hid he
        subst hs
        clear he HX
        go_wp2
        go_ret
        exact ⟨by rw [HE.out]; rfl, HB.out⟩
      · have hs' : (xa == s) = false := beq_eq_false_iff_ne.2 hs
        have HE := Lib.hid (HX.out.2 hs)
        clear hs HX
        go_wp2
        go_roundw
        case rel => exact ⟨k + 1, by omega, by simp, HE.out, trivial⟩
        case measure => simp [intOf]; omega
    · have he := toE_none (z := 0) (s := s) (l := l) fun j hj => hno j hj (by have := HN.out; omega)
      have HE := Lib.hid he
      clear he hno
      go_wp2
      go_ret
      exact ⟨by rw [HE.out]; rfl, HB.out⟩
set_option maxRecDepth 100000 in
set_option maxHeartbeats 4000000 in
theorem has23_any (v : Value) (xs : List Int) (n : Int) (w : World) (h : Ints w v xs) :
    Calls Try.prog 93 #[v, .int .i64 n] w fun e w' => e = .returned (.bool (decide (n ∈ xs))) ∧ w = w' := by
  have HH := Lib.hid h
  obtain ⟨-, hl, a, c, rfl, -, -, -⟩ := id h
  clear h
  obtain ⟨N, hN⟩ : ∃ N, xs.length = N := ⟨_, rfl⟩
  rw [hN] at hl HH ⊢
  have HN := Lib.hid hN
  clear hN
  go_enter Try.func93, Try.ntmps93
  go_wp2
  go_loopw [5] (fun i wr => ∃ k : Nat, k ≤ N ∧ i = .int .i64 (k : Int) ∧ (∀ j (h : j < xs.length), j < k → xs[j] ≠ n) ∧ w = wr) (fun i _ => N - (intOf i).toNat)
  case atStart => exact ⟨0, Nat.zero_le _, rfl, fun j _ h => absurd h (by omega), rfl⟩
  case round =>
    obtain ⟨k, hk, rfl, hno, rfl⟩ := hrel
    by_cases hlt : k < N
    · have hkl : k < xs.length := by rw [HN.out]; exact hlt
      obtain ⟨b, o, rfl, -, -, d0, -⟩ := intsAt HH.out hkl
      have hhit : xs[k] = n → decide (n ∈ xs) = true := fun h => decide_eq_true (h ▸ List.getElem_mem hkl)
      have hstep : xs[k] ≠ n → ∀ j (h : j < xs.length), j < k + 1 → xs[j] ≠ n := fun h j hj hjk => by
        by_cases e : j = k
        · subst e; exact h
        · exact hno j hj (by omega)
      have HX := Lib.hid (And.intro hhit hstep)
      clear hhit hstep hno
      generalize xs[k] = x at *
      clear hkl
      by_cases hs : x = n
      · have HE := Lib.hid (HX.out.1 hs)
        have hs' : (x == n) = true := by simp [hs]
        clear hs HX
        go_wp2
        go_ret
        exact ⟨by rw [HE.out]; rfl, rfl⟩
      · have hs' : (x == n) = false := beq_eq_false_iff_ne.2 hs
        have HE := Lib.hid (HX.out.2 hs)
        clear hs HX
        go_wp2
        go_roundw
        case rel => exact ⟨k + 1, by omega, by simp, HE.out, trivial⟩
        case measure => simp [intOf]; omega
    · have hd : decide (n ∈ xs) = false := decide_eq_false fun hm => by
        obtain ⟨j, hj, e⟩ := List.getElem_of_mem hm
        exact hno j hj (by have := HN.out; omega) e
      have HE := Lib.hid hd
      clear hd hno
      go_wp2
      go_ret
      exact ⟨by rw [HE.out]; rfl, rfl⟩
end Go.Proofs.Ytpnihegmhalcfaa
namespace Go.Proofs.Ytpnihegmhalcfaa
open Go.RowKit Go.MapKept Go.ChangeMaps
set_option maxHeartbeats 400000

/-- Where an item stands among others; none: nowhere. -/
def placeI (L : List It) (x : It) : Option Nat := L.findIdx? fun y => decide (y = x)
theorem placeI_some {L : List It} {x : It} {k : Nat} (hk : k < L.length) (h : L[k] = x) (hn : ∀ j (h : j < L.length), j < k → L[j] ≠ x) : placeI L x = some k :=
  List.findIdx?_eq_some_iff_getElem.2 ⟨hk, decide_eq_true h, fun j hj => by simpa using hn j (by omega) hj⟩
theorem placeI_none {L : List It} {x : It} (hn : ∀ j (h : j < L.length), L[j] ≠ x) : placeI L x = none :=
  List.findIdx?_eq_none_iff.2 fun y hy => by
    obtain ⟨j, hj, rfl⟩ := List.getElem_of_mem hy
    simpa using hn j hj
def placeZ (L : List It) (x : It) : Int := match placeI L x with | some k => (k : Int) | none => -1
set_option maxRecDepth 100000 in
set_option maxHeartbeats 4000000 in
theorem place21_any (p : Nat) (lv sv : Value) (L : List It) (x : It) (w : World) (hob : w.heap[p]? = some (.cells #[lv, sv] 117 (0, 0))) (h : IsItems w lv L) :
    Calls Try.prog 57 #[.pointer (some ⟨p, 0, none⟩), itVal x] w fun e w' => e = .returned (.int .i64 (placeZ L x)) ∧ Below w.heap.size w w' := by
  obtain ⟨la, lc, rfl, -, -, hll⟩ := id h.parts
  obtain ⟨xa, xb⟩ := x
  have hk := Fr.alloc (ch := nothing) w (Obj.cells #[.int .i64 xa, .int .i64 xb] 102 (0, 0))
  have hxb := alloc_obj w (Obj.cells #[.int .i64 xa, .int .i64 xb] 102 (0, 0))
  have x0 := obj_cell hxb 0 (v := .int .i64 xa) rfl
  have x1 := obj_cell hxb 1 (v := .int .i64 xb) rfl
  have c0 := hk.cell (obj_cell hob 0 (v := .slice la L.length lc) rfl) id
  have HH := Lib.hid (h.fr hk)
  have HB := Lib.hid hk.below_new
  clear h hk hxb hob
  obtain ⟨n, hn⟩ : ∃ n, L.length = n := ⟨_, rfl⟩
  rw [hn] at hll HH c0
  have HN := Lib.hid hn
  clear hn
  unfold itVal
  go_enter Try.func57, Try.ntmps57
  go_upto_region 1 with fail
  generalize w.alloc (Obj.cells #[.int .i64 xa, .int .i64 xb] 102 (0, 0)) = W1 at *
  go_wp2
  go_loopw [5] (fun i wr => ∃ k : Nat, k ≤ n ∧ i = .int .i64 (k : Int) ∧ (∀ j (h : j < L.length), j < k → L[j] ≠ (xa, xb)) ∧ ∃ m, wr = W1.drewN m) (fun i _ => n - (intOf i).toNat)
  case atStart => exact ⟨0, Nat.zero_le _, rfl, fun j _ h => absurd h (by omega), 0, rfl⟩
  case round =>
    obtain ⟨k, hk, rfl, hno, m, hwm⟩ := hrel
    have hfr : Fr nothing W1 wr := by rw [hwm]; exact Fr.drewN _ _
    have c0 := hfr.cell c0 id
    have x0 := hfr.cell x0 id
    have x1 := hfr.cell x1 id
    have HW := Lib.hid (And.intro hwm hfr)
    clear hwm hfr
    by_cases hlt : k < n
    · have hkl : k < L.length := by rw [HN.out]; exact hlt
      obtain ⟨b, o, rfl, d0, d1, -, -⟩ := (HH.out.fr HW.out.2).at hkl
      have hhit := fun (h : L[k] = (xa, xb)) => placeI_some hkl h hno
      have hstep : L[k] ≠ (xa, xb) → ∀ j (h : j < L.length), j < k + 1 → L[j] ≠ (xa, xb) := fun h j hj hjk => by
        by_cases e : j = k
        · subst e; exact h
        · exact hno j hj (by omega)
      have heq := fun w => eqItem L[k] (xa, xb) w
      have HX := Lib.hid (And.intro hhit hstep)
      clear hhit hstep hno
      generalize L[k] = y at *
      clear hkl
      by_cases hs : y = (xa, xb)
      · have he := HX.out.1 hs
        have HE := Lib.hid he
        rw [decide_eq_true hs] at heq
        clear he HX
        subst hs
        unfold itVal at heq
        simp only at d0 d1 heq
        go_upto_region 4 with fail
        go_quiet (fail)
        go_wp2
        go_ret
        exact ⟨by unfold placeZ; rw [HE.out]; rfl, HB.out.trans (((HW.out.2.trans (Fr.drewN _ _)).below_new).mono HB.out.size)⟩
      · have HE := Lib.hid (HX.out.2 hs)
        rw [decide_eq_false hs] at heq
        clear hs HX
        obtain ⟨ya, yb⟩ := y
        unfold itVal at heq
        simp only at d0 d1 heq
        go_upto_region 4 with fail
        go_quiet (fail)
        go_wp2
        go_roundw
        case rel => exact ⟨k + 1, by omega, by simp, HE.out, _, by rw [HW.out.1, World.drewN_drewN]⟩
        case measure => simp [intOf]; omega
    · have he := placeI_none (L := L) (x := (xa, xb)) fun j hj => hno j hj (by have := HN.out; omega)
      have HE := Lib.hid he
      clear he hno
      go_wp2
      go_ret
      exact ⟨by unfold placeZ; rw [HE.out]; rfl, HB.out.trans (HW.out.2.below_new.mono HB.out.size)⟩
end Go.Proofs.Ytpnihegmhalcfaa
namespace Go.Proofs.Ytpnihegmhalcfaa
open Go.RowKit
set_option maxHeartbeats 400000

set_option maxRecDepth 100000 in
set_option maxHeartbeats 4000000 in
theorem rising18_any (b : Nat) (L : List Bool) (w : World) (h : w.heap[b]? = some (boolsObj L)) (hl : L.length ≤ 100000) :
    Calls Try.prog 102 #[.slice (some ⟨b, 0, none⟩) L.length L.length] w fun e w' => ∃ r, e = .returned r ∧ OwnInts w w' r (trueIx L L.length) := by
  obtain ⟨i0, hi, hz0, hz1, hz2⟩ := info_parts Try.infoInt'
  have HH := Lib.hid h
  clear h
  obtain ⟨n, hn⟩ : ∃ n, L.length = n := ⟨_, rfl⟩
  rw [hn] at hl ⊢
  have HN := Lib.hid hn
  clear hn
  go_enter Try.func102, Try.ntmps102
  go_wp2
  go_loopw [3, 4] (fun o i wr => ∃ k : Nat, k ≤ n ∧ i = .int .i64 (k : Int) ∧ wr.ownsRow w.heap.size 3 1 o (trueIx L k).length ((trueIx L k).map (Value.int .i64)) ∧ Below w.heap.size w wr) (fun _ i _ => n - (intOf i).toNat)
  case atStart => exact ⟨0, Nat.zero_le _, rfl, World.ownsRow_nil _ _ _ _, Below.refl _ _⟩
  case round =>
    obtain ⟨k, hk, rfl, hown, hb⟩ := hrel
    by_cases hlt : k < n
    · have hkl : k < L.length := by rw [HN.out]; exact hlt
      have c0 := bools_cell ((Fr.new hb).obj HH.out id) k hkl
      have hsu := trueIx_succ L k
      have he : L.getD k false = L[k] := by rw [List.getD_eq_getElem?_getD, List.getElem?_eq_getElem hkl]; rfl
      rw [he] at hsu
      have hlen := trueIx_len L k
      generalize L[k] = c at *
      clear he hkl
      cases c
      · have HE := Lib.hid (And.intro hsu (And.intro hown hb))
        clear hsu hown hb
        go_wp2
        go_roundw
        case rel => exact ⟨k + 1, by omega, by simp, by rw [HE.out.1]; exact HE.out.2.1, HE.out.2.2⟩
        case measure => simp [intOf]; omega
      · rw [if_pos rfl] at hsu
        obtain ⟨qa, qc, rfl, -, -, -⟩ := own_as_cells hown
        generalize hml : (trueIx L k).length = mn at *
        have hown2 := hown.alloc (Obj.cells #[.int .i64 (k : Int)] 3 (0, 0))
        have hna := one_news (alloc_obj wr (Obj.cells #[.int .i64 (k : Int)] 3 (0, 0)))
        have hBa : w.heap.size ≤ (wr.alloc (Obj.cells #[.int .i64 (k : Int)] 3 (0, 0))).heap.size := by have := hb.size; simp; omega
        have HE := Lib.hid (And.intro hsu (And.intro hown (And.intro hb hml)))
        clear hsu hown hb hml
        go_wp2_with (at_builtin; refine wpList_append_lies _ rfl _ _ 30 rfl w.heap.size 3 i0 _ 1 8 Try.underlying30 hi hz0 hz1 hz2 rfl (by decide) (.slice qa mn qc) _ _ rfl hown2 ⟨wr.heap.size, 0, none⟩ 1 1 [.int .i64 (k : Int)] rfl rfl hna (by simp [Value.oneCell']) (by omega) (by unfold maxLen; omega) (by omega) hBa _ rfl ?_
                     intro g cap w4 hown4 hgrow4 hat4 hlt4)
        go_roundw
        case rel =>
          obtain ⟨hsu, hown, hb, hml⟩ := HE.out
          have k4 : Fr (fun b => (Value.slice qa mn qc).ownBlock = some b) wr w4 := (Fr.alloc _ _).trans (Fr.grown hgrow4)
          refine ⟨k + 1, by omega, by simp, ?_, hb.trans (k4.below hb.size fun g e => (ownObj hown g e).1)⟩
          rw [hsu, List.length_append, List.map_append, hml]
          exact hown4
        case measure => simp [intOf]; omega
    · obtain rfl : k = n := by omega
      have HE := Lib.hid (And.intro hown hb)
      clear hown hb
      go_wp2
      go_ret
      exact ⟨_, rfl, HE.out.1, HE.out.2⟩

noncomputable def usedG (G : Gram) : Bool := (List.range G.syms.length).all fun i => decide ((i : Int) < G.terms) || (makesL G).getD i false
set_option maxRecDepth 100000 in
set_option maxHeartbeats 4000000 in
theorem used20_any (G : Gram) (v : Value) (w : World) (h : IsGram w v G) (hr : rightG G = true) :
    Calls Try.prog 53 #[v] w fun e w' => e = .returned (.bool (usedG G)) ∧ Below w.heap.size w w' := by
  have hG := h
  obtain ⟨hterms, vs, vp, rfl, hs, hp⟩ := h
  obtain ⟨-, sa, sc, rfl, -, -, -⟩ := id hs
  obtain ⟨-, pa, pc, rfl, -, -, -⟩ := id hp
  have hS0 : Stands w.heap.size w G sa pa sc pc (w.alloc (grO G sa pa sc pc)) := ⟨alloc_obj _ _, hG.fr (Fr.alloc _ _), (Below.refl _ w).alloc (Nat.le_refl _) _⟩
  have HS0 := Lib.hid hS0
  have hn1 := (rightG_parts hr).1
  obtain ⟨tn, htn⟩ : ∃ tn : Nat, G.terms = (tn : Int) := ⟨G.terms.toNat, by omega⟩
  have HTN := Lib.hid htn
  have htn1 : tn ≤ 64 := by omega
  have htnl : tn < G.syms.length := by omega
  have hnl1 : G.syms.length ≤ 128 := by omega
  clear hS0 hs hp hG htn hn1
  go_enter Try.func53, Try.ntmps53
  go_upto_region 1 with fail
  unfold grO at HS0
  generalize hw1 : w.alloc (Obj.cells #[.int .i64 G.terms, .slice sa G.syms.length sc, .slice pa G.prods.length pc] 25 (0, 0)) = W1 at *
  clear hw1
  have HM := Lib.hid (makes16_any G _ W1 HS0.out.gram)
  unfold grV at HM
  have d0 := HS0.out.d0
  have d1 := HS0.out.d1
  have d2 := HS0.out.d2
  go_upto_region 2 with (go_at_call 89; refine HM.out.mono ?_; rintro e w2 ⟨r, rfl, hans⟩)
  rcases hans with ⟨-, b, rfl, hbs, hbo, hbel⟩ | ⟨h, -⟩
  · have hS2 := HS0.out.keep hbel
    have hml := makesL_len G
    have HS2 := Lib.hid (And.intro hS2 (And.intro hbo hml))
    clear d0 d1 d2 HM hbel hbs hbo
    have d0 := hS2.d0
    have d1 := hS2.d1
    rw [HTN.out] at d0
    rw [hml]
    clear hS2 hml
    go_wp2
    go_loopw [4] (fun i wr => ∃ k : Nat, k ≤ G.syms.length ∧ tn ≤ k ∧ i = .int .i64 (k : Int) ∧ (∀ j, tn ≤ j → j < k → (makesL G).getD j false = true) ∧ w2 = wr) (fun i _ => G.syms.length - (intOf i).toNat)
    case atStart => exact ⟨tn, by omega, Nat.le_refl _, rfl, fun j h1 h2 => by omega, rfl⟩
    case round =>
      obtain ⟨k, hk, htk, rfl, hall, rfl⟩ := hrel
      by_cases hlt : k < G.syms.length
      · have hkm : k < (makesL G).length := by rw [HS2.out.2.2]; exact hlt
        have c0 := bools_cell HS2.out.2.1 k hkm
        have he : (makesL G).getD k false = (makesL G)[k] := by rw [List.getD_eq_getElem?_getD, List.getElem?_eq_getElem hkm]; rfl
        generalize (makesL G)[k] = c at *
        cases c
        · have hu : usedG G = false := by
            unfold usedG
            rw [List.all_eq_false]
            refine ⟨k, List.mem_range.2 hlt, ?_⟩
            rw [he, HTN.out]
            simp
            omega
          have HU := Lib.hid hu
          clear hu he hall hkm
          go_wp2
          go_ret
          exact ⟨by rw [HU.out]; rfl, HS2.out.1.below⟩
        · have hall2 : ∀ j, tn ≤ j → j < k + 1 → (makesL G).getD j false = true := fun j h1 h2 => by
            by_cases e : j = k
            · subst e; exact he
            · exact hall j h1 (by omega)
          have HA := Lib.hid hall2
          clear hall hall2 he hkm
          go_wp2
          go_roundw
          case rel => exact ⟨k + 1, by omega, by omega, by simp, HA.out, trivial⟩
          case measure => simp [intOf]; omega
      · obtain rfl : k = G.syms.length := by omega
        have hu : usedG G = true := by
          unfold usedG
          rw [List.all_eq_true]
          intro j hj
          have hj := List.mem_range.1 hj
          by_cases e : tn ≤ j
          · rw [hall j e hj, Bool.or_true]
          · rw [decide_eq_true (by rw [HTN.out]; omega), Bool.true_or]
        have HU := Lib.hid hu
        clear hu hall
        go_wp2
        go_ret
        exact ⟨by rw [HU.out]; rfl, HS2.out.1.below⟩
  · rw [hr] at h
    cases h
end Go.Proofs.Ytpnihegmhalcfaa
namespace Go.Proofs.Ytpnihegmhalcfaa
open Go.RowKit
set_option maxHeartbeats 400000


theorem ofAll_drop {nl : List Bool} {A : List (List Bool)} {row : List Int} {k : Nat} (hk : k < row.length) (all : List Bool) : ofAll nl A (row.drop k) all = if nl.getD row[k].toNat false then ofAll nl A (row.drop (k + 1)) (orB all (A.getD row[k].toNat [])) else (orB all (A.getD row[k].toNat []), false) := by
  rw [List.drop_eq_getElem_cons hk]
  rfl
set_option maxRecDepth 100000 in
set_option maxHeartbeats 8000000 in
theorem of18_any (G : Gram) (v rv : Value) (row : List Int) (t : Nat) (w : World) (h : IsGram w v G) (hr : rightG G = true) (hrow : Ints w rv row) (hin : ∀ x ∈ row, 0 ≤ x ∧ x < (G.syms.length : Int)) (ht : (t : Int) < G.terms) :
    Calls Try.prog 92 #[v, rv, .int .i64 (t : Int)] w fun e w' => ∃ r, e = .returned r ∧ OwnInts w w' r (of18L G row t) := by
  have hG := h
  obtain ⟨hterms, vs, vp, rfl, hs, hp⟩ := h
  obtain ⟨-, sa, sc, rfl, -, -, -⟩ := id hs
  obtain ⟨-, pa, pc, rfl, -, -, -⟩ := id hp
  obtain ⟨-, hrl, ra, rc, rfl, -, -, -⟩ := id hrow
  have hS0 : Stands w.heap.size w G sa pa sc pc (w.alloc (grO G sa pa sc pc)) := ⟨alloc_obj _ _, hG.fr (Fr.alloc _ _), (Below.refl _ w).alloc (Nat.le_refl _) _⟩
  have HS0 := Lib.hid hS0
  have hgin := right_in hr
  have HLF := Lib.hid (And.intro (nullL_len hgin) (And.intro (hasL_fits hgin (nullL G)) hin))
  have hn1 := (rightG_parts hr).1
  obtain ⟨tn, htn⟩ : ∃ tn : Nat, G.terms = (tn : Int) := ⟨G.terms.toNat, by omega⟩
  have htn' : G.terms.toNat = tn := by omega
  rw [htn'] at HLF
  have HTN := Lib.hid (And.intro htn htn')
  have htn1 : tn ≤ 64 := by omega
  have htnl : tn < G.syms.length := by omega
  have hnl1 : G.syms.length ≤ 128 := by omega
  have htt : t < tn := by omega
  have HR := Lib.hid hr
  have HROW := Lib.hid hrow
  have HFIN := Lib.hid (show of18L G row t = trueIx (let r := ofAll (nullL G) (hasL G (nullL G)) row (List.replicate tn false); if r.2 then r.1.set t true else r.1) tn by
    unfold of18L ofB
    rw [htn']
    simp)
  obtain ⟨i0, hi, hz0, hz1, hz2⟩ := info_parts Try.infoBool
  clear hS0 hs hp hG htn hgin hin hn1 htn' ht hrow
  obtain ⟨m, hm⟩ : ∃ m, row.length = m := ⟨_, rfl⟩
  rw [hm] at hrl HROW ⊢
  have HM := Lib.hid hm
  clear hm
  go_enter Try.func92, Try.ntmps92
  go_upto_region 1 with fail
  unfold grO at HS0
  generalize hw1 : w.alloc (Obj.cells #[.int .i64 G.terms, .slice sa G.syms.length sc, .slice pa G.prods.length pc] 25 (0, 0)) = W1 at *
  clear hw1
  have HRT := Lib.hid (right14_gram G _ W1 HS0.out.gram)
  unfold grV at HRT
  rw [hr] at HRT
  have d0 := HS0.out.d0
  have d1 := HS0.out.d1
  have d2 := HS0.out.d2
  have q1 : ¬ (t : Int) < -1 := by omega
  have q2 : ¬ tn ≤ t := by omega
  rw [HTN.out.1] at d0 HRT
  go_upto_region 2 with (go_at_call 48; refine HRT.out.mono ?_; rintro e w2 ⟨rfl, hb2⟩; have hS2 := HS0.out.keep hb2; have d0 := hS2.d0; rw [HTN.out.1] at d0)
  have HS2 := Lib.hid hS2
  have d1 := hS2.d1
  clear hS2 hb2 HRT HS0 d2 q1 q2
  go_loopw [7] (fun i wr => ∃ k : Nat, k ≤ m ∧ i = .int .i64 (k : Int) ∧ ∃ q, wr = w2.drewN q) (fun i _ => m - (intOf i).toNat)
  case atStart => exact ⟨0, Nat.zero_le _, rfl, 0, rfl⟩
  case round =>
    obtain ⟨k, hk, rfl, q, hq⟩ := hrel
    have hfr : Fr nothing w2 wr := by rw [hq]; exact Fr.drewN _ _
    have HQ := Lib.hid (And.intro hq hfr)
    have d0 := hfr.cell d0 id
    have d1 := hfr.cell d1 id
    clear hq
    by_cases hlt : k < m
    · have hkr : k < row.length := by rw [HM.out]; exact hlt
      obtain ⟨rb, ro, rfl, -, -, r0, -⟩ := intsAt (HROW.out.fr ((Fr.new HS2.out.below).trans hfr)) hkr
      have hx := HLF.out.2.2 _ (List.getElem_mem hkr)
      clear hfr
      generalize row[k] = x at *
      obtain ⟨xn, rfl⟩ : ∃ xn : Nat, x = xn := ⟨x.toNat, by omega⟩
      have hxn : xn < G.syms.length := by omega
      have q1 : ¬ (xn : Int) < 0 := by omega
      have q2 : ¬ G.syms.length ≤ xn := by omega
      have q1' : decide ((xn : Int) < 0) = false := decide_eq_false (by omega)
      have q2' : decide (G.syms.length ≤ xn) = false := decide_eq_false (by omega)
      clear hx hkr
      go_upto_region 6 with fail
      go_quiet (fail)
      go_wp2
      go_roundw
      case rel => exact ⟨k + 1, by omega, by simp, _, by rw [HQ.out.1, World.drewN_drewN]⟩
      case measure => simp [intOf]; omega
    · have hS3 := HS2.out.keep hfr.below_new
      have HS3 := Lib.hid hS3
      have hsz := hS3.below.size
      clear hfr d0 d1 HS2 HQ
      generalize wr = w3 at *
      have HNU := Lib.hid (nullable_any G _ w3 hS3.gram HR.out)
      unfold grV at HNU
      have d0 := hS3.d0
      have d1 := hS3.d1
      have d2 := hS3.d2
      rw [HTN.out.1] at d0 HNU
      clear hS3
      go_upto_region 9 with (go_at_call 100; refine HNU.out.mono ?_; rintro e w4 ⟨r, rfl, nb, rfl, hnb1, hnb2, hbel⟩)
      have hS4 := HS3.out.keep hbel
      have HS4 := Lib.hid (And.intro hS4 hnb2)
      have HHS := Lib.hid (has18_any G _ nb (nullL G) w4 hS4.gram HR.out hnb2 HLF.out.1)
      unfold grV at HHS
      rw [HTN.out.2, HTN.out.1] at HHS
      have hnl := HLF.out.1
      rw [hnl]
      have hnbl : nb < w4.heap.size := (Array.getElem?_eq_some_iff.1 hnb2).1
      clear HNU HS3 hbel hnb2 hnb1 d0 d1 d2 hnl
      have d0 := hS4.d0
      have d1 := hS4.d1
      have d2 := hS4.d2
      rw [HTN.out.1] at d0
      clear hS4
      go_upto_region 10 with (go_at_call 101; refine HHS.out.mono ?_; rintro e w5 ⟨B, r, bs, rfl, hB, hT, hbel⟩)
      have hS5 := HS4.out.1.keep hbel
      have hnb5 := (Fr.new hbel).obj HS4.out.2 id
      clear HHS d0 d1 d2
      have d0 := hS5.d0
      rw [HTN.out.1] at d0
      have HS5 := Lib.hid (And.intro hS5 (And.intro hnb5 hT))
      have hltT := hT.lt
      have hblen : bs.length = G.syms.length := by rw [← hT.fits.1]; exact HLF.out.2.1.1
      obtain ⟨oa, oc, rfl, -, -, -⟩ := own_as_cells hT.own
      have hnb5l : nb < w5.heap.size := (Array.getElem?_eq_some_iff.1 hnb5).1
      have hw5l : w.heap.size < w5.heap.size := (Array.getElem?_eq_some_iff.1 hS5.obj).1
      rw [hblen]
      clear hS5 hnb5 hT hbel HS4 hB hnbl
      go_upto_region 11 with (at_make; refine wpList_make_full _ rfl _ _ 118 rfl w5.heap.size 4 i0 (.bool false) 1 Try.underlying118 hi hz0 hz1 .i64 .i64 _ _ tn rfl rfl rfl rfl (by rw [hz2]; omega) (by unfold maxLen; omega) (Nat.le_refl _) ?_; intro W hown hgrow)
      have hb := made_bools hown
      have kW : Fr nothing w5 W := (Fr.grown hgrow).mono fun _ _ e => by cases e
      have hSW := HS5.out.1.keep kW.below_new
      have hnbW := kW.obj HS5.out.2.1 id
      have hTW := HS5.out.2.2.keep kW
      obtain ⟨ab, habe⟩ : ∃ ab, w5.heap.size = ab := ⟨_, rfl⟩
      rw [habe] at hb hltT hnb5l hw5l ⊢
      have habW : ab < W.heap.size := (Array.getElem?_eq_some_iff.1 hb).1
      have hrowW := HROW.out.fr (Fr.new hSW.below)
      have HW := Lib.hid (And.intro hSW (And.intro hnbW (And.intro hTW (And.intro hrowW (And.intro hltT.1 hltT.2)))))
      have HB := Lib.hid hb
      clear hown hgrow hb kW hSW hnbW hTW hrowW HS5 habe hltT d0
      have hneT : ∀ b ∈ bs, b ≠ ab := fun b hb e => by have := HW.out.2.2.2.2.2 b hb; omega
      have HNE := Lib.hid hneT
      clear hneT
      rw [hblen] at HW
      generalize hF : ofAll (nullL G) (hasL G (nullL G)) row (List.replicate tn false) = F at *
      have HF := Lib.hid hF
      clear hF
      go_wp2
      go_loopw [11, 12] (fun i _ wr => ∃ (k : Nat) (all : List Bool), k ≤ m ∧ i = .int .i64 (k : Int) ∧ ofAll (nullL G) (hasL G (nullL G)) (row.drop k) all = F ∧ all.length = tn ∧ wr.heap[ab]? = some (boolsObj all) ∧ Fr (only ab) W wr) (fun i _ _ => m - (intOf i).toNat)
      case atStart => exact ⟨0, _, Nat.zero_le _, rfl, HF.out, by simp, HB.out, Fr.refl _ _⟩
      case round =>
        obtain ⟨k, all, hk, rfl, hFk, hal, hob, hkk⟩ := hrel
        clear HB
        have hTk := HW.out.2.2.1.off hkk (fun g hg e => by have e' : g = ab := e; have := HW.out.2.2.2.2.1 g hg; omega) (fun b hb e => HNE.out b hb e)
        by_cases hlt : k < m
        · have hkr : k < row.length := by rw [HM.out]; exact hlt
          obtain ⟨rb, ro, rfl, -, -, r0, -⟩ := intsAt HW.out.2.2.2.1 hkr
          have hrba : rb ≠ ab := fun e => by
            have h2 : ∀ (b o : Nat) (L : List Bool) (x : Int), wr.heap[b]? = some (boolsObj L) → wr.cell? ⟨b, o, none⟩ = some (.int .i64 x) → False := fun b o L x h1 h2 => by
              simp only [World.cell?, h1, boolsObj] at h2
              simp at h2
            have h3 := (intsAt HROW.out hkr)
            obtain ⟨rb', ro', e3, -, -, r3, -⟩ := h3
            simp only [Option.some.injEq, Addr.mk.injEq, and_true] at e3
            obtain ⟨rfl, rfl⟩ := e3
            have h4 := World.block_lt_of_cell? w _ r3
            simp only at h4
            omega
          have hx := HLF.out.2.2 _ (List.getElem_mem hkr)
          rw [ofAll_drop hkr] at hFk
          generalize row[k] = x at *
          obtain ⟨xn, rfl⟩ : ∃ xn : Nat, x = xn := ⟨x.toNat, by omega⟩
          have hxn : xn < G.syms.length := by omega
          rw [Int.toNat_natCast] at hFk
          have hxb : xn < bs.length := by rw [hblen]; exact hxn
          obtain ⟨og, oc', e, o1, -, -⟩ := hTk.at hxb
          rw [hblen] at e
          simp only [Value.slice.injEq, true_and] at e
          obtain ⟨rfl, rfl⟩ := e
          have hnll := HLF.out.1
          have hxnl : xn < (nullL G).length := by rw [hnll]; exact hxn
          have n0 := bools_cell ((hkk).obj HW.out.2.1 (show ¬ only ab nb from fun e => by have e' : nb = ab := e; omega)) xn hxnl
          have hnv : (nullL G).getD xn false = (nullL G)[xn] := by rw [List.getD_eq_getElem?_getD, List.getElem?_eq_getElem hxnl]; rfl
          rw [hnv] at hFk
          generalize (nullL G)[xn] = nv at *
          have hogl : og ≠ ab := fun e => by have := HW.out.2.2.2.2.1 og rfl; omega
          have HK := Lib.hid (And.intro hFk (And.intro hob (And.intro hkk (And.intro hrba (And.intro r0 (And.intro n0 (And.intro o1 (And.intro hogl (And.intro hTk hal)))))))))
          have hall := hal
          clear hFk hob hkk hrba r0 n0 o1 hogl hTk hal hx hnv hnll hxnl
          generalize hAX : (hasL G (nullL G)).getD xn [] = AX at *
          have HAX := Lib.hid hAX
          clear hAX
          generalize wr = wC at *
          go_wp2
          go_loopw [12] (fun i wq => ∃ t : Nat, t ≤ tn ∧ i = .int .i64 (t : Int) ∧ wq.heap[ab]? = some (boolsObj (orBto all AX t)) ∧ Fr (only ab) wC wq) (fun i _ => tn - (intOf i).toNat)
          case atStart => exact ⟨0, Nat.zero_le _, rfl, HK.out.2.1, Fr.refl _ _⟩
          case round =>
            obtain ⟨t2, ht, rfl, hobt, hkt⟩ := hrel
            have hkW := HK.out.2.2.1.trans hkt
            have d0 : wr.cell? ⟨w.heap.size, 0, none⟩ = some (.int .i64 (tn : Int)) := by
              rw [← HTN.out.1]
              exact obj_cell (hkW.obj HW.out.1.obj (show ¬ only ab w.heap.size from fun e => by have e' : w.heap.size = ab := e; omega)) 0 rfl
            by_cases hltt : t2 < tn
            · have r0 := hkW.cell HK.out.2.2.2.2.1 HK.out.2.2.2.1
              have o1 := hkt.cell HK.out.2.2.2.2.2.2.1 HK.out.2.2.2.2.2.2.2.1
              have b1 := hkt.cell (HK.out.2.2.2.2.2.2.2.2.1.bit hxb hltt) (HNE.out _ (List.getElem_mem hxb))
              have hlo : t2 < (orBto all AX t2).length := by rw [orBto_len, hall]; exact hltt
              have a0 := bools_cell hobt t2 hlo
              have f0 := obj_frozen hobt t2
              have hst := orBto_succ all AX t2
              have e1 : (orBto all AX t2).getD t2 false = (orBto all AX t2)[t2] := by rw [List.getD_eq_getElem?_getD, List.getElem?_eq_getElem hlo]; rfl
              have e2 : tt (hasL G (nullL G)) xn t2 = AX.getD t2 false := by unfold tt; rw [HAX.out]
              rw [e1] at hst
              rw [e2] at b1
              have hset := fun x => bools_set hobt t2 x
              have HE := Lib.hid (And.intro hst (And.intro hset (And.intro hkt hobt)))
              clear hst hset hkt hobt hkW e1 e2
              generalize (orBto all AX t2)[t2] = av at *
              generalize AX.getD t2 false = xv at *
              clear hlo
              generalize bs[xn] = bx at *
              cases av
              · go_wp2
                go_roundw
                case rel => exact ⟨t2 + 1, by omega, by simp, by rw [HE.out.1]; exact HE.out.2.1 _, HE.out.2.2.1.trans (Fr.setCell _ ⟨ab, t2, none⟩ _)⟩
                case measure => simp [intOf]; omega
              · go_wp2
                go_roundw
                case rel => exact ⟨t2 + 1, by omega, by simp, by rw [HE.out.1]; exact HE.out.2.1 _, HE.out.2.2.1.trans (Fr.setCell _ ⟨ab, t2, none⟩ _)⟩
                case measure => simp [intOf]; omega
            · obtain rfl : t2 = tn := by omega
              have hor : orBto all AX t2 = orB all AX := by unfold orB; rw [hall]
              rw [hor] at hobt
              have hFk := HK.out.1
              have r0 := hkW.cell HK.out.2.2.2.2.1 HK.out.2.2.2.1
              have n0 := hkt.cell HK.out.2.2.2.2.2.1 (show ¬ only ab nb from fun e => by have e' : nb = ab := e; omega)
              have hol : (orB all AX).length = t2 := by rw [orB_len, hall]
              cases nv
              · rw [if_neg (by decide)] at hFk
                have HRI := Lib.hid (rising18_any ab (orB all AX) wr hobt (by rw [hol]; omega))
                rw [hol] at HRI
                have hfin := HFIN.out
                rw [← hFk] at hfin
                have hbw : Below w.heap.size w wr := HW.out.1.below.trans (hkW.below HW.out.1.below.size fun g e => by have e' : g = ab := e; omega)
                have HE := Lib.hid (And.intro hfin hbw)
                clear hFk hobt hor hkt hkW hfin hbw hol hltt HK
                go_wp2_with (go_at_call 102; refine HRI.out.mono ?_; rintro e w9 ⟨r, rfl, hoi, hbe⟩)
                go_ret
                refine ⟨_, rfl, ?_, HE.out.2.trans (hbe.mono HE.out.2.size)⟩
                rw [HE.out.1]
                exact own_base hoi HE.out.2.size
              · rw [if_pos rfl] at hFk
                have HE := Lib.hid (And.intro hFk (And.intro hobt (And.intro hkW hol)))
                clear hFk hobt hor hkt hkW hol hltt HK
                go_wp2
                go_roundw
                case rel => exact ⟨k + 1, _, by omega, by simp, HE.out.1, HE.out.2.2.2, HE.out.2.1, HE.out.2.2.1⟩
                case measure => simp [intOf]; omega
        · obtain rfl : k = m := by omega
          have hdr : row.drop k = [] := List.drop_eq_nil_of_le (by have := HM.out; omega)
          rw [hdr] at hFk
          unfold ofAll at hFk
          have hfin := HFIN.out
          rw [← hFk] at hfin
          simp only [if_true] at hfin
          have a0 := bools_cell hob t (by rw [hal]; exact htt)
          have f0 := obj_frozen hob t
          have hset := bools_set hob t true
          have hbw : Below w.heap.size w (wr.setCell ⟨ab, t, none⟩ (.bool true)) := HW.out.1.below.trans ((hkk.trans (Fr.setCell _ ⟨ab, t, none⟩ _)).below HW.out.1.below.size fun g e => by have e' : g = ab := e; omega)
          have HRI := Lib.hid (rising18_any ab (all.set t true) _ hset (by rw [List.length_set, hal]; omega))
          rw [List.length_set, hal] at HRI
          have HE := Lib.hid (And.intro hfin hbw)
          have q1 : decide (0 ≤ (t : Int)) = true := decide_eq_true (by omega)
          clear hFk hob hkk hTk hfin hbw hset hlt
          go_wp2_with (go_at_call 102; refine HRI.out.mono ?_; rintro e w9 ⟨r, rfl, hoi, hbe⟩)
          go_ret
          refine ⟨_, rfl, ?_, HE.out.2.trans (hbe.mono HE.out.2.size)⟩
          rw [HE.out.1]
          exact own_base hoi HE.out.2.size
end Go.Proofs.Ytpnihegmhalcfaa
namespace Go.Proofs.Ytpnihegmhalcfaa
open Go.RowKit Go.MapKept Go.ChangeMaps
set_option maxHeartbeats 400000

abbrev Tabs := List (List (List Bool))
def tabAt (A : Tabs) (s : Nat) : List (List Bool) := A.getD s []
def itsAt (Ls : List (List It)) (s : Nat) : List It := Ls.getD s []
/-- A terminal to an item of a state. -/
def putA (Ls : List (List It)) (s : Nat) (x : It) (t : Nat) (z : Bool × Tabs) : Bool × Tabs :=
  match placeI (itsAt Ls s) x with
  | none => z
  | some k => if tt (tabAt z.2 s) k t then z else (true, z.2.set s (setT (tabAt z.2 s) k t))
def rowA (Ls : List (List It)) (s : Nat) (p : Nat) (row : List Int) (z : Bool × Tabs) : Bool × Tabs := row.foldl (fun z t => putA Ls s ((p : Int), 0) t.toNat z) z
def growP (Ls : List (List It)) (s : Nat) (y : Int) (row : List Int) : Nat → List Prd → Bool × Tabs → Bool × Tabs
  | _, [], z => z
  | p, q :: l, z => growP Ls s y row (p + 1) l (if q.left = y then rowA Ls s p row z else z)
/-- What one item's one terminal brings. -/
def growA (G : Gram) (Ls : List (List It)) (gs : List (List (Int × Int))) (s : Nat) (x : It) (t : Nat) (z : Bool × Tabs) : Bool × Tabs :=
  if x.2.toNat = (rightOf G x.1).length then z
  else if (rightOf G x.1).getD x.2.toNat 0 < G.terms then putA Ls (toE 0 ((rightOf G x.1).getD x.2.toNat 0) (gs.getD s [])).toNat (x.1, x.2 + 1) t z
  else growP Ls s ((rightOf G x.1).getD x.2.toNat 0) (of18L G ((rightOf G x.1).drop (x.2.toNat + 1)) (t : Int)) 0 G.prods (putA Ls (toE 0 ((rightOf G x.1).getD x.2.toNat 0) (gs.getD s [])).toNat (x.1, x.2 + 1) t z)
def growO (G : Gram) (Ls : List (List It)) (gs : List (List (Int × Int))) (s i : Nat) (z : Bool × Tabs) (t : Nat) : Bool × Tabs :=
  if tt (tabAt z.2 s) i t then (z.1 || (growA G Ls gs s ((itsAt Ls s).getD i (0, 0)) t (false, z.2)).1, (growA G Ls gs s ((itsAt Ls s).getD i (0, 0)) t (false, z.2)).2) else z
def growT (G : Gram) (Ls : List (List It)) (gs : List (List (Int × Int))) (s i n : Nat) (z : Bool × Tabs) : Bool × Tabs := (List.range n).foldl (growO G Ls gs s i) z
def growI (G : Gram) (Ls : List (List It)) (gs : List (List (Int × Int))) (s n : Nat) (z : Bool × Tabs) : Bool × Tabs := (List.range n).foldl (fun z i => growT G Ls gs s i G.terms.toNat z) z
def growS (G : Gram) (Ls : List (List It)) (gs : List (List (Int × Int))) (n : Nat) (z : Bool × Tabs) : Bool × Tabs := (List.range n).foldl (fun z s => growI G Ls gs s (itsAt Ls s).length z) z

def fitsA (Ls : List (List It)) (m : Nat) (A : Tabs) : Prop := A.length = Ls.length ∧ ∀ s, s < Ls.length → fitsT (itsAt Ls s).length m (tabAt A s)
def missA (A : Tabs) : Nat := (A.map missT).sum
theorem tabAt_set {A : Tabs} {s r : Nat} {x : List (List Bool)} (h : s < A.length) : tabAt (A.set s x) r = if s = r then x else tabAt A r := by
  unfold tabAt
  rw [List.getD_eq_getElem?_getD, List.getElem?_set]
  by_cases e : s = r
  · subst e
    simp [h]
  · simp [e, List.getD_eq_getElem?_getD]
theorem placeI_lt {L : List It} {x : It} {k : Nat} (h : placeI L x = some k) : k < L.length := (List.findIdx?_eq_some_iff_getElem.1 h).1
theorem putA_dn {Ls : List (List It)} {m s t : Nat} {x : It} (hs : s < Ls.length) (ht : t < m) : Dn (fitsA Ls m) missA (putA Ls s x t) := fun z hz => by
  unfold putA
  cases hp : placeI (itsAt Ls s) x with
  | none => exact ⟨hz, .inl rfl⟩
  | some k =>
    simp only
    have hk := placeI_lt hp
    have hsA : s < z.2.length := by rw [hz.1]; exact hs
    cases hb : tt (tabAt z.2 s) k t
    · simp only [Bool.false_eq_true, if_false]
      have hf := hz.2 s hs
      refine ⟨⟨by rw [List.length_set]; exact hz.1, fun r hr => ?_⟩, .inr ⟨trivial, ?_⟩⟩
      · rw [tabAt_set hsA]
        split
        · rename_i e
          subst e
          exact hf.set hk t
        · exact hz.2 r hr
      · unfold missA
        rw [List.map_set]
        refine sum_set _ _ _ (by simpa using hsA) ?_
        rw [List.getElem_map]
        have e : tabAt z.2 s = z.2[s] := by unfold tabAt; rw [List.getD_eq_getElem?_getD, List.getElem?_eq_getElem hsA]; rfl
        rw [e] at hf hb ⊢
        exact missT_set hf hk ht hb
    · simp only [if_true]
      exact ⟨hz, .inl trivial⟩
theorem rowA_dn {Ls : List (List It)} {m s p : Nat} (hs : s < Ls.length) {row : List Int} (h : ∀ t ∈ row, t.toNat < m) : Dn (fitsA Ls m) missA (rowA Ls s p row) := Dn.fold row fun t ht => putA_dn hs (h t ht)
theorem growP_dn {Ls : List (List It)} {m s : Nat} {y : Int} (hs : s < Ls.length) {row : List Int} (h : ∀ t ∈ row, t.toNat < m) : ∀ (l : List Prd) (p : Nat), Dn (fitsA Ls m) missA (growP Ls s y row p l)
  | [], _ => Dn.id
  | q :: l, p => by
    show Dn (fitsA Ls m) missA fun z => growP Ls s y row (p + 1) l (if q.left = y then rowA Ls s p row z else z)
    by_cases e : q.left = y
    · simp only [e, if_true]
      exact (rowA_dn hs h).comp (growP_dn hs h l (p + 1))
    · simp only [e, if_false]
      exact growP_dn hs h l (p + 1)
/-- Edges lead to states. -/
def edgesTo (n : Nat) (gs : List (List (Int × Int))) : Prop := ∀ s, s < n → ∀ x ∈ gs.getD s [], 0 ≤ x.2 ∧ x.2 < (n : Int)
theorem toE_in {n : Int} {y : Int} (hn : 0 < n) : ∀ {l : List (Int × Int)}, (∀ x ∈ l, 0 ≤ x.2 ∧ x.2 < n) → 0 ≤ toE 0 y l ∧ toE 0 y l < n
  | [], _ => ⟨Int.le_refl _, hn⟩
  | x :: l, h => by
    unfold toE
    split
    · exact h x (.head _)
    · exact toE_in hn fun z hz => h z (.tail _ hz)
theorem growA_dn {G : Gram} {Ls : List (List It)} {gs : List (List (Int × Int))} {s t : Nat} {x : It} (hs : s < Ls.length) (hg : edgesTo Ls.length gs) (ht : t < G.terms.toNat) : Dn (fitsA Ls G.terms.toNat) missA (growA G Ls gs s x t) := by
  have h1 := toE_in (y := (rightOf G x.1).getD x.2.toNat 0) (show (0 : Int) < (Ls.length : Int) by omega) (hg s hs)
  have h2 : (toE 0 ((rightOf G x.1).getD x.2.toNat 0) (gs.getD s [])).toNat < Ls.length := by omega
  unfold growA
  split
  · exact Dn.id
  · split
    · exact putA_dn h2 ht
    · exact (putA_dn h2 ht).comp (growP_dn hs (fun t ht => by have := trueIx_in ht; omega) _ _)
theorem growT_dn {G : Gram} {Ls : List (List It)} {gs : List (List (Int × Int))} {s i n : Nat} (hs : s < Ls.length) (hg : edgesTo Ls.length gs) (hn : n ≤ G.terms.toNat) : Dn (fitsA Ls G.terms.toNat) missA (growT G Ls gs s i n) :=
  Dn.fold _ fun t ht => by
    have := List.mem_range.1 ht
    exact Dn.ite (fun z => tt (tabAt z.2 s) i t) (Dn.own (growA_dn hs hg (by omega))) Dn.id
theorem growI_dn {G : Gram} {Ls : List (List It)} {gs : List (List (Int × Int))} {s n : Nat} (hs : s < Ls.length) (hg : edgesTo Ls.length gs) : Dn (fitsA Ls G.terms.toNat) missA (growI G Ls gs s n) :=
  Dn.fold _ fun _ _ => growT_dn hs hg (Nat.le_refl _)
theorem growS_dn {G : Gram} {Ls : List (List It)} {gs : List (List (Int × Int))} {n : Nat} (hn : n ≤ Ls.length) (hg : edgesTo Ls.length gs) : Dn (fitsA Ls G.terms.toNat) missA (growS G Ls gs n) :=
  Dn.fold _ fun s hs => growI_dn (by have := List.mem_range.1 hs; omega) hg

/-! In memory. -/
structure ItP where
  p : Nat
  lv : Value
  sv : Value
  bs : List Nat
def ptrP (q : ItP) : Value := .pointer (some ⟨q.p, 0, none⟩)
/-- One state's items with their sets. -/
structure OneM (w : World) (B m : Nat) (q : ItP) (L : List It) (T : List (List Bool)) : Prop where
  obj : w.heap[q.p]? = some (.cells #[q.lv, q.sv] 117 (0, 0))
  its : OwnI w B q.lv L
  tab : TabM w B q.sv m q.bs T
  len : q.bs.length = L.length
  low : B ≤ q.p
structure AllM (w : World) (B : Nat) (v : Value) (m : Nat) (ps : List ItP) (Ls : List (List It)) (A : Tabs) : Prop where
  own : w.ownsRow B 114 1 v ps.length (ps.map ptrP)
  lenL : Ls.length = ps.length
  lenA : A.length = ps.length
  one : ∀ i (h : i < ps.length), OneM w B m ps[i] (itsAt Ls i) (tabAt A i)
  apart : ∀ i j (hi : i < ps.length) (hj : j < ps.length), i ≠ j → ∀ b ∈ ps[i].bs, b ∉ ps[j].bs
/-- The blocks of the sets. -/
def inB (ps : List ItP) : Nat → Prop := fun b => ∃ q ∈ ps, b ∈ q.bs
theorem OneM.fr {ch : Nat → Prop} {w w' : World} {B m : Nat} {q : ItP} {L : List It} {T : List (List Bool)} (h : OneM w B m q L T) (k : Fr ch w w') (hc : ∀ g, B ≤ g → ¬ ch g) : OneM w' B m q L T :=
  ⟨k.obj h.obj (hc _ h.low), own_fr h.its k fun g hg => hc g (ownObj h.its g hg).1, h.tab.fr k hc, h.len, h.low⟩
theorem AllM.fr {ch : Nat → Prop} {w w' : World} {B : Nat} {v : Value} {m : Nat} {ps : List ItP} {Ls : List (List It)} {A : Tabs} (h : AllM w B v m ps Ls A) (k : Fr ch w w') (hc : ∀ g, B ≤ g → ¬ ch g) : AllM w' B v m ps Ls A :=
  ⟨own_fr h.own k fun g hg => hc g (ownObj h.own g hg).1, h.lenL, h.lenA, fun i hi => (h.one i hi).fr k hc, h.apart⟩
theorem AllM.keep {w w' : World} {B : Nat} {v : Value} {m : Nat} {ps : List ItP} {Ls : List (List It)} {A : Tabs} (h : AllM w B v m ps Ls A) (k : Fr nothing w w') : AllM w' B v m ps Ls A := h.fr k fun _ _ => id
theorem AllM.fits {w : World} {B : Nat} {v : Value} {m : Nat} {ps : List ItP} {Ls : List (List It)} {A : Tabs} (h : AllM w B v m ps Ls A) : fitsA Ls m A :=
  ⟨by rw [h.lenA, h.lenL], fun s hs => by
    have h1 := h.one s (by rw [← h.lenL]; exact hs)
    rw [← h1.len]
    exact h1.tab.fits⟩
theorem AllM.low {w : World} {B : Nat} {v : Value} {m : Nat} {ps : List ItP} {Ls : List (List It)} {A : Tabs} (h : AllM w B v m ps Ls A) {b : Nat} (hb : inB ps b) : B ≤ b := by
  obtain ⟨q, hq, hb⟩ := hb
  obtain ⟨i, hi, rfl⟩ := List.getElem_of_mem hq
  exact (h.one i hi).tab.low b hb
theorem AllM.isBool {w : World} {B : Nat} {v : Value} {m : Nat} {ps : List ItP} {Ls : List (List It)} {A : Tabs} (h : AllM w B v m ps Ls A) {b : Nat} (hb : inB ps b) : ∃ L, w.heap[b]? = some (boolsObj L) := by
  obtain ⟨q, hq, hb⟩ := hb
  obtain ⟨i, hi, rfl⟩ := List.getElem_of_mem hq
  obtain ⟨k, hk, rfl⟩ := List.getElem_of_mem hb
  exact ⟨_, (h.one i hi).tab.row k hk⟩
/-- A truth has been laid. -/
theorem AllM.put {w : World} {B : Nat} {v : Value} {m : Nat} {ps : List ItP} {Ls : List (List It)} {A : Tabs} (h : AllM w B v m ps Ls A) {s k t : Nat} (hs : s < ps.length) (hk : k < ps[s].bs.length) :
    AllM (w.setCell ⟨ps[s].bs[k], t, none⟩ (.bool true)) B v m ps Ls (A.set s (setT (tabAt A s) k t)) ∧ Fr (inB ps) w (w.setCell ⟨ps[s].bs[k], t, none⟩ (.bool true)) := by
  have hs1 := h.one s hs
  have hbo := hs1.tab.row k hk
  have kF : Fr (only ps[s].bs[k]) w (w.setCell ⟨ps[s].bs[k], t, none⟩ (.bool true)) := Fr.setCell w ⟨ps[s].bs[k], t, none⟩ (.bool true)
  have offRow : ∀ {B' e size n : Nat} {u : Value} {xs : List Value}, w.ownsRow B' e size u n xs → e ≠ 4 → (w.setCell ⟨ps[s].bs[k], t, none⟩ (.bool true)).ownsRow B' e size u n xs := fun ho he => own_fr ho kF fun g hg e => by
    have e' : g = ps[s].bs[k] := e
    subst e'
    exact own_ne ho hbo he hg
  have offObj : ∀ {g : Nat} {cs : Array Value} {e : TypeId} {f : Nat × Nat}, w.heap[g]? = some (.cells cs e f) → e ≠ 4 → (w.setCell ⟨ps[s].bs[k], t, none⟩ (.bool true)).heap[g]? = some (.cells cs e f) := fun ho he => kF.obj ho fun e => by
    have e' : _ = ps[s].bs[k] := e
    rw [e', hbo] at ho
    unfold boolsObj at ho
    simp only [Option.some.injEq, Obj.cells.injEq] at ho
    exact he ho.2.1.symm
  refine ⟨⟨offRow h.own (by decide), h.lenL, by rw [List.length_set]; exact h.lenA, fun i hi => ?_, h.apart⟩, Fr.setCell' _ _ ⟨ps[s], List.getElem_mem hs, List.getElem_mem hk⟩⟩
  have hi1 := h.one i hi
  refine ⟨offObj hi1.obj (by decide), offRow hi1.its (by decide), ?_, hi1.len, hi1.low⟩
  rw [tabAt_set (by rw [h.lenA]; exact hs)]
  by_cases e : s = i
  · subst e
    rw [if_pos rfl]
    exact hi1.tab.put hk t
  · rw [if_neg e]
    refine hi1.tab.off kF (fun g hg e' => ?_) fun b hb e' => ?_
    · have e'' : g = ps[s].bs[k] := e'
      subst e''
      exact own_ne hi1.tab.own hbo (by decide) hg
    · have e'' : b = ps[s].bs[k] := e'
      subst e''
      exact h.apart s i hs hi e _ (List.getElem_mem hk) hb
theorem AllM.at {w : World} {B : Nat} {v : Value} {m : Nat} {ps : List ItP} {Ls : List (List It)} {A : Tabs} (h : AllM w B v m ps Ls A) {i : Nat} (hi : i < ps.length) :
    ∃ g c, v = .slice (some ⟨g, 0, none⟩) ps.length c ∧ w.cell? ⟨g, i, none⟩ = some (.pointer (some ⟨ps[i].p, 0, none⟩)) ∧ ps.length ≤ c ∧ c ≤ maxLen := by
  obtain ⟨a, c, hv, h1, h2, h3⟩ := own_as_cells h.own
  rcases h3 with h3 | ⟨g, rfl, -, hc⟩
  · have e : ps = [] := by simpa using h3
    subst e
    simp at hi
  · refine ⟨g, c, hv, ?_, h1, h2⟩
    have := hc i (by simpa using hi)
    simpa [ptrP] using this

set_option maxRecDepth 100000 in
set_option maxHeartbeats 4000000 in
theorem put21_any (B m : Nat) (v : Value) (ps : List ItP) (Ls : List (List It)) (A : Tabs) (s t : Nat) (x : It) (w : World) (h : AllM w B v m ps Ls A) (hs : s < ps.length) (ht : t < m) (hi64 : ∀ L ∈ Ls, ∀ x ∈ L, i64 x.1 ∧ i64 x.2) (hl : ∀ L ∈ Ls, L.length ≤ 1000000) :
    Calls Try.prog 55 #[.pointer (some ⟨ps[s].p, 0, none⟩), itVal x, .int .i64 (t : Int)] w fun e w' => e = .returned (.bool (putA Ls s x t (false, A)).1) ∧ AllM w' B v m ps Ls (putA Ls s x t (false, A)).2 ∧ Fr (inB ps) w w' := by
  obtain ⟨xa, xb⟩ := x
  have hk := Fr.alloc (ch := nothing) w (Obj.cells #[.int .i64 xa, .int .i64 xb] 102 (0, 0))
  have hxb := alloc_obj w (Obj.cells #[.int .i64 xa, .int .i64 xb] 102 (0, 0))
  have x0 := obj_cell hxb 0 (v := .int .i64 xa) rfl
  have x1 := obj_cell hxb 1 (v := .int .i64 xb) rfl
  have hM := h.keep hk
  have h1 := hM.one s hs
  have hsL : s < Ls.length := by rw [h.lenL]; exact hs
  have hLm : itsAt Ls s ∈ Ls := by unfold itsAt; rw [List.getD_eq_getElem?_getD, List.getElem?_eq_getElem hsL]; exact List.getElem_mem hsL
  have hll := hl _ hLm
  have hits := h1.its.items (hi64 _ hLm) (by omega)
  have HPL := Lib.hid (place21_any ps[s].p _ _ (itsAt Ls s) (xa, xb) _ h1.obj hits)
  have HX := Lib.hid (And.intro hM hk)
  obtain ⟨PZ, hPZ⟩ : ∃ z, placeZ (itsAt Ls s) (xa, xb) = z := ⟨_, rfl⟩
  rw [hPZ] at HPL
  have HPZ := Lib.hid hPZ
  clear hk hxb hM h1 hits h hll hPZ
  unfold itVal at HPL ⊢
  go_enter Try.func55, Try.ntmps55
  go_upto_region 1 with fail
  generalize w.alloc (Obj.cells #[.int .i64 xa, .int .i64 xb] 102 (0, 0)) = W1 at *
  go_upto_region 2 with (go_at_call 57; refine HPL.out.mono ?_; rintro e w2 ⟨rfl, hb⟩)
  have hk2 := Fr.new hb
  have hM := HX.out.1.keep hk2
  have h1 := hM.one s hs
  have hkw := HX.out.2.trans hk2
  cases hp : placeI (itsAt Ls s) (xa, xb) with
  | none =>
    have hz : PZ = -1 := by rw [← HPZ.out]; unfold placeZ; rw [hp]
    have hr : putA Ls s (xa, xb) t (false, A) = (false, A) := by unfold putA; rw [hp]
    have HR := Lib.hid (And.intro hr (And.intro hM hkw))
    clear hr hM hkw hp HPL HPZ h1 hk2 hb x0 x1
    subst hz
    go_wp2
    go_ret
    rw [HR.out.1]
    exact ⟨rfl, HR.out.2.1, HR.out.2.2.wide⟩
  | some k =>
    have hz : PZ = (k : Int) := by rw [← HPZ.out]; unfold placeZ; rw [hp]
    have hkL := placeI_lt hp
    have hkb : k < ps[s].bs.length := by rw [h1.len]; exact hkL
    obtain ⟨sg, sc, hsv, s0, hc1, hc2⟩ := h1.tab.at hkb
    have hbit := h1.tab.bit hkb ht
    have hfz := h1.tab.frozen hkb t
    have hob := h1.obj
    rw [hsv] at hob
    have c1 := obj_cell hob 1 (v := .slice (some ⟨sg, 0, none⟩) ps[s].bs.length sc) rfl
    have hput := hM.put (t := t) hs hkb
    have hr : putA Ls s (xa, xb) t (false, A) = if tt (tabAt A s) k t then (false, A) else (true, A.set s (setT (tabAt A s) k t)) := by unfold putA; rw [hp]
    have HR := Lib.hid (And.intro hr (And.intro hM (And.intro hkw hput)))
    have q0 : ¬ (k : Int) < 0 := by omega
    have hbl : ps[s].bs.length ≤ 1000000 := by rw [h1.len]; exact hl _ hLm
    clear hr hM hkw hput hp HPL HPZ h1 hk2 hb x0 x1 hob hsv
    subst hz
    generalize hbsk : ps[s].bs[k] = bk at *
    generalize hpp : ps[s].p = pp at *
    obtain ⟨bn, hbn⟩ : ∃ n, ps[s].bs.length = n := ⟨_, rfl⟩
    rw [hbn] at hbl c1 hc1
    have hkbn : k < bn := by rw [← hbn]; exact hkb
    clear hbn hbsk hpp hkb
    cases htt : tt (tabAt A s) k t
    · rw [htt] at hbit
      rw [htt] at HR
      go_wp2
      go_ret
      rw [HR.out.1]
      exact ⟨rfl, HR.out.2.2.2.1, HR.out.2.2.1.wide.trans HR.out.2.2.2.2⟩
    · rw [htt] at hbit
      rw [htt] at HR
      go_wp2
      go_ret
      rw [HR.out.1]
      exact ⟨rfl, HR.out.2.1, HR.out.2.2.1.wide⟩
end Go.Proofs.Ytpnihegmhalcfaa
