/-
  The statements' own helpers on lists of numbers: SameInts, Pick, mark, LentInts, KeptInts.
-/
import Derived.Test.YtehaoiimhgkckaaBase
import Derived.Deep.DeepAppendRoom
import Derived.Maps.AppendAt
import Derived.WalkSmall
namespace Go.Proofs.Ytehaoiimhgkckaa
open Go.RowKit
set_option maxHeartbeats 400000

theorem same_len (a b : Option Addr) (n m c d : Nat) (w : World) (h : n ≠ m) :
    Calls Try.prog 59 #[.slice a n c, .slice b m d] w fun e w' => e = .returned (.bool false) ∧ w = w' := by
  have h' : ((n : Int) != m) = true := by simp; omega
  go_enter Try.func59, Try.ntmps59
  go_wp2
  go_ret
  exact ⟨rfl, rfl⟩
theorem same_none (a b : Option Addr) (c d : Nat) (w : World) :
    Calls Try.prog 59 #[.slice a 0 c, .slice b 0 d] w fun e w' => e = .returned (.bool true) ∧ w = w' := by
  go_enter Try.func59, Try.ntmps59
  go_wp2
  refine wp_loop_rounds 1 ?_
  rw [rounds_succ]
  go_wp2
  go_ret
  exact ⟨rfl, rfl⟩
def sameI (xs ys : List Int) : Bool := decide (xs = ys)
theorem same_loop (b off b' off' c d : Nat) (xs ys : List Int) (w : World) (hl : ys.length = xs.length) (hn : xs.length ≤ 17592186044416)
   (hx : Cells w b off (xs.map (Value.int .i64))) (hy : Cells w b' off' (ys.map (Value.int .i64))) :
    Calls Try.prog 59 #[.slice (some ⟨b, off, none⟩) xs.length c, .slice (some ⟨b', off', none⟩) xs.length d] w fun e w' => e = .returned (.bool (sameI xs ys)) ∧ ∃ n, w' = w.drewN n := by
  have HL := Lib.hid hl
  clear hl
  generalize hN : xs.length = N at *
  have HN := Lib.hid hN
  clear hN
  go_enter Try.func59, Try.ntmps59
  go_wp2
  go_loopw [5] (fun i wr => ∃ k n : Nat, k ≤ N ∧ i = .int .i64 k ∧ xs.take k = ys.take k ∧ wr = w.drewN n)
     (fun i _ => N - (intOf i).toNat)
  case atStart => exact ⟨0, 0, Nat.zero_le _, rfl, rfl, rfl⟩
  case round =>
    obtain ⟨k, n, hk, rfl, he, rfl⟩ := hrel
    have HE := Lib.hid he
    clear he
    by_cases hlt : k < N
    · have hkx : k < xs.length := by have := HN.out; omega
      have hky : k < ys.length := by have := HN.out; have := HL.out; omega
      have h1 := hx k (by simpa using hkx)
      have h2 := hy k (by simpa using hky)
      rw [List.getElem_map] at h1 h2
      have tx : xs.take (k + 1) = xs.take k ++ [xs[k]] := by rw [List.take_add_one, List.getElem?_eq_getElem hkx]; rfl
      have ty : ys.take (k + 1) = ys.take k ++ [ys[k]] := by rw [List.take_add_one, List.getElem?_eq_getElem hky]; rfl
      have hd : xs[k] ≠ ys[k] → xs ≠ ys := fun hne e => hne (by simp only [e])
      generalize xs[k] = p at *
      generalize ys[k] = q at *
      have TX := Lib.hid tx
      have TY := Lib.hid ty
      clear tx ty hx hy
      by_cases hpq : p = q
      · have hpq' : (p != q) = false := by simp [hpq]
        have HP := Lib.hid hpq
        clear hpq hd
        go_wp2
        go_quiet (fail)
        go_wp2
        go_roundw
        case rel => exact ⟨k + 1, _, by omega, by simp, by rw [TX.out, TY.out, HE.out, HP.out], rfl⟩
        case measure => simp [intOf]; omega
      · have hpq' : (p != q) = true := by simp [hpq]
        have HD := Lib.hid (hd hpq)
        clear hd hpq
        go_wp2
        go_quiet (fail)
        go_wp2
        go_ret
        exact ⟨congrArg (fun t => Ending.returned (Value.bool t)) (by simp [sameI, HD.out]), n + nq, by simp⟩
    · obtain rfl : k = N := by omega
      clear hlt
      have hfin : sameI xs ys = true := by
        have h1 := HE.out
        have h2 := HN.out
        have h3 := HL.out
        rw [List.take_of_length_le (by omega), List.take_of_length_le (by omega)] at h1
        simp [sameI, h1]
      go_wp2
      go_ret
      exact ⟨congrArg (fun t => Ending.returned (Value.bool t)) hfin.symm, _, rfl⟩
/-- SameInts, of any two lists. -/
theorem same_any (u v : Value) (xs ys : List Int) (w : World) (hx : Ints w u xs) (hy : Ints w v ys) :
    Calls Try.prog 59 #[u, v] w fun e w' => e = .returned (.bool (sameI xs ys)) ∧ ∃ n, w' = w.drewN n := by
  obtain ⟨_, h1, a, c, rfl, _, _, hxa⟩ := hx
  obtain ⟨_, _, b, d, rfl, _, _, hyb⟩ := hy
  by_cases hl : xs.length = ys.length
  · rcases hxa with rfl | ⟨b1, o1, rfl, hc1⟩
    · obtain rfl : ys = [] := List.eq_nil_of_length_eq_zero (by simpa using hl.symm)
      exact (same_none a b c d w).mono fun e w' ⟨he, hw⟩ => ⟨he, 0, hw.symm⟩
    · rcases hyb with rfl | ⟨b2, o2, rfl, hc2⟩
      · obtain rfl : xs = [] := List.eq_nil_of_length_eq_zero (by simpa using hl)
        exact (same_none _ b c d w).mono fun e w' ⟨he, hw⟩ => ⟨he, 0, hw.symm⟩
      · rw [← hl]
        exact same_loop b1 o1 b2 o2 c d xs ys w hl.symm h1 hc1 hc2
  · exact (same_len a b _ _ c d w hl).mono fun e w' ⟨he, hw⟩ => ⟨by rw [he]; simp [sameI]; intro h; exact hl (by rw [h]), 0, hw.symm⟩

/-- A place's mark. -/
def markOf (i : Int) : Int := 8000024 + i
theorem mark_any (i : Int) (w : World) (h0 : 0 ≤ i) (hi : i < 100) :
    Calls Try.prog 57 #[.int .i64 1, .int .i64 i] w fun e w' => e = .returned (.int .i64 (markOf i)) ∧ w = w' := by
  go_enter Try.func57, Try.ntmps57
  go_wp2
  go_ret
  exact ⟨congrArg (fun t => Ending.returned (Value.int .i64 t)) (by unfold markOf; omega), rfl⟩
def marks (k : Nat) : List Int := (List.range k).map fun j : Nat => markOf j
theorem marks_succ (k : Nat) : marks (k + 1) = marks k ++ [markOf k] := by simp [marks, List.range_succ]
theorem marks_length (k : Nat) : (marks k).length = k := by simp [marks]

theorem Try.infoInt' : (Try.prog.info? 3).map (fun i => (i.zero, i.size, i.bytes)) = some (some (.int .i64 0), 1, 8) := by kernel_rfl

/-- What LentInts answers: its list, the marks behind its end. -/
def Lent (w : World) (B : Nat) (v : Value) (xs : List Int) : Prop :=
  ∃ g cap, v = .slice (some ⟨g, 0, none⟩) xs.length cap ∧ B ≤ g ∧ xs.length + 12 ≤ cap ∧ cap ≤ maxLen ∧ Cells w g 0 ((xs ++ marks 12).map (Value.int .i64))

set_option maxRecDepth 100000 in
set_option maxHeartbeats 1000000 in
theorem lent_any (a : Option Addr) (cap : Nat) (xs : List Int) (w : World) (hlen : xs.length ≤ 17592186044416) (hx : xs = [] ∨ ∃ b o, a = some ⟨b, o, none⟩ ∧ Cells w b o (xs.map (Value.int .i64))) :
    Calls Try.prog 26 #[.slice a xs.length cap] w fun e w' => ∃ v, e = .returned v ∧ Lent w' w.heap.size v xs ∧ Below w.heap.size w w' := by
  obtain ⟨i0, hi, hz0, hz1, hz2⟩ := info_parts Try.infoInt'
  go_enter Try.func26, Try.ntmps26
  have hsrc : ∀ w0 : World, w.grownBy w0 none → (a = none ∧ xs.length = 0) ∨ ∃ ad, a = some ad ∧ ∀ j u, (xs.map (Value.int .i64))[j]? = some u → w0.cell? (ad.add j) = some u := fun w0 hg => by
    rcases hx with rfl | ⟨b, o, rfl, hc⟩
    · cases a with
      | none => exact .inl ⟨rfl, rfl⟩
      | some ad => exact .inr ⟨ad, rfl, fun j u h => by simp at h⟩
    · exact .inr ⟨_, rfl, cells_add (hc.fr (Fr.grown hg) (fun e => by cases e))⟩
  have HS := Lib.hid hsrc
  clear hsrc hx
  go_wp2_with (first | (at_make; refine wpList_make_own _ rfl _ _ 22 rfl w.heap.size 3 i0 (.int .i64 0) 1 Try.underlying22 hi hz0 hz1 .i64 .i64 _ (xs.length + 12) rfl rfl (by omega) (by rw [hz2]; omega) (by unfold maxLen; omega) (Nat.le_refl _) ?_; intro w0 hown0 hgrow0) | (at_builtin; refine wpList_append_room rfl _ _ 22 rfl w.heap.size 3 i0 1 Try.underlying22 hi hz1 w.heap.size 0 (xs.length + 12) [] rfl hown0 a xs.length cap (xs.map (Value.int .i64)) rfl (by simp) (HS.out w0 hgrow0) (by simp [Value.oneCell']) (by omega) ?_; intro w1 hown1 hgrow1))
  simp only [Nat.zero_add, List.nil_append] at hown1
  have hB1 : Below w.heap.size w w1 := ((Below.refl _ w).grown hgrow0 (Nat.le_refl _) (fun k e => by cases e)).grown hgrow1 hgrow0.size (fun k e => by cases e; exact Nat.le_refl _)
  go_loopw [3, 4] (fun v i wr => ∃ k : Nat, k ≤ 12 ∧ i = .int .i64 k ∧ v = .slice (some ⟨w.heap.size, 0, none⟩) (xs.length + k) (xs.length + 12) ∧
      wr.ownsRow w.heap.size 3 1 (.slice (some ⟨w.heap.size, 0, none⟩) (xs.length + k) (xs.length + 12)) (xs.length + k) ((xs ++ marks k).map (Value.int .i64)) ∧ Below w.heap.size w wr)
    (fun _ i _ => 12 - (intOf i).toNat)
  case atStart => exact ⟨0, by omega, rfl, rfl, by simpa [marks] using hown1, hB1⟩
  case round =>
    obtain ⟨k, hk, rfl, rfl, hown, hB⟩ := hrel
    clear hown0 hgrow0 hown1 hgrow1 hB1
    by_cases hlt : k < 12
    · have HM := Lib.hid (mark_any k wr (by omega) (by omega))
      go_wp2_with (first | (go_at_call 57; refine HM.out.mono ?_; rintro e w' ⟨rfl, rfl⟩) | (at_builtin; refine wpList_append_room rfl _ _ 22 rfl w.heap.size 3 i0 1 Try.underlying22 hi hz1 w.heap.size (xs.length + k) (xs.length + 12) _ rfl (hown.alloc _) _ 1 1 [.int .i64 (markOf k)] rfl (by simp) (.inr ⟨_, rfl, cell_one_new _ _ _⟩) (by simp [Value.oneCell']) (by omega) ?_; intro w2 hown2 hgrow2))
      go_roundw
      case rel =>
        refine ⟨k + 1, by omega, by simp, rfl, ?_, (hB.alloc hB.size _).grown hgrow2 (by have := hB.size; simp; omega) (fun j e => by cases e; exact Nat.le_refl _)⟩
        rw [marks_succ, ← List.append_assoc, List.map_append]
        exact hown2
      case measure => simp [intOf]; omega
    · obtain rfl : k = 12 := by omega
      clear hlt
      go_wp2
      go_ret
      obtain ⟨a', cap', hv, h1, h2, h3⟩ := own_as_cells hown
      simp only [Value.slice.injEq] at hv
      obtain ⟨rfl, -, rfl⟩ := hv
      refine ⟨_, rfl, ⟨w.heap.size, xs.length + 12, rfl, Nat.le_refl _, Nat.le_refl _, h2, ?_⟩, hB⟩
      rcases h3 with h3 | ⟨g, hg, _, hc⟩
      · have : ((xs ++ marks 12).map (Value.int .i64)).length = 0 := by rw [h3]; rfl
        simp [marks_length] at this
      · simp only [Option.some.injEq, Addr.mk.injEq] at hg
        obtain ⟨rfl, -⟩ := hg
        exact hc

set_option maxRecDepth 100000 in
set_option maxHeartbeats 1000000 in
theorem kept_any (B : Nat) (v u : Value) (xs : List Int) (w : World) (hv : Lent w B v xs) (hu : Ints w u xs) :
    Calls Try.prog 33 #[v, u] w fun e w' => e = .returned (.bool true) ∧ ∃ n, w' = w.drewN n := by
  obtain ⟨g, cap, rfl, _, hcap, hcm, hc⟩ := hv
  obtain ⟨_, hlen, a, cap', rfl, _, _, hx⟩ := hu
  have hcm' : cap ≤ 9223372036854775807 := hcm
  clear hcm
  go_enter Try.func33, Try.ntmps33
  go_wp2
  go_loopw [6] (fun i wr => ∃ k n : Nat, k ≤ xs.length + 12 ∧ i = .int .i64 k ∧ wr = w.drewN n) (fun i _ => xs.length + 12 - (intOf i).toNat)
  case atStart => exact ⟨0, 0, by omega, rfl, rfl⟩
  case round =>
    obtain ⟨k, n, hk, rfl, hwr⟩ := hrel
    have HW := Lib.hid hwr
    have hcw : ∀ p, wr.cell? p = w.cell? p := fun p => by rw [hwr]; rfl
    have HCW := Lib.hid hcw
    clear hwr hcw
    by_cases hlt : k < xs.length
    · obtain ⟨b, o, rfl, hcx⟩ : ∃ b o, a = some ⟨b, o, none⟩ ∧ Cells w b o (xs.map (Value.int .i64)) := by
        rcases hx with rfl | h
        · simp at hlt
        · exact h
      have h1 := hcx k (by simpa using hlt)
      have h2 := hc k (by simp; omega)
      rw [List.getElem_map] at h1 h2
      rw [List.getElem_append_left hlt, Nat.zero_add] at h2
      rw [← HCW.out] at h1 h2
      generalize xs[k] = p at h1 h2
      have hb : decide (xs.length ≤ k) = false := by simp; omega
      clear hcx hc hx HCW
      go_wp2
      go_quiet (fail)
      go_wp2
      go_roundw
      case rel => exact ⟨k + 1, n + nq, by omega, by simp, by rw [HW.out, World.drewN_drewN]⟩
      case measure => simp [intOf]; omega
    · by_cases hlt2 : k < xs.length + 12
      · have h2 := hc k (by simp [marks_length]; omega)
        rw [List.getElem_map, List.getElem_append_right (by omega), Nat.zero_add] at h2
        have h3 : (marks 12)[k - xs.length]'(by rw [marks_length]; omega) = markOf ((k : Int) - xs.length) := by simp [marks]; congr 1; omega
        rw [h3, ← HCW.out] at h2
        have hb : decide (k < xs.length) = false := by simp; omega
        have hb2 : decide (xs.length ≤ k) = true := by simp; omega
        have HM := Lib.hid fun w => mark_any ((k : Int) - xs.length) w (by omega) (by omega)
        have hw1 : IntKind.i64.wrap ((k : Int) - xs.length) = (k : Int) - xs.length := IntWalk.i64_in _ (by omega)
        generalize markOf ((k : Int) - xs.length) = p at *
        clear hc hx h3 hlt HCW
        go_wp2
        go_quiet ((go_at_call 57; exact Calls.quiet_of_same ((HM.out _).mono fun _ _ ⟨he, hw⟩ => ⟨he, hw.symm⟩)))
        clear hw1
        go_wp2
        go_roundw
        case rel => exact ⟨k + 1, n + nq, by omega, by simp, by rw [HW.out, World.drewN_drewN]⟩
        case measure => simp [intOf]; omega
      · obtain rfl : k = xs.length + 12 := by omega
        clear hlt hlt2
        go_wp2
        go_ret
        exact ⟨rfl, n, HW.out⟩
end Go.Proofs.Ytehaoiimhgkckaa
