/-
  Package first: whether some of a row is not among some; the step of what may vanish.
-/
import Derived.Test.YtfhleelechbdmaaDoorBits8
import Derived.Test.YtfhleelechbdmaaDoorAfter
import Derived.Test.YtfhleelechbdmaaDoorGram2
import Derived.Test.YtfhleelechbdmaaDoorFi1
namespace Go.Proofs.YtfhleelechbdmaaDoor
open Go.RowKit
set_option maxHeartbeats 400000

theorem Ints.at {w : World} {a : Option Addr} {n c : Nat} {xs : List Int} (h : Ints w (.slice a n c) xs) {k : Nat} (hk : k < xs.length) : ∃ b o, a = some ⟨b, o, none⟩ ∧ n = xs.length ∧ n ≤ c ∧ w.cell? ⟨b, o + k, none⟩ = some (.int .i64 xs[k]) ∧ i64 xs[k] := by
  obtain ⟨h0, _, a', c', e, h1, h2, h3⟩ := h
  simp only [Value.slice.injEq] at e
  obtain ⟨rfl, rfl, rfl⟩ := e
  rcases h3 with rfl | ⟨b, o, rfl, hc⟩
  · simp at hk
  · have := hc k (by simpa using hk)
    rw [List.getElem_map] at this
    exact ⟨b, o, rfl, rfl, h1, this, h0 _ (List.getElem_mem hk)⟩
/-- A variable of type []bool that holds a row of truths. -/
def boxB (b n : Nat) : Obj := .cells #[.slice (some ⟨b, 0, none⟩) n n] 33 (0, 0)
theorem bools_at {w : World} {b : Nat} {L : List Bool} (h : w.heap[b]? = some (boolsObj L)) (i : Nat) (hi : i < L.length) : w.cell? ⟨b, i, none⟩ = some (.bool (atB L i)) := bools_cell h i hi
theorem notV_any (L : List Bool) (b s : Nat) (w : World) (hs : w.heap[s]? = some (boxB b L.length)) (hb : w.heap[b]? = some (boolsObj L)) (x : Int) (hx : 0 ≤ x ∧ x < (L.length : Int)) :
    Calls Tryd.prog 30 #[.int .i64 x, .pointer (some ⟨s, 0, none⟩)] w fun e w' => e = .returned (.bool (!atB L x.toNat)) ∧ w = w' := by
  obtain ⟨n, rfl⟩ : ∃ n : Nat, x = (n : Int) := ⟨x.toNat, by omega⟩
  have hn : n < L.length := by omega
  have c0 := obj_cell hs 0 rfl
  have c1 := bools_at hb n hn
  rw [Int.toNat_natCast]
  generalize atB L n = c at *
  clear hs hb hx
  cases c
  all_goals
    go_enter Tryd.func30, Tryd.ntmps30
    go_wp2
    go_ret
    exact ⟨rfl, rfl⟩
set_option maxRecDepth 100000 in
set_option maxHeartbeats 1000000 in
theorem indexV_any (L : List Bool) (b s : Nat) (w : World) (hs : w.heap[s]? = some (boxB b L.length)) (hb : w.heap[b]? = some (boolsObj L)) (xs : List Int) (v : Value) (hv : Ints w v xs) (hin : ∀ x ∈ xs, 0 ≤ x ∧ x < (L.length : Int)) :
    Calls Tryd.prog 38 #[v, .func (.func 30) #[] #[.pointer (some ⟨s, 0, none⟩)]] w fun e w' => (∃ k : Int, e = .returned (.int .i64 k) ∧ decide (0 ≤ k) = !allE L xs) ∧ w = w' := by
  obtain ⟨_, hlen, a, cap, rfl, _, _, _⟩ := id hv
  have HV := Lib.hid hv
  have HT := Lib.hid fun x (hx : x ∈ xs) => notV_any L b s w hs hb x (hin x hx)
  clear hv hs hb hin
  generalize hN : xs.length = N at *
  have HN := Lib.hid hN
  clear hN
  go_enter Tryd.func38, Tryd.ntmps38
  go_wp2
  go_loopw [4, 5, 8] (fun _ _ i wr => ∃ k : Nat, k ≤ N ∧ i = .int .i64 k ∧ (∀ j (hj : j < xs.length), j < k → atB L xs[j].toNat = true) ∧ w = wr) (fun _ _ i _ => N - (intOf i).toNat)
  case atStart => exact ⟨0, Nat.zero_le _, rfl, fun j _ h => by omega, rfl⟩
  case round =>
    obtain ⟨k, hk, rfl, hno, rfl⟩ := hrel
    have HNO := Lib.hid hno
    clear hno
    by_cases hlt : k < N
    · have hk' : k < xs.length := by rw [HN.out]; exact hlt
      obtain ⟨b', o, rfl, -, -, hcx, -⟩ := HV.out.at hk'
      have hcall := HT.out _ (List.getElem_mem hk')
      cases hp : atB L xs[k].toNat with
      | false =>
        rw [hp] at hcall
        have HP := Lib.hid hp
        have HCL := Lib.hid hcall
        clear hp hcall
        have HM := Lib.hid (List.getElem_mem hk')
        generalize xs[k] = x at hcx HCL HP HM
        go_wp2_with (go_at_call 30; refine HCL.out.mono ?_; rintro e w' ⟨rfl, rfl⟩)
        go_ret
        have hf : allE L xs = false := by
          cases h : allE L xs
          · rfl
          · rw [allE_iff.1 h _ HM.out] at HP
            cases HP.out
        exact ⟨⟨_, rfl, by rw [hf]; simp⟩, rfl⟩
      | true =>
        rw [hp] at hcall
        have HP := Lib.hid hp
        have HCL := Lib.hid hcall
        clear hp hcall
        generalize hs : xs[k] = x at hcx HCL
        clear hs
        go_wp2_with (go_at_call 30; refine HCL.out.mono ?_; rintro e w' ⟨rfl, rfl⟩)
        go_roundw
        case rel =>
          refine ⟨k + 1, by omega, by simp, fun j hj hjk => ?_, trivial⟩
          by_cases e : j = k
          · subst e; exact HP.out
          · exact HNO.out j hj (by omega)
        case measure => simp [intOf]; omega
    · obtain rfl : k = N := by omega
      clear hlt
      go_wp2
      go_ret
      refine ⟨⟨-1, rfl, ?_⟩, rfl⟩
      have : allE L xs = true := by
        rw [allE_iff]
        intro x hx
        obtain ⟨i, hi, rfl⟩ := List.mem_iff_getElem.1 hx
        exact HNO.out i hi (by rw [← HN.out]; exact hi)
      rw [this]
      rfl
theorem containsV_any (L : List Bool) (b s : Nat) (w : World) (hs : w.heap[s]? = some (boxB b L.length)) (hb : w.heap[b]? = some (boolsObj L)) (xs : List Int) (v : Value) (hv : Ints w v xs) (hin : ∀ x ∈ xs, 0 ≤ x ∧ x < (L.length : Int)) :
    Calls Tryd.prog 29 #[v, .func (.func 30) #[] #[.pointer (some ⟨s, 0, none⟩)]] w fun e w' => e = .returned (.bool (!allE L xs)) ∧ w = w' := by
  obtain ⟨_, hlen, a, cap, rfl, _, _, _⟩ := id hv
  have HI := Lib.hid (indexV_any L b s w hs hb xs _ hv hin)
  generalize (!allE L xs) = bb at *
  clear hv hs hb hin
  generalize xs.length = N at *
  go_enter Tryd.func29, Tryd.ntmps29
  go_wp2_with (go_at_call 38; refine HI.out.mono ?_; rintro e w' ⟨⟨k, rfl, rfl⟩, rfl⟩)
  go_ret
  exact ⟨rfl, rfl⟩

set_option maxRecDepth 100000 in
set_option maxHeartbeats 1000000 in
theorem vaStep_any (L : List Bool) (p : Prd) (b s : Nat) (v : Value) (w : World) (hs : w.heap[s]? = some (boxB b L.length)) (hb : w.heap[b]? = some (boolsObj L)) (hv : IsPrd w v p) (hin : InN L.length p) :
    Calls Tryd.prog 28 #[v, .pointer (some ⟨s, 0, none⟩)] w fun e w' => e = .returned (.bool (vaStep p L).1) ∧ w'.heap[b]? = some (boolsObj (vaStep p L).2) ∧ Fr (only b) w w' := by
  obtain ⟨_, r, hr, rfl⟩ := hv
  obtain ⟨⟨hl0, hl1⟩, hR⟩ := hin
  obtain ⟨left, right, prec, has, action, whr⟩ := p
  simp only at hr hl0 hl1 hR
  obtain ⟨l, rfl⟩ : ∃ n : Nat, left = (n : Int) := ⟨left.toNat, by omega⟩
  have hll : l < L.length := by omega
  unfold prdVal
  generalize hO : Obj.cells #[.int .i64 l, r, .int .i64 prec, .bool has, .string action, .int .i64 whr] 45 (0, 0) = ob
  have HA := Lib.hid (containsV_any L b s (w.alloc ob) (alloc_older hs) (alloc_older hb) right r (hr.fr (Fr.alloc _ _)) hR)
  have c0 := obj_cell (alloc_older (o := ob) hs) 0 rfl
  have cb := bools_at (alloc_older (o := ob) hb) l hll
  have hF := Lib.hid (obj_frozen (alloc_older (o := ob) hb) l)
  have HB := Lib.hid (alloc_older (o := ob) hb)
  have HS : Hid (vaStep ⟨l, right, prec, has, action, whr⟩ L = if atB L l || !allE L right then (false, L) else (true, L.set l true)) := Lib.hid (by simp [vaStep])
  rw [HS.out]
  clear HS hs hb hr hR hl0 hl1
  have fb := hF.out
  subst hO
  generalize allE L right = d at *
  generalize atB L l = c at *
  clear hF
  cases c
  · cases d
    · go_enter Tryd.func28, Tryd.ntmps28
      go_wp2_with (go_at_call 29; refine HA.out.mono ?_; rintro e w' ⟨rfl, rfl⟩)
      go_ret
      exact ⟨rfl, HB.out, Fr.alloc _ _⟩
    · go_enter Tryd.func28, Tryd.ntmps28
      go_wp2_with (go_at_call 29; refine HA.out.mono ?_; rintro e w' ⟨rfl, rfl⟩)
      go_ret
      exact ⟨rfl, bools_set HB.out _ _, (Fr.alloc _ _).trans (Fr.setCell _ ⟨b, l, none⟩ _)⟩
  · clear HA
    go_enter Tryd.func28, Tryd.ntmps28
    go_wp2
    go_ret
    exact ⟨rfl, HB.out, Fr.alloc _ _⟩
end Go.Proofs.YtfhleelechbdmaaDoor
