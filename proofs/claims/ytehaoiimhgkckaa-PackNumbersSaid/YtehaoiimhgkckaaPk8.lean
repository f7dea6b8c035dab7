/-
  The statements' own helpers on entries: markAct, LentActs.
  The statements' own helpers on entries: KeptActs, SameActs, of lists that are one.
-/
import Derived.Test.YtehaoiimhgkckaaPk4
import Derived.Test.YtehaoiimhgkckaaKeptS
import Derived.Test.YtehaoiimhgkckaaLate
import Derived.Test.YtehaoiimhgkckaaAfter
namespace Go.Proofs.Ytehaoiimhgkckaa
open Go.RowKit
set_option maxHeartbeats 400000

def AcOk (x : Ac) : Prop := (0 ≤ x.kind ∧ x.kind < 256) ∧ i64 x.dst
/-- A place's mark. -/
def markAc (i : Int) : Ac := ⟨0, markOf i⟩
def markAcs (k : Nat) : List Ac := (List.range k).map fun j : Nat => markAc j
theorem markAcs_succ (k : Nat) : markAcs (k + 1) = markAcs k ++ [markAc k] := by simp [markAcs, List.range_succ]
theorem markAcs_length (k : Nat) : (markAcs k).length = k := by simp [markAcs]

theorem markAct_any (i : Int) (w : World) (h0 : 0 ≤ i) (hi : i < 100) :
    Calls Try.prog 58 #[.int .i64 1, .int .i64 i] w fun e w' => e = .returned (.agg #[.int .u8 0, .int .i64 (markOf i)]) ∧ Below w.heap.size w w' := by
  have HM := Lib.hid fun w => mark_any i w h0 hi
  go_enter Try.func58, Try.ntmps58
  go_wp2_with (go_at_call 57; refine (HM.out _).mono ?_; rintro e w' ⟨rfl, rfl⟩)
  go_returns
  exact ⟨rfl, (Below.refl _ _).alloc (Nat.le_refl _) _⟩

/-- What LentActs answers: its list, the marks behind its end. -/
def LentAc (w : World) (B : Nat) (v : Value) (l : List Ac) : Prop :=
  ∃ g cap, v = .slice (some ⟨g, 0, none⟩) l.length cap ∧ B ≤ g ∧ l.length + 12 ≤ cap ∧ cap ≤ maxLen ∧ Cells w g 0 ((l ++ markAcs 12).flatMap acCells) ∧ (∀ s ∈ l, AcOk s) ∧ l.length ≤ 17592186044416
theorem LentAc.fr {w w' : World} {B : Nat} {v : Value} {l : List Ac} (h : LentAc w B v l) (k : Fr nothing w w') : LentAc w' B v l := by
  obtain ⟨g, cap, h1, h2, h3, h4, h5, h6, h7⟩ := h
  exact ⟨g, cap, h1, h2, h3, h4, h5.fr k fun e => e, h6, h7⟩
theorem LentAc.acts {w : World} {B : Nat} {v : Value} {l : List Ac} (h : LentAc w B v l) : IsActs w v l := by
  obtain ⟨g, cap, rfl, _, h3, h4, h5, h6, h7⟩ := h
  refine ⟨h7, some ⟨g, 0, none⟩, cap, rfl, by omega, h4, .inr ⟨g, 0, rfl, fun i hi => ⟨(h6 _ (List.getElem_mem hi)).1, (h6 _ (List.getElem_mem hi)).2, ?_⟩⟩⟩
  have := flat_cells (m := 2) (fun _ => rfl) h5 i (by rw [List.length_append]; omega)
  rwa [List.getElem_append_left hi] at this

theorem Try.infoAct : (Try.prog.info? 31).map (fun i => (i.zero, i.size, i.bytes)) = some (some (.agg #[.int .u8 0, .int .i64 0]), 2, 16) := by kernel_rfl
theorem acs_one (l : List Ac) : ∀ u ∈ l.flatMap acCells, u.oneCell' = true := fun u hu => by
  obtain ⟨s, _, hs⟩ := List.mem_flatMap.1 hu
  simp only [acCells, List.mem_cons, List.not_mem_nil, or_false] at hs
  rcases hs with rfl | rfl <;> rfl

set_option maxRecDepth 100000 in
set_option maxHeartbeats 1000000 in
theorem lentActs_any (u : Value) (l : List Ac) (w : World) (h : IsActs w u l) (hlen : l.length ≤ 1000000000000) :
    Calls Try.prog 27 #[u] w fun e w' => ∃ v, e = .returned v ∧ LentAc w' w.heap.size v l ∧ Below w.heap.size w w' := by
  obtain ⟨_, a, cap, rfl, _, _, hx⟩ := h
  obtain ⟨i0, hi, hz0, hz1, hz2⟩ := info_parts Try.infoAct
  have hok : ∀ s ∈ l, AcOk s := fun s hs => by
    obtain ⟨i, hi, rfl⟩ := List.mem_iff_getElem.1 hs
    rcases hx with rfl | ⟨b, o, _, hx⟩
    · simp at hi
    · exact ⟨(hx i hi).1, (hx i hi).2.1⟩
  go_enter Try.func27, Try.ntmps27
  have hsrc : ∀ w0 : World, w.grownBy w0 none → (a = none ∧ l.length = 0) ∨ ∃ ad, a = some ad ∧ ∀ j u, (l.flatMap acCells)[j]? = some u → w0.cell? (ad.add j) = some u := fun w0 hg => by
    rcases hx with rfl | ⟨b, o, rfl, hc⟩
    · cases a with
      | none => exact .inl ⟨rfl, rfl⟩
      | some ad => exact .inr ⟨ad, rfl, fun j u h => by simp at h⟩
    · exact .inr ⟨_, rfl, cells_add ((cells_flat (m := 2) (by omega) (fun _ => rfl) fun i hi => (hc i hi).2.2).fr (Fr.grown hg) (fun e => by cases e))⟩
  have HS := Lib.hid hsrc
  have HO := Lib.hid hok
  have hone := acs_one l
  have hfl := flat_len acCells 2 (fun _ => rfl) l
  clear hsrc hx hok
  go_wp2_with (first | (at_make; refine wpList_make_own _ rfl _ _ 23 rfl w.heap.size 31 i0 _ 2 Try.underlying23 hi hz0 hz1 .i64 .i64 _ (l.length + 12) rfl rfl (by omega) (by rw [hz2]; omega) (by unfold maxLen; omega) (Nat.le_refl _) ?_; intro w0 hown0 hgrow0) | (at_builtin; refine wpList_append_room rfl _ _ 23 rfl w.heap.size 31 i0 2 Try.underlying23 hi hz1 w.heap.size 0 (l.length + 12) [] rfl hown0 a l.length cap (l.flatMap acCells) rfl hfl (HS.out w0 hgrow0) hone (by omega) ?_; intro w1 hown1 hgrow1))
  simp only [Nat.zero_add, List.nil_append] at hown1
  have hB1 : Below w.heap.size w w1 := ((Below.refl _ w).grown hgrow0 (Nat.le_refl _) (fun k e => by cases e)).grown hgrow1 hgrow0.size (fun k e => by cases e; exact Nat.le_refl _)
  clear hfl hone HS
  go_loopw [3, 4] (fun v i wr => ∃ k : Nat, k ≤ 12 ∧ i = .int .i64 k ∧ v = .slice (some ⟨w.heap.size, 0, none⟩) (l.length + k) (l.length + 12) ∧
      wr.ownsRow w.heap.size 31 2 (.slice (some ⟨w.heap.size, 0, none⟩) (l.length + k) (l.length + 12)) (l.length + k) ((l ++ markAcs k).flatMap acCells) ∧ Below w.heap.size w wr)
    (fun _ i _ => 12 - (intOf i).toNat)
  case atStart => exact ⟨0, by omega, rfl, rfl, by simpa [markAcs] using hown1, hB1⟩
  case round =>
    obtain ⟨k, hk, rfl, rfl, hown, hB⟩ := hrel
    clear hown0 hgrow0 hown1 hgrow1 hB1
    by_cases hlt : k < 12
    · have HM := Lib.hid (markAct_any k wr (by omega) (by omega))
      go_wp2_with (first | (go_at_call 58; refine HM.out.mono ?_; rintro e w' ⟨rfl, hb⟩) | (at_builtin; refine wpList_append_room rfl _ _ 23 rfl w.heap.size 31 i0 2 Try.underlying23 hi hz1 w.heap.size (l.length + k) (l.length + 12) _ rfl ((own_below hown hb).alloc _) _ 1 1 (acCells (markAc k)) rfl rfl (.inr ⟨_, rfl, cells_add (cells_new _ _ _ rfl _ _)⟩) (by simp [acCells, Value.oneCell']) (by omega) ?_; intro w2 hown2 hgrow2))
      go_roundw
      case rel =>
        refine ⟨k + 1, by omega, by simp, rfl, ?_, ((hB.trans (hb.mono hB.size)).alloc (Nat.le_trans hB.size hb.size) _).grown hgrow2 (by have := hB.size; have := hb.size; simp; omega) (fun j e => by cases e; exact Nat.le_refl _)⟩
        rw [markAcs_succ, ← List.append_assoc, List.flatMap_append, List.flatMap_singleton]
        exact hown2
      case measure => simp [intOf]; omega
    · obtain rfl : k = 12 := by omega
      clear hlt
      go_wp2
      go_ret
      obtain ⟨a', cap', hv, h1, h2, h3⟩ := own_cells hown
      simp only [Value.slice.injEq] at hv
      obtain ⟨rfl, -, rfl⟩ := hv
      refine ⟨_, rfl, ⟨w.heap.size, l.length + 12, rfl, Nat.le_refl _, Nat.le_refl _, h2, ?_, HO.out, by omega⟩, hB⟩
      rcases h3 with h3 | ⟨g, hg, _, hc⟩
      · have : ((l ++ markAcs 12).flatMap acCells).length = 0 := by rw [h3]; rfl
        rw [flat_len acCells 2 (fun _ => rfl)] at this
        simp [markAcs_length] at this
      · simp only [Option.some.injEq, Addr.mk.injEq] at hg
        obtain ⟨rfl, -⟩ := hg
        exact hc
end Go.Proofs.Ytehaoiimhgkckaa
namespace Go.Proofs.Ytehaoiimhgkckaa
open Go.RowKit
set_option maxHeartbeats 400000

theorem IsActs.get {w : World} {a : Option Addr} {n c : Nat} {l : List Ac} (h : IsActs w (.slice a n c) l) (k : Nat) (hk : k < l.length) : ∃ b o, a = some ⟨b, o, none⟩ ∧ AcOk l[k] ∧ Cells w b (o + k * 2) (acCells l[k]) := by
  obtain ⟨b, o, h1, _, h2, h3, h4⟩ := Rows'.at h hk
  exact ⟨b, o, h1, ⟨h2, h3⟩, h4⟩
set_option maxRecDepth 100000 in
set_option maxHeartbeats 2000000 in
theorem keptActs_any (B : Nat) (v u : Value) (l : List Ac) (w : World) (hv : LentAc w B v l) (hu : IsActs w u l) :
    Calls Try.prog 34 #[v, u] w fun e w' => e = .returned (.bool true) ∧ Below w.heap.size w w' := by
  obtain ⟨g, cap, rfl, _, hcap, hcm, hc, _, _⟩ := hv
  obtain ⟨hlen, a, cap', rfl, hca, hcb, hx⟩ := id hu
  have hcm' : cap ≤ 9223372036854775807 := hcm
  clear hcm hcb
  have HC := Lib.hid hc
  have HU := Lib.hid hu
  clear hc hu hx
  generalize hN : l.length = N at *
  have HN := Lib.hid hN
  clear hN
  go_enter Try.func34, Try.ntmps34
  go_wp2
  go_loopw [6] (fun i wr => ∃ k : Nat, k ≤ N + 12 ∧ i = .int .i64 k ∧ Below w.heap.size w wr) (fun i _ => N + 12 - (intOf i).toNat)
  case atStart => exact ⟨0, by omega, rfl, Below.refl _ _⟩
  case round =>
    obtain ⟨k, hk, rfl, hB⟩ := hrel
    have hne := after_ne wr
    by_cases hlt : k < N
    · have hk1 : k < l.length := by rw [HN.out]; exact hlt
      obtain ⟨b, o, rfl, _, hcx⟩ := HU.out.get k hk1
      have hcg := flat_cells (m := 2) (fun _ => rfl) HC.out k (by rw [List.length_append]; omega)
      rw [List.getElem_append_left hk1] at hcg
      generalize l[k] = s at *
      have x0 := after_cell ((Fr.new hB).cell (hcx 0 (by simp [acCells])) fun e => e)
      have x1 := after_cell ((Fr.new hB).cell (hcx 1 (by simp [acCells])) fun e => e)
      have y0 := after_cell ((Fr.new hB).cell (hcg 0 (by simp [acCells])) fun e => e)
      have y1 := after_cell ((Fr.new hB).cell (hcg 1 (by simp [acCells])) fun e => e)
      simp only [acCells, List.getElem_cons_zero, List.getElem_cons_succ, Nat.add_zero, Nat.zero_add] at x0 x1 y0 y1
      have t1 : decide (k < N) = true := by simp [hlt]
      have t2 : decide (N ≤ k) = false := by simp; omega
      have t3 : k < N + 12 := by omega
      have HB := Lib.hid hB
      clear hB hcx hcg
      go_wp2_with fail
      refine wp_region_after wr (by kernel_rfl) (by kernel_rfl) (Below.refl _ _) ?_
      repeat (go_big_quiet_step (fail))
      refine wpQuiet_nil ?_
      intro _ hw'
      obtain ⟨q, hw''⟩ := hw'
      subst hw''
      go_wp2
      go_roundw
      case rel => exact ⟨k + 1, by omega, by simp, HB.out.trans (q.ok.mono HB.out.size)⟩
      case measure => simp [intOf]; omega
    · by_cases hlt2 : k < N + 12
      · have hcg := flat_cells (m := 2) (fun _ => rfl) HC.out k (by rw [List.length_append, markAcs_length, HN.out]; exact hlt2)
        rw [List.getElem_append_right (by rw [HN.out]; omega)] at hcg
        have h3 : (markAcs 12)[k - l.length]'(by rw [markAcs_length, HN.out]; omega) = markAc ((k : Int) - N) := by
          simp [markAcs, HN.out]
          congr 1
          omega
        rw [h3] at hcg
        have hm := fun p : After wr => after_call p (markAct_any ((k : Int) - N) p.w (by omega) (by omega))
        have y0 := after_cell ((Fr.new hB).cell (hcg 0 (by simp [acCells])) fun e => e)
        have y1 := after_cell ((Fr.new hB).cell (hcg 1 (by simp [acCells])) fun e => e)
        simp only [acCells, markAc, List.getElem_cons_zero, List.getElem_cons_succ, Nat.add_zero, Nat.zero_add] at y0 y1
        have hw1 : IntKind.i64.wrap ((k : Int) - N) = (k : Int) - N := IntWalk.i64_in _ (by omega)
        generalize markOf ((k : Int) - N) = mk at *
        have HM := Lib.hid hm
        have t1 : decide (k < N) = false := by simp; omega
        have t2 : decide (N ≤ k) = true := by simp; omega
        have HB := Lib.hid hB
        clear hB hcg h3 hm
        go_wp2_with fail
        refine wp_region_after wr (by kernel_rfl) (by kernel_rfl) (Below.refl _ _) ?_
        repeat (go_big_quiet_step (exact HM.out _))
        refine wpQuiet_nil ?_
        intro _ hw'
        obtain ⟨q, hw''⟩ := hw'
        subst hw''
        clear hw1
        go_wp2
        go_roundw
        case rel => exact ⟨k + 1, by omega, by simp, HB.out.trans (q.ok.mono HB.out.size)⟩
        case measure => simp [intOf]; omega
      · obtain rfl : k = N + 12 := by omega
        clear hlt hlt2
        go_wp2
        go_ret
        exact ⟨rfl, hB⟩

set_option maxRecDepth 100000 in
set_option maxHeartbeats 2000000 in
theorem sameActs_any (v u : Value) (l : List Ac) (w : World) (hv : IsActs w v l) (hu : IsActs w u l) :
    Calls Try.prog 60 #[v, u] w fun e w' => e = .returned (.bool true) ∧ Below w.heap.size w w' := by
  obtain ⟨_, a', cap, rfl, _, _, hx'⟩ := id hv
  obtain ⟨hlen, a, cap', rfl, _, _, hx⟩ := id hu
  clear hx hx'
  have HV := Lib.hid hv
  have HU := Lib.hid hu
  clear hu hv
  generalize hN : l.length = N at *
  have HN := Lib.hid hN
  clear hN
  go_enter Try.func60, Try.ntmps60
  go_wp2
  go_loopw [5] (fun i wr => ∃ k : Nat, k ≤ N ∧ i = .int .i64 k ∧ Below w.heap.size w wr) (fun i _ => N - (intOf i).toNat)
  case atStart => exact ⟨0, by omega, rfl, Below.refl _ _⟩
  case round =>
    obtain ⟨k, hk, rfl, hB⟩ := hrel
    have hne := after_ne wr
    by_cases hlt : k < N
    · have hk1 : k < l.length := by rw [HN.out]; exact hlt
      obtain ⟨b, o, rfl, _, hcx⟩ := HU.out.get k hk1
      obtain ⟨b', o', rfl, _, hcg⟩ := HV.out.get k hk1
      generalize l[k] = s at *
      have x0 := after_cell ((Fr.new hB).cell (hcx 0 (by simp [acCells])) fun e => e)
      have x1 := after_cell ((Fr.new hB).cell (hcx 1 (by simp [acCells])) fun e => e)
      have y0 := after_cell ((Fr.new hB).cell (hcg 0 (by simp [acCells])) fun e => e)
      have y1 := after_cell ((Fr.new hB).cell (hcg 1 (by simp [acCells])) fun e => e)
      simp only [acCells, List.getElem_cons_zero, List.getElem_cons_succ, Nat.add_zero] at x0 x1 y0 y1
      have HB := Lib.hid hB
      clear hB hcx hcg
      go_wp2_with fail
      refine wp_region_after wr (by kernel_rfl) (by kernel_rfl) (Below.refl _ _) ?_
      repeat (go_big_quiet_step (fail))
      refine wpQuiet_nil ?_
      intro _ hw'
      obtain ⟨q, hw''⟩ := hw'
      subst hw''
      go_wp2
      go_roundw
      case rel => exact ⟨k + 1, by omega, by simp, HB.out.trans (q.ok.mono HB.out.size)⟩
      case measure => simp [intOf]; omega
    · obtain rfl : k = N := by omega
      clear hlt
      go_wp2
      go_ret
      exact ⟨rfl, hB⟩
end Go.Proofs.Ytehaoiimhgkckaa
