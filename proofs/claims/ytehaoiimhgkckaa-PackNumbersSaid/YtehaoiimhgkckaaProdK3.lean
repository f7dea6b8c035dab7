/-
  The statements' own helpers on productions: LentProds.
-/
import Derived.Test.YtehaoiimhgkckaaProdK2
namespace Go.Proofs.Ytehaoiimhgkckaa
open Go.RowKit
set_option maxHeartbeats 400000

/-- A production that may be handed in. -/
structure PrdFit (p : Prd) : Prop where
  ok : PrdOk p
  bound : ∀ x ∈ p.right, -9223372036854775808 ≤ x ∧ x ≤ 9223372036854775807
  len : p.right.length ≤ 17592186044416
/-- What LentProds answers: its list, each with numbers of its own, the marks behind its end. -/
def LentPs (w : World) (B : Nat) (v : Value) (l : List Prd) : Prop :=
  ∃ g cap, ∃ xs : List (Prd × Value), v = .slice (some ⟨g, 0, none⟩) l.length cap ∧ B ≤ g ∧ l.length + 12 ≤ cap ∧ cap ≤ maxLen ∧ xs.map Prod.fst = l ∧ Cells w g 0 ((xs ++ markPs 12).flatMap cellsP) ∧ (∀ x ∈ xs, Lent w B x.2 x.1.right) ∧ (∀ p ∈ l, PrdFit p) ∧ l.length ≤ 17592186044416
theorem LentPs.fr {w w' : World} {B : Nat} {v : Value} {l : List Prd} (h : LentPs w B v l) (k : Fr nothing w w') : LentPs w' B v l := by
  obtain ⟨g, cap, xs, h1, h2, h3, h4, h5, h6, h7, h8, h9⟩ := h
  exact ⟨g, cap, xs, h1, h2, h3, h4, h5, h6.fr k fun e => e, fun x hx => (h7 x hx).fr k fun _ _ e => e, h8, h9⟩
theorem LentPs.prds {w : World} {B : Nat} {v : Value} {l : List Prd} (h : LentPs w B v l) : IsPrds w v l := by
  obtain ⟨g, cap, xs, rfl, _, h3, h4, rfl, h6, h7, h8, h9⟩ := h
  refine ⟨h9, some ⟨g, 0, none⟩, cap, rfl, by omega, h4, .inr ⟨g, 0, rfl, fun i hi => ?_⟩⟩
  have hi' : i < xs.length := by simpa using hi
  have hc := flat_cells (m := 6) (fun _ => rfl) h6 i (by rw [List.length_append]; omega)
  rw [List.getElem_append_left hi'] at hc
  have hf := h8 _ (List.getElem_mem hi)
  simp only [List.getElem_map] at hf ⊢
  exact ⟨hf.ok, xs[i].2, (h7 _ (List.getElem_mem hi')).ints hf.bound hf.len, hc⟩
theorem prds_fit {w : World} {v : Value} {l : List Prd} (h : IsPrds w v l) : ∀ p ∈ l, PrdFit p := fun p hp => by
  obtain ⟨i, hi, rfl⟩ := List.mem_iff_getElem.1 hp
  obtain ⟨_, a, cap, _, _, _, hx⟩ := h
  rcases hx with rfl | ⟨b, o, _, hx⟩
  · simp at hi
  · obtain ⟨ok, r, ⟨h1, h2, _⟩, _⟩ := hx i hi
    exact ⟨ok, h1, h2⟩
theorem prds_one (l : List (Prd × Value)) (h : ∀ x ∈ l, ∃ a n c, x.2 = .slice a n c) : ∀ u ∈ l.flatMap cellsP, u.oneCell' = true := fun u hu => by
  obtain ⟨s, hs', hs⟩ := List.mem_flatMap.1 hu
  obtain ⟨a, n, c, e⟩ := h s hs'
  simp only [cellsP, prdCells, List.mem_cons, List.not_mem_nil, or_false] at hs
  rcases hs with rfl | rfl | rfl | rfl | rfl | rfl
  · rfl
  · rw [e]; rfl
  · rfl
  · rfl
  · rfl
  · rfl
theorem cells_new_at {w : World} {k : Nat} (h : w.heap.size = k) (vs : List Value) (cs : Array Value) (hcs : cs = vs.toArray) (t : TypeId) (z : Nat × Nat) : Cells (w.alloc (.cells cs t z)) k 0 vs := h ▸ cells_new w vs cs hcs t z
theorem Try.infoPrd : (Try.prog.info? 62).map (fun i => (i.zero, i.size, i.bytes)) = some (some (.agg #[.int .i64 0, .slice none 0 0, .int .i64 0, .bool false, .string ⟨#[]⟩, .int .i64 0]), 6, 72) := by kernel_rfl

set_option maxRecDepth 100000 in
set_option maxHeartbeats 2000000 in
theorem lentProds_any (u : Value) (l : List Prd) (w : World) (h : IsPrds w u l) (hlen : l.length ≤ 1000000000000) :
    Calls Try.prog 37 #[u] w fun e w' => ∃ v, e = .returned v ∧ LentPs w' w.heap.size v l ∧ Below w.heap.size w w' := by
  have hfit := prds_fit h
  obtain ⟨_, a, cap, rfl, _, _, hxx⟩ := id h
  clear hxx
  obtain ⟨i0, hi, hz0, hz1, hz2⟩ := info_parts Try.infoPrd
  have HFIT := Lib.hid hfit
  have HL := Lib.hid h
  clear h hfit
  generalize hN : l.length = N at *
  have HN := Lib.hid hN
  clear hN
  go_enter Try.func37, Try.ntmps37
  go_wp2_with (at_make; refine wpList_make_own _ rfl _ _ 37 rfl w.heap.size 62 i0 _ 6 Try.underlying37 hi hz0 hz1 .i64 .i64 _ (N + 12) rfl rfl (by omega) (by rw [hz2]; omega) (by unfold maxLen; omega) (Nat.le_refl _) ?_; intro w0 hown0 hgrow0)
  have hB0 : Below w.heap.size w w0 := (Below.refl _ w).grown hgrow0 (Nat.le_refl _) (fun k e => by cases e)
  go_loopw [3, 4, 5] (fun v i _ wr => ∃ k : Nat, k ≤ N ∧ i = .int .i64 k ∧ v = .slice (some ⟨w.heap.size, 0, none⟩) k (N + 12) ∧ ∃ xs : List (Prd × Value), xs.map Prod.fst = l.take k ∧ (∀ x ∈ xs, Lent wr (w.heap.size + 1) x.2 x.1.right) ∧
      wr.ownsRow w.heap.size 62 6 (.slice (some ⟨w.heap.size, 0, none⟩) k (N + 12)) k (xs.flatMap cellsP) ∧ w.heap.size + 1 ≤ wr.heap.size ∧ Below w.heap.size w wr)
    (fun _ i _ _ => N - (intOf i).toNat)
  case atStart =>
    have hsz : w.heap.size + 1 ≤ w0.heap.size := by
      obtain ⟨_, h2⟩ := hown0
      rcases h2 with ⟨h2, _⟩ | ⟨g, cap', cur, h2, _, hg, _⟩
      · cases h2
      · simp only [Value.slice.injEq, Option.some.injEq, Addr.mk.injEq] at h2
        obtain ⟨⟨rfl, _⟩, _⟩ := h2
        exact (Array.getElem?_eq_some_iff.1 hg).1
    exact ⟨0, by omega, rfl, rfl, [], rfl, by simp, by simpa using hown0, hsz, hB0⟩
  case round =>
    clear hown0 hgrow0 hB0
    obtain ⟨k, hk, rfl, rfl, xs, hxs, hle, hown, hsz, hB⟩ := hrel
    by_cases hlt : k < N
    · have hk1 : k < l.length := by rw [HN.out]; exact hlt
      obtain ⟨b, o, ra, rc, rfl, hq, hqc⟩ := HL.out.get k hk1
      have tk : l.take (k + 1) = l.take k ++ [l[k]] := by rw [List.take_add_one, List.getElem?_eq_getElem hk1]; rfl
      have hlp := lentProd_any _ _ wr (hq.fr (Fr.new hB))
      unfold prdVal at hlp
      have x0 := (Fr.new hB).cell (hqc 0 (by simp [prdCells])) fun e => e
      have x1 := (Fr.new hB).cell (hqc 1 (by simp [prdCells])) fun e => e
      have x2 := (Fr.new hB).cell (hqc 2 (by simp [prdCells])) fun e => e
      have x3 := (Fr.new hB).cell (hqc 3 (by simp [prdCells])) fun e => e
      have x4 := (Fr.new hB).cell (hqc 4 (by simp [prdCells])) fun e => e
      have x5 := (Fr.new hB).cell (hqc 5 (by simp [prdCells])) fun e => e
      simp only [prdCells, List.getElem_cons_zero, List.getElem_cons_succ, Nat.add_zero] at x0 x1 x2 x3 x4 x5
      generalize l[k] = p at *
      obtain ⟨left, right, prec, has, action, whr⟩ := p
      simp only at x0 x1 x2 x3 x4 x5 hlp
      have HLP := Lib.hid hlp
      have HX := Lib.hid (And.intro hxs (And.intro hle tk))
      clear hlp hqc hq hxs hle tk
      go_wp2_with (first | (go_at_call 63; refine HLP.out.mono ?_; rintro e w' ⟨rb, rbc, rfl, hl, hb⟩) | (at_builtin; refine wpList_append_room rfl _ _ 37 rfl w.heap.size 62 i0 6 Try.underlying37 hi hz1 w.heap.size k (N + 12) _ rfl (((own_below hown hb).alloc _).alloc _) _ 1 1 (cellsP (⟨left, right, prec, has, action, whr⟩, .slice rb right.length rbc)) rfl rfl (.inr ⟨_, rfl, cells_add (cells_new_at (by simp) _ _ rfl _ _)⟩) (by simp [cellsP, prdCells, Value.oneCell']) (by omega) ?_; intro w2 hown2 hgrow2))
      go_roundw
      case rel =>
        have hbs := hb.size
        have hBs := hB.size
        have hBw : Below w.heap.size w w' := hB.trans (hb.mono hBs)
        have hfr : Fr (fun k => some w.heap.size = some k) w' w2 := ((Fr.alloc _ _).trans (Fr.alloc _ _)).trans (Fr.grown hgrow2)
        have hno : ∀ g, w.heap.size + 1 ≤ g → ¬ (some w.heap.size = some g) := fun g hg e => by cases e; omega
        refine ⟨k + 1, by omega, by simp, rfl, xs ++ [(⟨left, right, prec, has, action, whr⟩, .slice rb right.length rbc)], ?_, ?_, ?_, Nat.le_trans (Nat.le_trans hsz hbs) hfr.size, hBw.trans (hfr.below hBw.size fun j e => by cases e; exact Nat.le_refl _)⟩
        · rw [List.map_append, HX.out.1, HX.out.2.2]
          rfl
        · intro x hx
          rcases List.mem_append.1 hx with hx | hx
          · exact ((HX.out.2.1 x hx).fr (ch := nothing) (Fr.new hb) fun _ _ e => e).fr hfr hno
          · simp only [List.mem_singleton] at hx
            subst hx
            exact (hl.mono hsz).fr hfr hno
        · rw [List.flatMap_append, List.flatMap_singleton]
          exact hown2
      case measure => simp [intOf]; omega
    · obtain rfl : k = N := by omega
      have hxl : l.take k = l := List.take_of_length_le (by rw [HN.out]; exact Nat.le_refl _)
      rw [hxl] at hxs
      have hxn : xs.length = k := by rw [← HN.out, ← hxs, List.length_map]
      have HX := Lib.hid (And.intro hxs (And.intro hle hxn))
      clear hlt hxl hxs hle hxn
      go_wp2
      go_loopw [3, 6] (fun v i wq => ∃ j : Nat, j ≤ 12 ∧ i = .int .i64 j ∧ v = .slice (some ⟨w.heap.size, 0, none⟩) (k + j) (k + 12) ∧ (∀ x ∈ xs, Lent wq (w.heap.size + 1) x.2 x.1.right) ∧
          wq.ownsRow w.heap.size 62 6 (.slice (some ⟨w.heap.size, 0, none⟩) (k + j) (k + 12)) (k + j) ((xs ++ markPs j).flatMap cellsP) ∧ Below w.heap.size w wq)
        (fun _ i _ => 12 - (intOf i).toNat)
      case atStart => exact ⟨0, by omega, rfl, rfl, HX.out.2.1, by simpa [markPs] using hown, hB⟩
      case round =>
        clear hown hsz hB
        obtain ⟨j, hj, rfl, rfl, hle, hown, hB⟩ := hrel
        by_cases hlt : j < 12
        · have HM := Lib.hid (markProd_any j wr (by omega) (by omega))
          have HLE := Lib.hid hle
          clear hle
          go_wp2_with (first | (go_at_call 64; refine HM.out.mono ?_; rintro e w' ⟨rfl, hb⟩) | (at_builtin; refine wpList_append_room rfl _ _ 37 rfl w.heap.size 62 i0 6 Try.underlying37 hi hz1 w.heap.size (k + j) (k + 12) _ rfl ((own_below hown hb).alloc _) _ 1 1 (cellsP (markP j)) rfl rfl (.inr ⟨_, rfl, cells_add (cells_new_at rfl _ _ rfl _ _)⟩) (by simp [cellsP, markP, prdCells, Value.oneCell']) (by omega) ?_; intro w2 hown2 hgrow2))
          go_roundw
          case rel =>
            have hBw : Below w.heap.size w w' := hB.trans (hb.mono hB.size)
            have hfr : Fr (fun k => some w.heap.size = some k) w' w2 := (Fr.alloc _ _).trans (Fr.grown hgrow2)
            have hno : ∀ g, w.heap.size + 1 ≤ g → ¬ (some w.heap.size = some g) := fun g hg e => by cases e; omega
            refine ⟨j + 1, by omega, by simp, rfl, fun x hx => ((HLE.out x hx).fr (ch := nothing) (Fr.new hb) fun _ _ e => e).fr hfr hno, ?_, hBw.trans (hfr.below hBw.size fun j e => by cases e; exact Nat.le_refl _)⟩
            rw [markPs_succ, ← List.append_assoc, List.flatMap_append, List.flatMap_singleton]
            exact hown2
          case measure => simp [intOf]; omega
        · obtain rfl : j = 12 := by omega
          have HLE := Lib.hid hle
          clear hlt hle
          go_wp2
          go_ret
          obtain ⟨a', cap', hv, h1, h2, h3⟩ := own_cells hown
          simp only [Value.slice.injEq] at hv
          obtain ⟨rfl, -, rfl⟩ := hv
          refine ⟨_, rfl, ⟨w.heap.size, k + 12, xs, by rw [HN.out]; rfl, Nat.le_refl _, by rw [HN.out]; exact Nat.le_refl _, h2, HX.out.1, ?_, fun x hx => (HLE.out x hx).mono (Nat.le_succ _), HFIT.out, by rw [HN.out]; omega⟩, hB⟩
          rcases h3 with h3 | ⟨g, hg, _, hc⟩
          · have : ((xs ++ markPs 12).flatMap cellsP).length = 0 := by rw [h3]; rfl
            rw [flat_len cellsP 6 (fun _ => rfl)] at this
            simp [markPs_length] at this
          · simp only [Option.some.injEq, Addr.mk.injEq] at hg
            obtain ⟨rfl, -⟩ := hg
            exact hc
end Go.Proofs.Ytehaoiimhgkckaa
