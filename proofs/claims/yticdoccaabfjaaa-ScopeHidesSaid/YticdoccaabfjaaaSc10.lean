/-
  Package scope: find.
-/
import Derived.Test.YticdoccaabfjaaaSc9
namespace Go.Proofs.Yticdoccaabfjaaa
open Go.RowKit Go.Shelf
attribute [local go_sem] Oper.semAt_some
set_option maxHeartbeats 400000

theorem inwards_stops (n : Nat) (hn : 3 ≤ n) (Br p g cap : Nat) (L : List MB) (Kp : World → World → Prop) (hkR : ∀ A B, Kp A B → RowAt A Br p g cap L → RowAt B Br p g cap L) (hnv : ∀ b ∈ L, ∃ a n c, b.nv = .slice a n c) (w : World) (hR : RowAt w Br p g cap L) :
    SeqStopsK Fence.wide n Try.prog 32 #[.pointer (some ⟨Br, 0, none⟩)] (fun x : {b : MB // b ∈ L} => blkArg x.1) Kp (fun ys => ys.map (·.1) = L.reverse) (fun pre => pre.map (·.1) <+: L.reverse) L.length w :=
  fun l J Jx W hW _ _ hY h0' =>
    (inwards1_in n hn l Br p g cap L Kp (fun pre W => ∃ ys : List {b : MB // b ∈ L}, ys.map (·.1) = pre ∧ J ys W) (fun pre W => ∃ ys : List {b : MB // b ∈ L}, ys.map (·.1) = pre ∧ Jx ys W) hkR hnv
      (fun pre b hb W1 hJ hl => by
        obtain ⟨ys, rfl, hJ⟩ := hJ
        obtain ⟨fn, tmps, assign, body, hy, hR⟩ := hY ys ⟨b, hb⟩ W1 hJ (by simpa using hl)
        refine ⟨fn, tmps, assign, body, hy, hR.mono ?_⟩
        rintro e W' (⟨he, hj, hk⟩ | ⟨he, hj⟩)
        · exact .inl ⟨he, ⟨_, by simp, hj⟩, hk⟩
        · exact .inr ⟨he, ⟨_, by simp, hj⟩⟩) W (hR.late (Fr.new hW)) ⟨[], rfl, h0'⟩).mono fun e W' ⟨hv, h⟩ => ⟨hv, by
        rcases h with ⟨ys, hys, ys', h1, h2⟩ | ⟨pre, hpre, ys', h1, h2⟩
        · exact .inl ⟨ys', h1.trans hys, h2⟩
        · exact .inr ⟨ys', by show ys'.map (·.1) <+: _; rw [h1]; exact hpre, h2⟩⟩

/-- What a name stands for: in the innermost block that has it. -/
def findB (L : List MB) (s : ByteArray) : Option Th := L.reverse.findSome? fun b => findTh b.l s
def findPtr (L : List MB) (s : ByteArray) : Value := .pointer ((findB L s).map fun x => ⟨x.pos, 0, none⟩)

def FindI (L : List MB) (s : ByteArray) (w3 : World) (pre : List {b : MB // b ∈ L}) (W : World) : Prop := (∀ b ∈ pre, findTh b.1.l s = none) ∧ Below w3.heap.size w3 W
def FindX (L : List MB) (s : ByteArray) (w : World) (c : Code) (pre : List {b : MB // b ∈ L}) (W : World) : Prop :=
  c = .ret ∧ ∃ x, (pre.map (·.1)).findSome? (fun b => findTh b.l s) = some x ∧ Boxed W (w.heap.size + 1) 63 (.pointer (some ⟨x.pos, 0, none⟩)) ∧ Below w.heap.size w W
theorem FindI.next {L : List MB} {s : ByteArray} {w3 W : World} {pre : List {b : MB // b ∈ L}} {x : {b : MB // b ∈ L}} (h : FindI L s w3 pre W) (hf : findTh x.1.l s = none) : FindI L s w3 (pre ++ [x]) W := by
  refine ⟨fun c hc => ?_, h.2⟩
  rcases List.mem_append.1 hc with hc | hc
  · exact h.1 c hc
  · simp only [List.mem_singleton] at hc
    subst hc
    exact hf
theorem FindI.none {L : List MB} {s : ByteArray} {w3 W : World} {pre : List {b : MB // b ∈ L}} (h : FindI L s w3 pre W) : (pre.map (·.1)).findSome? (fun b => findTh b.l s) = Option.none := by
  rw [List.findSome?_eq_none_iff]
  intro c hc
  obtain ⟨d, hd, rfl⟩ := List.mem_map.1 hc
  exact h.1 d hd
theorem FindI.hit {L : List MB} {s : ByteArray} {w w3 W W' : World} {pre : List {b : MB // b ∈ L}} {x : {b : MB // b ∈ L}} {t : Th} (h : FindI L s w3 pre W) (hf : findTh x.1.l s = some t) (hb : Boxed W' (w.heap.size + 1) 63 (.pointer (some ⟨t.pos, 0, Option.none⟩))) (hB : Below w.heap.size w W') : FindX L s w .ret (pre ++ [x]) W' := by
  refine ⟨rfl, t, ?_, hb, hB⟩
  rw [List.map_append, List.findSome?_append, h.none]
  simp [hf]

set_option maxRecDepth 100000 in
set_option maxHeartbeats 2000000 in
theorem find_any {w : World} {F : Nat → Prop} {p : Nat} {L : List MB} (h : IsScope w F p L) (s : ByteArray) :
    Calls Try.prog 29 #[.pointer (some ⟨p, 0, none⟩), .string s] w fun e w' => e = .returned (findPtr L s) ∧ Below w.heap.size w w' := by
  obtain ⟨a, cap, hc0, hc1, hcap, hcm, hobj, hown, hFv⟩ := h.cells
  have hlt := h.lt
  obtain ⟨g, hga, hcs⟩ : ∃ g, (L ≠ [] → a = some ⟨g, 0, none⟩) ∧ Cells w g 0 (L.flatMap blkCells) := by
    obtain ⟨a', c', e, _, _, h3⟩ := own_cells hown
    simp only [Value.slice.injEq] at e
    obtain ⟨rfl, -⟩ := e
    rcases h3 with h3 | ⟨g', e, _, hc⟩
    · refine ⟨0, fun hL => ?_, fun i hi => by rw [h3] at hi; simp at hi⟩
      have := flat_len blkCells 2 (fun _ => rfl) L
      rw [h3] at this
      exact absurd (List.eq_nil_of_length_eq_zero (by simp at this; omega)) hL
    · exact ⟨g', fun _ => e, hc⟩
  have hnv : ∀ b ∈ L, ∃ a n c, b.nv = .slice a n c := fun b hb => by
    obtain ⟨a, c, e, _⟩ := own_cells (h.blk b hb).names
    exact ⟨a, _, c, e⟩
  refine (callsIn_wide (n := 9)).1 ?_
  refine callsIn_of_wp_marks Try.func29 rfl trivial ?_ rfl
  simp only [Try.ntmps29, List.size_toArray, List.length_cons, List.length_nil, Nat.reduceAdd, Nat.reduceSub, Array.replicate_succ, Array.replicate_zero, List.push_toArray, List.append_toArray, List.nil_append, List.cons_append]
  have HH := Lib.hid h
  clear h hown hFv
  gi_wp2_with (refine ⟨trivial, ?_⟩; gi_at_call 31; refine (callsIn_wide.2 (inwards_any _ _)).mono ?_; rintro e w' ⟨rfl, rfl⟩)
  have bN0 := Boxed.new w 9 (.string s)
  have bR0 := Boxed.new (w.alloc (.cells #[.string s] 9)) 63 (.pointer none)
  have bP0 := Boxed.new ((w.alloc (.cells #[.string s] 9)).alloc (.cells #[.pointer none] 63)) 67 (.pointer (some ⟨p, 0, none⟩))
  rw [World.size_alloc] at bR0
  rw [World.size_alloc, World.size_alloc] at bP0
  generalize hw3 : ((w.alloc (.cells #[.string s] 9)).alloc (.cells #[.pointer none] 63)).alloc (.cells #[.pointer (some ⟨p, 0, none⟩)] 67) = w3 at *
  have hB3 : Below w.heap.size w w3 := by rw [← hw3]; exact (((Below.refl _ w).alloc (Nat.le_refl _) _).alloc (by simp) _).alloc (by simp <;> omega) _
  have hS3 : w3.heap.size = w.heap.size + 3 := by rw [← hw3]; simp
  have bN : Boxed w3 w.heap.size 9 (.string s) := by rw [← hw3]; exact (bN0.alloc _).alloc _
  have bR : Boxed w3 (w.heap.size + 1) 63 (.pointer none) := by rw [← hw3]; exact bR0.alloc _
  clear bN0 bR0 hw3
  have hrow : RowAt w3 (w.heap.size + 2) p g cap L := ⟨bP0.cell, ⟨a, (Fr.new hB3).cell hc0 fun e => e, hga⟩, hcs.fr (Fr.new hB3) fun e => e, hcap, hcm⟩
  have HRW := Lib.hid hrow
  have HLK := Lib.hid fun (W : World) (hW : Below w3.heap.size w3 W) (b : MB) (hb : b ∈ L) => ((HH.out.new ((Fr.new hB3).trans (Fr.new hW))).blk b hb).look s
  have hgl : ∀ i (hi : i < (L.flatMap blkCells).length), g < w3.heap.size := fun i hi => World.block_lt_of_cell? w3 _ (hrow.cells i hi)
  have hpl : p < w3.heap.size := by omega
  have hKR : ∀ A B, Below w3.heap.size A B → RowAt A (w.heap.size + 2) p g cap L → RowAt B (w.heap.size + 2) p g cap L := fun A B hb h => by
    obtain ⟨a, h1, h2⟩ := h.row
    exact ⟨(hb.cell (p := ⟨w.heap.size + 2, 0, none⟩) (show w.heap.size + 2 < w3.heap.size by omega)).trans h.box, ⟨a, (hb.cell (p := ⟨p, 0, none⟩) hpl).trans h1, h2⟩, fun i hi => (hb.cell (p := ⟨g, 0 + i, none⟩) (hgl i hi)).trans (h.cells i hi), h.hcap, h.hcm⟩
  have hb30 := Below.refl w3.heap.size w3
  have HS3 := Lib.hid hS3
  clear hrow hcs hga hc0 hc1 hobj hS3
  refine wpIn_rangeFunc_ownH rfl (by omega) (gf := 32) (lb := #[.pointer (some ⟨w.heap.size + 1 + 1, 0, none⟩)]) rfl trivial (enters_of Try.func32 (by kernel_rfl) rfl)
    (inwards_stops 8 (by omega) (w.heap.size + 2) p g cap L (Below w3.heap.size) hKR hnv w3 HRW.out)
    belowK_t (belowK_b (Nat.le_refl _)) (Below.refl _ _) (fun _ => rfl)
    (FindI L s w3) (FindX L s w)
    ?hI ?hIx ⟨fun b hb => by simp at hb, Below.refl _ _⟩
    (fun x a' W => ∃ bb, w3.heap.size ≤ bb ∧ W.heap[bb]? = some (.cells #[x.1.nv, .map (some x.1.mb)] 58 (0, 0)) ∧
      a' = { tmps := #[.pointer (some ⟨p, 0, none⟩), .string s, undef, .pointer (some ⟨w.heap.size, 0, none⟩), .pointer (some ⟨w.heap.size + 1, 0, none⟩), .pointer (some ⟨bb, 0, none⟩), undef, .pointer (some ⟨p, 0, none⟩), .func (.func 32) #[] #[.pointer (some ⟨w.heap.size + 1 + 1, 0, none⟩)], .agg #[x.1.nv, .map (some x.1.mb)], undef, undef, undef, undef, undef, undef, undef], defers := [] })
    ?hAx ?assign ?body ?done ?stop
  case hI =>
    rintro pre W W' row ⟨h1, h2⟩ hg hr
    exact ⟨h1, h2.grown hg h2.size fun k e => (hr k e).1⟩
  case hIx =>
    rintro c pre W W' row ⟨hc, x, h1, h2, h3⟩ hg hr
    exact ⟨hc, x, h1, h2.kept hg fun e => by have := (hr _ e.symm).1; have := HS3.out; omega, h3.grown hg h3.size fun k e => by have := (hr k e).1; have := HS3.out; omega⟩
  case hAx =>
    rintro x a' _ W W' row ⟨bb, h1, h2, h3⟩ hg hr
    refine ⟨bb, h1, ((Fr.grown hg).obj h2 fun e => ?_), h3⟩
    obtain ⟨_, o, ho, hc⟩ := hr bb e
    rw [h2] at ho
    cases ho
    cases hc
  case assign =>
    rintro l pre ⟨b, hb⟩ W K ⟨h1, h2⟩ hK
    obtain ⟨a1, n1, c1, hnv1⟩ := hnv b hb
    have HK := Lib.hid hK
    clear hK hKR hgl
    simp only [blkArg, hnv1]
    gi_wp2
    refine HK.out _ _ ((KeepsOthers.alloc W _).from _) ((Below.refl _ _).alloc h2.size _) ⟨h1, h2.alloc h2.size _⟩ ⟨W.heap.size, h2.size, ?_, ?_⟩
    · rw [hnv1]
      exact alloc_obj W _
    · rw [hnv1]
  case body =>
    rintro l pre ⟨b, hb⟩ a' W hl _ ⟨h1, h2⟩ ⟨bb, hbb, hbo, rfl⟩ hlen
    obtain ⟨a1, n1, c1, hnv1⟩ := hnv b hb
    have hlk := HLK.out W h2 b hb
    have x0 := obj_cell hbo 0 rfl
    have x1 := obj_cell hbo 1 rfl
    have y0 := (h2.cell (p := ⟨w.heap.size, 0, none⟩) (show w.heap.size < w3.heap.size by have := HS3.out; omega)).trans bN.cell
    have hbR : Boxed W (w.heap.size + 1) 63 (.pointer none) := (Fr.new h2).obj bR fun e => e
    have y1 := hbR.cell
    have y2 := hbR.frozen
    have H1 := Lib.hid h1
    have H2 := Lib.hid h2
    have HBR := Lib.hid hbR
    clear hKR hgl h1 h2 hbR hbo
    cases hf : findTh b.l s with
    | none =>
      have HF := Lib.hid hf
      rw [hf] at hlk
      simp only [Option.map_none] at hlk
      clear hf
      gi_wp2
      exact ⟨(KeepsOthers.refl W).from _, Below.refl _ _, FindI.next ⟨H1.out, H2.out⟩ HF.out⟩
    | some x =>
      have HF := Lib.hid hf
      rw [hf] at hlk
      simp only [Option.map_some] at hlk
      clear hf
      gi_wp2
      exact ⟨(KeepsOthers.setCell W _ _).from _, FindI.hit ⟨H1.out, H2.out⟩ HF.out (HBR.out.set _) ((hB3.trans (H2.out.mono (by have := HS3.out; omega))).setCell (p := ⟨w.heap.size + 1, 0, none⟩) (by simp) _)⟩
  case done =>
    rintro D ys W hD hys hI hK
    have hbR : Boxed W (w.heap.size + 1) 63 (.pointer none) := (Fr.new hI.2).obj bR fun e => e
    have y1 := hbR.cell
    have y2 := hbR.frozen
    have hres : findPtr L s = .pointer none := by
      unfold findPtr findB
      rw [← hys, hI.none]
      rfl
    have HRES := Lib.hid hres
    have HI := Lib.hid hI
    clear hKR hgl hI hys hres
    gi_wp2
    have hset : Fr (only (w.heap.size + 1)) W (W.setCell ⟨w.heap.size + 1, 0, none⟩ (.pointer none)) := Fr.setCell' _ _ rfl
    have hK' := hset.obj hK (fun e => by have e' : D = w.heap.size + 1 := e; have := HS3.out; omega)
    have hb1 : Boxed (W.setCell ⟨w.heap.size + 1, 0, none⟩ (.pointer none)) (w.heap.size + 1) 63 (.pointer none) := hbR.set _
    have hB : Below w.heap.size w (W.setCell ⟨w.heap.size + 1, 0, none⟩ (.pointer none)) := (hB3.trans (HI.out.2.mono (by have := HS3.out; omega))).setCell (p := ⟨w.heap.size + 1, 0, none⟩) (by simp) _
    refine ⟨by simp, .inl ⟨_, _, rfl, run_takeDeferred hK', ?_⟩⟩
    have hg := grownBy_putObj' (W.setCell ⟨w.heap.size + 1, 0, none⟩ (.pointer none)) D (.deferred none)
    have hb2 := hb1.kept hg (by simp; have := HS3.out; omega)
    have hc2 := hb2.cell
    refine ⟨.pointer none, ?_, by rw [HRES.out], hB.grown hg hB.size fun k e => by cases e; have := HS3.out; omega⟩
    simp [results, Try.results29, go_sem, hc2]
  case stop =>
    rintro D c pre W hD hSp ⟨rfl, x, h1, h2, h3⟩ hK
    have y1 := h2.cell
    have y2 := h2.frozen
    have hres : findPtr L s = .pointer (some ⟨x.pos, 0, none⟩) := by
      unfold findPtr findB
      obtain ⟨t, ht⟩ := hSp
      rw [← ht, List.findSome?_append, h1]
      rfl
    have HRES := Lib.hid hres
    clear hKR hgl h1 hSp hres
    gi_wp2
    refine ⟨by simp, .inl ⟨_, _, rfl, run_takeDeferred hK, ?_⟩⟩
    have hg := grownBy_putObj' W D (.deferred none)
    have hb2 := h2.kept hg (by simp; have := HS3.out; omega)
    have hc2 := hb2.cell
    refine ⟨.pointer (some ⟨x.pos, 0, none⟩), ?_, by rw [HRES.out], h3.grown hg h3.size fun k e => by cases e; have := HS3.out; omega⟩
    simp [results, Try.results29, go_sem, hc2]
end Go.Proofs.Yticdoccaabfjaaa
