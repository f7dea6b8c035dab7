/-
  Package first: sure, vanish.
-/
import Derived.Test.YtfhleelechbdmaaDoorFi3
namespace Go.Proofs.YtfhleelechbdmaaDoor
open Go.RowKit
set_option maxHeartbeats 400000

theorem wp_atW {P : Program} {c : Code} {Q : Exit → Act → World → Prop} {a : Act} {w : World} (F : World → Prop) (hF : F w) (h : ∀ W, F W → c.wp P Q a W) : c.wp P Q a w := h w hF
set_option maxRecDepth 100000 in
theorem indexB_any (L : List Bool) (b : Nat) (w : World) (hb : w.heap[b]? = some (boolsObj L)) (hl : L.length ≤ 1000) (hall : ∀ i, i < L.length → atB L i = true) :
    Calls Tryd.prog 41 #[.slice (some ⟨b, 0, none⟩) L.length L.length, .bool false] w fun e w' => e = .returned (.int .i64 (-1)) ∧ w = w' := by
  have HA := Lib.hid fun i hi => (bools_at hb i hi).trans (by rw [hall i hi])
  clear hb hall
  generalize L.length = N at *
  go_enter Tryd.func41, Tryd.ntmps41
  go_wp2
  go_loopw [4, 5, 8] (fun _ _ i wr => ∃ k : Nat, k ≤ N ∧ i = .int .i64 k ∧ w = wr) (fun _ _ i _ => N - (intOf i).toNat)
  case atStart => exact ⟨0, Nat.zero_le _, rfl, rfl⟩
  case round =>
    obtain ⟨k, hk, rfl, rfl⟩ := hrel
    by_cases hlt : k < N
    · have c0 := HA.out k hlt
      go_wp2
      go_roundw
      case rel => exact ⟨k + 1, by omega, by simp, trivial⟩
      case measure => simp [intOf]; omega
    · obtain rfl : k = N := by omega
      clear hlt
      go_wp2
      go_ret
      exact ⟨rfl, rfl⟩
theorem containsB_any (L : List Bool) (b : Nat) (w : World) (hb : w.heap[b]? = some (boolsObj L)) (hl : L.length ≤ 1000) (hall : ∀ i, i < L.length → atB L i = true) :
    Calls Tryd.prog 34 #[.slice (some ⟨b, 0, none⟩) L.length L.length, .bool false] w fun e w' => e = .returned (.bool false) ∧ w = w' := by
  have HI := Lib.hid (indexB_any L b w hb hl hall)
  clear hb hall
  generalize L.length = N at *
  go_enter Tryd.func34, Tryd.ntmps34
  go_wp2_with (go_at_call 41; refine HI.out.mono ?_; rintro e w' ⟨rfl, rfl⟩)
  go_ret
  exact ⟨rfl, rfl⟩
theorem sure_any (L : List Bool) (b : Nat) (w : World) (hb : w.heap[b]? = some (boolsObj L)) (hl : L.length ≤ 1000) (hall : ∀ i, i < L.length → atB L i = true) :
    Calls Tryd.prog 21 #[.slice (some ⟨b, 0, none⟩) L.length L.length] w fun e w' => e = .returned (.tuple #[]) ∧ w = w' := by
  have HI := Lib.hid (containsB_any L b w hb hl hall)
  clear hb hall
  generalize L.length = N at *
  go_enter Tryd.func21, Tryd.ntmps21
  go_wp2_with (go_at_call 34; refine HI.out.mono ?_; rintro e w' ⟨rfl, rfl⟩)
  go_end0
  exact ⟨rfl, rfl⟩

open Classical in
noncomputable def nulL (G : Gram) : List Bool := (List.range G.syms.length).map fun s => decide (Nul G s)
theorem nulL_len (G : Gram) : (nulL G).length = G.syms.length := by simp [nulL]
theorem nul_lt {G : Gram} (hin : InG G) {s : Nat} (h : Nul G s) : s < G.syms.length := by
  cases h with
  | prod hp _ => exact (hin _ hp).left
theorem nulL_iff {G : Gram} (hin : InG G) {s : Nat} : atB (nulL G) s = true ↔ Nul G s := by
  unfold atB nulL
  by_cases h : s < G.syms.length
  · simp [h]
  · simp [h]
    exact fun hn => h (nul_lt hin hn)
theorem list_of_at {L L' : List Bool} (hl : L.length = L'.length) (h : ∀ s, atB L s = true ↔ atB L' s = true) : L = L' := by
  refine List.ext_getElem hl fun i h1 h2 => ?_
  have := h i
  unfold atB at this
  rw [List.getElem?_eq_getElem h1, List.getElem?_eq_getElem h2] at this
  simp only [Option.getD_some] at this
  cases e1 : L[i] <;> cases e2 : L'[i] <;> simp_all
theorem va_end {G : Gram} (hin : InG G) {L : List Bool} (hP : PathS vaStep G.prods (List.replicate G.syms.length false) L) (hC : ClosedS vaStep G.prods L) : L = nulL G := by
  have hlen : L.length = G.syms.length := path_ok (va_good hin) (by simp) hP
  exact list_of_at (hlen.trans (nulL_len G).symm) fun s => by rw [va_law hin hP hC, nulL_iff hin]

/-- What was made: a new block of truths. -/
def NewB (w w' : World) (v : Value) (L : List Bool) : Prop :=
  ∃ b, v = .slice (some ⟨b, 0, none⟩) L.length L.length ∧ w.heap.size ≤ b ∧ w'.heap[b]? = some (boolsObj L) ∧ Below w.heap.size w w'
theorem bools_inj {L L' : List Bool} (h : boolsObj L = boolsObj L') : L = L' := by
  unfold boolsObj at h
  simp only [Obj.cells.injEq, Array.mk.injEq, and_true] at h
  exact (List.map_inj_right fun _ _ e => by simpa using e).1 h
theorem enters28 : Enters Tryd.prog 28 := enters_of Tryd.func28 (by kernel_rfl) rfl

set_option maxRecDepth 100000 in
set_option maxHeartbeats 4000000 in
theorem vanish_any (G : Gram) (hr : rightG G = true) (v : Value) (w : World) (h : IsGram w v G) :
    Calls Tryd.prog 18 #[v] w fun e w' => ∃ r, e = .returned r ∧ NewB w w' r (nulL G) := by
  have hin := right_in hr
  obtain ⟨⟨ht0, ht1, hn0, hn1, _, _⟩, _, _⟩ := rightG_parts hr
  have hG := h
  obtain ⟨hterms, vs, vp, rfl, hs, hp⟩ := h
  obtain ⟨_, sa, sc, rfl, _, _, _⟩ := id hs
  obtain ⟨_, pa, pc, rfl, _, _, _⟩ := id hp
  obtain ⟨i0, hi, hz0, hz1, hz2⟩ := info_parts Tryd.infoBool
  have HML := Lib.hid fun L => va_end (L := L) hin
  have HGD := Lib.hid (va_good hin)
  have HLEN := Lib.hid (nulL_len G)
  have HG := Lib.hid hG
  have HIN := Lib.hid hin
  have HO := Lib.hid (alloc_obj w (Obj.cells #[.int .i64 G.terms, .slice sa G.syms.length sc, .slice pa G.prods.length pc] 25 (0, 0)))
  have HB1 := Lib.hid ((Below.refl _ w).alloc (Nat.le_refl _) (Obj.cells #[.int .i64 G.terms, .slice sa G.syms.length sc, .slice pa G.prods.length pc] 25 (0, 0)))
  have hR := right_gram G _ _ (hG.fr (Fr.new HB1.out))
  rw [hr] at hR
  have HR := Lib.hid hR
  clear hG hs hp hin hr hR
  go_enter Tryd.func18, Tryd.ntmps18
  go_upto_region 2 with (first | (go_at_call 6; refine HR.out.mono ?_; rintro e w2 ⟨rfl, hb2⟩; have HSU := Lib.hid (sure_any [true] w2.heap.size (w2.alloc (Obj.cells #[.bool true] 4 (0, 0))) (alloc_obj _ _) (by decide) (by simp [atB]))) | (go_at_call 21; refine HSU.out.mono ?_; rintro e w3 ⟨rfl, rfl⟩))
  have hB2 := HB1.out.trans (hb2.mono HB1.out.size)
  have hO2 := (Fr.new hb2).obj HO.out fun e => e
  refine wp_atW (F := fun W => W.heap[w.heap.size]? = some (Obj.cells #[.int .i64 G.terms, .slice sa G.syms.length sc, .slice pa G.prods.length pc] 25 (0, 0)) ∧ Below w.heap.size w W) ?_ ?_
  · exact ⟨alloc_older hO2, hB2.alloc hB2.size _⟩
  intro W ⟨hO, hB⟩
  clear HO HB1 HR hb2 hB2 hO2
  have d1 := obj_cell hO 1 rfl
  have HO := Lib.hid hO
  have HB := Lib.hid hB
  clear hO hB
  go_upto_region 3 with (first | (at_make; refine wpList_make_full _ rfl _ _ 33 rfl w.heap.size 4 i0 (.bool false) 1 Tryd.underlying33 hi hz0 hz1 .i64 .i64 _ _ G.syms.length rfl rfl rfl rfl (by rw [hz2]; omega) (by unfold maxLen; omega) HB.out.size ?_; intro w4 hown hgrow))
  have hb4 := made_bools hown
  have hF4 := Fr.grown hgrow
  have hO4 := hF4.obj HO.out (fun e => by cases e)
  have hB4 : Below w.heap.size w w4 := HB.out.grown hgrow HB.out.size (fun k e => by cases e)
  have hl1 : W.heap.size < w4.heap.size := (Array.getElem?_eq_some_iff.1 hb4).1
  have hl0 := (Array.getElem?_eq_some_iff.1 HO.out).1
  have hlw := HB.out.size
  refine wp_atW (F := fun Y => Y.heap[w.heap.size]? = some (Obj.cells #[.int .i64 G.terms, .slice sa G.syms.length sc, .slice pa G.prods.length pc] 25 (0, 0)) ∧ Y.heap[W.heap.size]? = some (boolsObj (zeros G.syms.length)) ∧ Y.heap[w4.heap.size]? = some (boxB W.heap.size G.syms.length) ∧ Below w.heap.size w Y) ?_ ?_
  · exact ⟨alloc_older hO4, alloc_older hb4, alloc_obj _ _, hB4.alloc hB4.size _⟩
  intro Y ⟨hO, hb, hbx, hB⟩
  clear hown hgrow hb4 hF4 hO4 hB4 HB d1 HSU
  have q0 := obj_cell hO 0 rfl
  have q1 := obj_cell hO 1 rfl
  have q2 := obj_cell hO 2 rfl
  have HBY := Lib.hid hB
  have hT := till_any (σ := List Bool) G (only W.heap.size) (fun L X => X.heap[W.heap.size]? = some (boolsObj L) ∧ X.heap[w4.heap.size]? = some (boxB W.heap.size G.syms.length)) (fun L => L.length = G.syms.length) (fun L => L.count false) 28 #[.pointer (some ⟨w4.heap.size, 0, none⟩)] vaStep (zeros G.syms.length) _ w Y HG.out ⟨hb, hbx⟩ (zeros_len _) HGD.out
    ⟨hB, fun k e => by unfold only at e; subst e; exact ⟨hlw, (Array.getElem?_eq_some_iff.1 hb).1⟩, fun _ _ _ h1 h2 => by rw [bools_inj (Option.some.inj (h1.1.symm.trans h2.1))], fun _ _ _ h => ⟨alloc_older h.1, alloc_older h.2⟩⟩
    ⟨enters28, fun w1 _ hw1 L hL hI v p hp hv => (vaStep_any L p W.heap.size w4.heap.size v w1 (by rw [hL]; exact hI.2) hI.1 (hv.fr (Fr.new hw1)) (by rw [hL]; exact HIN.out p hp)).mono fun e w' ⟨h1, h2, h3⟩ => ⟨h1, ⟨h2, h3.obj hI.2 (by unfold only; omega)⟩, h3⟩⟩
  have HT := Lib.hid hT
  clear hT hO hb hbx hB
  go_wp2_with (go_at_call 27; refine HT.out.mono ?_; rintro e w5 ⟨rfl, hx, hf5⟩; have d4 := obj_cell (hx.elim fun _ h => h.2.2.2.2) 0 rfl)
  go_ret
  obtain ⟨L, hp, hc, hl, hb⟩ := hx
  obtain rfl := HML.out L hp hc
  exact ⟨_, rfl, W.heap.size, by rw [HLEN.out]; rfl, by omega, hb.1, HBY.out.trans (hf5.below HBY.out.size fun k e => by unfold only at e; omega)⟩
end Go.Proofs.YtfhleelechbdmaaDoor
