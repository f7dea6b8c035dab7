/-
  Package items: a kernel's copy.
  Package items: the walk of a closure.
  The statements' own helpers on productions: LentProds.
  Package items: how items are compared.
  Package items: sorted.
  Maps of items: a set.
  Package items: compact.
  The statements' own helpers on productions: KeptProds.
  Lists that a call has made are lists of numbers, of symbols, of productions.
  Package items: sorted, closure.
  Package clash: may entries meet?
  Package clash: the first shift of some entries.
  Package items: what a closure goes on to.
  Package clash: a shift against a reduction.
  Package clash: Pick.
  Package items: Closure, Goto.
  The statements' own helpers on grammars: LentGrammar, SameGrammar, KeptGrammar.
  The other way round the same one wins: the plain law.
  Package items: a kernel's key.
-/
import Derived.Test.YtpnihegmhalcfaaRunG08
import Derived.Lib.SliceRun
import Derived.Sort.OwnSorted
import Derived.Test.YtpnihegmhalcfaaRunG06
import Derived.Test.YtpnihegmhalcfaaRunG01
import Derived.DeepKeys4
import Derived.Laws.StructEq
import Derived.Laws.IdiomCopy
import Derived.Test.YtpnihegmhalcfaaRunG03
import Derived.Test.YtpnihegmhalcfaaRunG05
namespace Go.Proofs.Ytpnihegmhalcfaa
open Go.RowKit Go.MapKept Go.ChangeMaps
set_option maxHeartbeats 400000

theorem Try.infoItem : (Try.prog.info? 102).map (fun i => (i.zero, i.size, i.bytes)) = some (some (.agg #[.int .i64 0, .int .i64 0]), 2, 16) := by kernel_rfl
theorem enc_one (l : List It) : ∀ u ∈ l.flatMap encI, u.oneCell' = true := fun u hu => by
  obtain ⟨x, _, hx⟩ := List.mem_flatMap.1 hu
  simp only [encI, List.mem_cons, List.not_mem_nil, or_false] at hx
  rcases hx with rfl | rfl <;> rfl
theorem own_laid0 {w : World} {B e size g n : Nat} {cs : Array Value} (hg : w.heap[g]? = some (.cells cs e (0, 0))) (hb : B ≤ g) (hs : cs.size = n * size) (hn : n ≤ maxLen) : w.ownsRow B e size (.slice (some ⟨g, 0, none⟩) n n) n cs.toList :=
  ⟨by simpa using hs, .inr ⟨g, n, cs, rfl, hb, hg, Nat.le_refl _, hn, hs, by rw [List.take_of_length_le (by simp; omega)]⟩⟩
/-- What is a new list of items. -/
def NewI (l : List It) (w : World) (e : Ending) (w' : World) : Prop := ∃ u, e = .returned u ∧ OwnI w' w.heap.size u l ∧ Below w.heap.size w w'
theorem IsItems.cells {w : World} {a : Option Addr} {n c : Nat} {l : List It} (h : IsItems w (.slice a n c) l) : (a = none ∧ n = 0) ∨ ∃ ad, a = some ad ∧ ∀ j u, (l.flatMap encI)[j]? = some u → w.cell? (ad.add j) = some u := by
  obtain ⟨h1, a', c', e, h2, h3, h4⟩ := h
  simp only [Value.slice.injEq] at e
  obtain ⟨rfl, rfl, rfl⟩ := e
  rcases h4 with rfl | ⟨b, o, rfl, hx⟩
  · cases a with
    | none => exact .inl ⟨rfl, rfl⟩
    | some ad => exact .inr ⟨ad, rfl, fun j u hj => by simp at hj⟩
  · refine .inr ⟨_, rfl, cells_add fun j hj => ?_⟩
    rw [enc_len] at hj
    have hi : j / 2 < l.length := by omega
    obtain ⟨_, hc⟩ := hx (j / 2) hi
    have h5 := hc (j % 2) (by simp [encI]; omega)
    have h6 := enc_flat_at hi (j % 2) (by omega)
    have e : j / 2 * 2 + j % 2 = j := by omega
    rw [e] at h6
    rw [List.getElem?_eq_getElem (by rw [enc_len]; exact hj), List.getElem?_eq_getElem (by simp [encI]; omega)] at h6
    simp only [Option.some.injEq] at h6
    rw [h6, ← h5]
    congr 2
    omega

end Go.Proofs.Ytpnihegmhalcfaa
namespace Go.Proofs.Ytpnihegmhalcfaa
open Go.RowKit Go.MapKept Go.ChangeMaps
set_option maxHeartbeats 400000

theorem zBool (w : World) : (zeroValue 4).run Try.prog w = .ok (.bool false) w := by kernel_rfl
theorem two_news {w : World} {b : Nat} {x y : Value} {t : TypeId} {f : Nat × Nat} (h : w.heap[b]? = some (.cells #[x, y] t f)) : ∀ j u, [x, y][j]? = some u → w.cell? ((⟨b, 0, none⟩ : Addr).add j) = some u :=
  cells_add fun i hi => by
    rw [Nat.zero_add]
    refine obj_cell h i ?_
    match i with
    | 0 => rfl
    | 1 => rfl
    | i + 2 => exact absurd hi (by simp)
/-- The set of symbols that have been seen. -/
def seenF (syms : List Int) : Value → Option Value := fun k => match k with | .int .i64 t => if t ∈ syms then some (.bool true) else none | _ => none
theorem seenF_new : seenF [] = fun _ => none := by
  funext k
  unfold seenF
  split <;> simp
theorem seenF_get (syms : List Int) (s : Int) : (seenF syms (.int .i64 s)).getD (.bool false) = .bool (decide (s ∈ syms)) := by
  unfold seenF
  simp only
  split
  · rename_i h; rw [decide_eq_true h]; rfl
  · rename_i h; rw [decide_eq_false h]; rfl
theorem seenF_same (syms : List Int) (s : Int) : seenF (s :: syms) (.int .i64 s) = some (.bool true) := by simp [seenF]
theorem seenF_other (syms : List Int) (s : Int) : ∀ k', IsKey (.int .i64) k' → k' ≠ .int .i64 s → seenF (s :: syms) k' = seenF syms k' := fun k' hk hne => by
  unfold seenF
  split
  · rename_i t
    have : t ≠ s := fun e => hne (by rw [e])
    simp [this]
  · rfl
theorem ownI_ownN (G : Gram) (s : Int) : ownI G s = (ownN G G.prods.length s).map fun p : Nat => ((p : Int), (0 : Int)) := rfl

theorem inI_i64 {G : Gram} (hm : G.prods.length ≤ 100000) (hs : ∀ p ∈ G.prods, p.right.length ≤ 17592186044416) {x : It} (hx : InI G x) : i64 x.1 ∧ i64 x.2 := by
  obtain ⟨p, d⟩ := x
  obtain ⟨h0, h1, h2, h3⟩ := hx
  simp only at h0 h1 h2 h3 ⊢
  obtain ⟨pn, rfl⟩ : ∃ n : Nat, p = (n : Int) := ⟨p.toNat, by omega⟩
  have hlt : pn < G.prods.length := by omega
  rw [rightOf_at G hlt] at h3
  have := hs _ (List.getElem_mem hlt)
  unfold i64
  omega
theorem clo_next {G : Gram} {l L : List It} {syms : List Int} {k M : Nat} (h : CloAt G l L syms ∧ (∀ j (hj : j < L.length), j < k → ∀ s, behI G L[j] = some s → s ∈ syms) ∧ L.length + remI G syms ≤ M ∧ (∀ x ∈ L, InI G x)) (hk : k < L.length) (hb : ∀ s, behI G L[k] = some s → s ∈ syms) :
    CloAt G l L syms ∧ (∀ j (hj : j < L.length), j < k + 1 → ∀ s, behI G L[j] = some s → s ∈ syms) ∧ L.length + remI G syms ≤ M ∧ (∀ x ∈ L, InI G x) :=
  ⟨h.1, fun j hj hjk s hs => by
    by_cases e : j = k
    · subst e; exact hb s hs
    · exact h.2.1 j hj (by omega) s hs, h.2.2⟩
theorem clo_more {G : Gram} {l L : List It} {syms : List Int} {k M : Nat} {s : Int} (h : CloAt G l L syms ∧ (∀ j (hj : j < L.length), j < k → ∀ s, behI G L[j] = some s → s ∈ syms) ∧ L.length + remI G syms ≤ M ∧ (∀ x ∈ L, InI G x)) (hk : k < L.length) (hb : behI G L[k] = some s) (hs : s ∉ syms) :
    CloAt G l (L ++ ownI G s) (s :: syms) ∧ (∀ j (hj : j < (L ++ ownI G s).length), j < k + 1 → ∀ t, behI G (L ++ ownI G s)[j] = some t → t ∈ s :: syms) ∧ (L ++ ownI G s).length + remI G (s :: syms) ≤ M ∧ (∀ x ∈ L ++ ownI G s, InI G x) := by
  obtain ⟨⟨h1, h2, h3⟩, h4, h5, h6⟩ := h
  refine ⟨⟨fun z hz => List.mem_append_left _ (h1 z hz), fun t ht' z hz => ?_, fun z hz => ?_⟩, fun j hj hjk t ht => ?_, ?_, fun z hz => ?_⟩
  · rcases List.mem_cons.1 ht' with rfl | ht'
    · exact List.mem_append_right _ hz
    · exact List.mem_append_left _ (h2 t ht' z hz)
  · rcases List.mem_append.1 hz with hz | hz
    · exact h3 z hz
    · obtain ⟨p, hp, hl, rfl⟩ := ownI_mem.1 hz
      exact .step hp (h3 _ (List.getElem_mem hk)) hb hl
  · rw [List.getElem_append_left (by omega)] at ht
    by_cases e : j = k
    · subst e
      rw [hb] at ht
      cases ht
      simp
    · exact List.mem_cons_of_mem _ (h4 j (by omega) (by omega) t ht)
  · have := rem_step G s syms hs
    rw [List.length_append]
    omega
  · rcases List.mem_append.1 hz with hz | hz
    · exact h6 z hz
    · exact inI_own hz
end Go.Proofs.Ytpnihegmhalcfaa
namespace Go.Proofs.Ytpnihegmhalcfaa
open Go.RowKit
set_option maxHeartbeats 400000

/-- A production that may be handed in. -/
structure PrdFit (p : Prd) : Prop where
  ok : PrdOk p
  bound : ∀ x ∈ p.right, -9223372036854775808 ≤ x ∧ x ≤ 9223372036854775807
  len : p.right.length ≤ 17592186044416
/-- What LentProds answers: its list, each with numbers of its own, the marks behind its end. -/
def LentPs (w : World) (B : Nat) (v : Value) (l : List Prd) : Prop :=
  ∃ g cap, ∃ xs : List (Prd × Value), v = .slice (some ⟨g, 0, none⟩) l.length cap ∧ B ≤ g ∧ l.length + 12 ≤ cap ∧ cap ≤ maxLen ∧ xs.map Prod.fst = l ∧ Cells w g 0 ((xs ++ markPs 12).flatMap cellsP) ∧ (∀ x ∈ xs, Lent w B x.2 x.1.right) ∧ (∀ p ∈ l, PrdFit p) ∧ l.length ≤ 17592186044416
theorem LentPs.fr {w w' : World} {B : Nat} {v : Value} {l : List Prd} (h : LentPs w B v l) (k : Fr nothing w w') : LentPs w' B v l := by
  obtain ⟨g, cap, xs, h1, h2, h3, h4, h5, h6, h7, h8, h9⟩ := h
  exact ⟨g, cap, xs, h1, h2, h3, h4, h5, h6.fr k fun e => e, fun x hx => (h7 x hx).fr k fun _ _ e => e, h8, h9⟩
theorem LentPs.prds {w : World} {B : Nat} {v : Value} {l : List Prd} (h : LentPs w B v l) : IsPrds w v l := by
  obtain ⟨g, cap, xs, rfl, _, h3, h4, rfl, h6, h7, h8, h9⟩ := h
  refine ⟨h9, some ⟨g, 0, none⟩, cap, rfl, by omega, h4, .inr ⟨g, 0, rfl, fun i hi => ?_⟩⟩
  have hi' : i < xs.length := by simpa using hi
  have hc := flat_cells (m := 6) (fun _ => rfl) h6 i (by rw [List.length_append]; omega)
  rw [List.getElem_append_left hi'] at hc
  have hf := h8 _ (List.getElem_mem hi)
  simp only [List.getElem_map] at hf ⊢
  exact ⟨hf.ok, xs[i].2, (h7 _ (List.getElem_mem hi')).ints hf.bound hf.len, hc⟩
theorem prds_fit {w : World} {v : Value} {l : List Prd} (h : IsPrds w v l) : ∀ p ∈ l, PrdFit p := fun p hp => by
  obtain ⟨i, hi, rfl⟩ := List.mem_iff_getElem.1 hp
  obtain ⟨_, a, cap, _, _, _, hx⟩ := h
  rcases hx with rfl | ⟨b, o, _, hx⟩
  · simp at hi
  · obtain ⟨ok, r, ⟨h1, h2, _⟩, _⟩ := hx i hi
    exact ⟨ok, h1, h2⟩
theorem prds_one (l : List (Prd × Value)) (h : ∀ x ∈ l, ∃ a n c, x.2 = .slice a n c) : ∀ u ∈ l.flatMap cellsP, u.oneCell' = true := fun u hu => by
  obtain ⟨s, hs', hs⟩ := List.mem_flatMap.1 hu
  obtain ⟨a, n, c, e⟩ := h s hs'
  simp only [cellsP, prdCells, List.mem_cons, List.not_mem_nil, or_false] at hs
  rcases hs with rfl | rfl | rfl | rfl | rfl | rfl
  · rfl
  · rw [e]; rfl
  · rfl
  · rfl
  · rfl
  · rfl
theorem cells_new_at {w : World} {k : Nat} (h : w.heap.size = k) (vs : List Value) (cs : Array Value) (hcs : cs = vs.toArray) (t : TypeId) (z : Nat × Nat) : Cells (w.alloc (.cells cs t z)) k 0 vs := h ▸ cells_new w vs cs hcs t z
theorem Try.infoPrd : (Try.prog.info? 46).map (fun i => (i.zero, i.size, i.bytes)) = some (some (.agg #[.int .i64 0, .slice none 0 0, .int .i64 0, .bool false, .string ⟨#[]⟩, .int .i64 0]), 6, 72) := by kernel_rfl

set_option maxRecDepth 100000 in
set_option maxHeartbeats 2000000 in
theorem lentProds_any (u : Value) (l : List Prd) (w : World) (h : IsPrds w u l) (hlen : l.length ≤ 1000000000000) :
    Calls Try.prog 37 #[u] w fun e w' => ∃ v, e = .returned v ∧ LentPs w' w.heap.size v l ∧ Below w.heap.size w w' := by
  have hfit := prds_fit h
  obtain ⟨_, a, cap, rfl, _, _, hxx⟩ := id h
  clear hxx
  obtain ⟨i0, hi, hz0, hz1, hz2⟩ := info_parts Try.infoPrd
  have HFIT := Lib.hid hfit
  have HL := Lib.hid h
  clear h hfit
  generalize hN : l.length = N at *
  have HN := Lib.hid hN
  clear hN
  go_enter Try.func37, Try.ntmps37
  go_wp2_with (at_make; refine wpList_make_own _ rfl _ _ 23 rfl w.heap.size 46 i0 _ 6 Try.underlying23 hi hz0 hz1 .i64 .i64 _ (N + 12) rfl rfl (by omega) (by rw [hz2]; omega) (by unfold maxLen; omega) (Nat.le_refl _) ?_; intro w0 hown0 hgrow0)
  have hB0 : Below w.heap.size w w0 := (Below.refl _ w).grown hgrow0 (Nat.le_refl _) (fun k e => by cases e)
  go_loopw [3, 4, 5] (fun v i _ wr => ∃ k : Nat, k ≤ N ∧ i = .int .i64 k ∧ v = .slice (some ⟨w.heap.size, 0, none⟩) k (N + 12) ∧ ∃ xs : List (Prd × Value), xs.map Prod.fst = l.take k ∧ (∀ x ∈ xs, Lent wr (w.heap.size + 1) x.2 x.1.right) ∧
      wr.ownsRow w.heap.size 46 6 (.slice (some ⟨w.heap.size, 0, none⟩) k (N + 12)) k (xs.flatMap cellsP) ∧ w.heap.size + 1 ≤ wr.heap.size ∧ Below w.heap.size w wr)
    (fun _ i _ _ => N - (intOf i).toNat)
  case atStart =>
    have hsz : w.heap.size + 1 ≤ w0.heap.size := by
      obtain ⟨_, h2⟩ := hown0
      rcases h2 with ⟨h2, _⟩ | ⟨g, cap', cur, h2, _, hg, _⟩
      · cases h2
      · simp only [Value.slice.injEq, Option.some.injEq, Addr.mk.injEq] at h2
        obtain ⟨⟨rfl, _⟩, _⟩ := h2
        exact (Array.getElem?_eq_some_iff.1 hg).1
    exact ⟨0, by omega, rfl, rfl, [], rfl, by simp, by simpa using hown0, hsz, hB0⟩
  case round =>
    clear hown0 hgrow0 hB0
    obtain ⟨k, hk, rfl, rfl, xs, hxs, hle, hown, hsz, hB⟩ := hrel
    by_cases hlt : k < N
    · have hk1 : k < l.length := by rw [HN.out]; exact hlt
      obtain ⟨b, o, ra, rc, rfl, hq, hqc⟩ := HL.out.get k hk1
      have tk : l.take (k + 1) = l.take k ++ [l[k]] := by rw [List.take_add_one, List.getElem?_eq_getElem hk1]; rfl
      have hlp := lentProd_any _ _ wr (hq.fr (Fr.new hB))
      unfold prdVal at hlp
      have x0 := (Fr.new hB).cell (hqc 0 (by simp [prdCells])) fun e => e
      have x1 := (Fr.new hB).cell (hqc 1 (by simp [prdCells])) fun e => e
      have x2 := (Fr.new hB).cell (hqc 2 (by simp [prdCells])) fun e => e
      have x3 := (Fr.new hB).cell (hqc 3 (by simp [prdCells])) fun e => e
      have x4 := (Fr.new hB).cell (hqc 4 (by simp [prdCells])) fun e => e
      have x5 := (Fr.new hB).cell (hqc 5 (by simp [prdCells])) fun e => e
      simp only [prdCells, List.getElem_cons_zero, List.getElem_cons_succ, Nat.add_zero] at x0 x1 x2 x3 x4 x5
      generalize l[k] = p at *
      obtain ⟨left, right, prec, has, action, whr⟩ := p
      simp only at x0 x1 x2 x3 x4 x5 hlp
      have HLP := Lib.hid hlp
      have HX := Lib.hid (And.intro hxs (And.intro hle tk))
      clear hlp hqc hq hxs hle tk
      go_wp2_with (first | (go_at_call 75; refine HLP.out.mono ?_; rintro e w' ⟨rb, rbc, rfl, hl, hb⟩) | (at_builtin; refine wpList_append_room rfl _ _ 23 rfl w.heap.size 46 i0 6 Try.underlying23 hi hz1 w.heap.size k (N + 12) _ rfl (((own_below hown hb).alloc _).alloc _) _ 1 1 (cellsP (⟨left, right, prec, has, action, whr⟩, .slice rb right.length rbc)) rfl rfl (.inr ⟨_, rfl, cells_add (cells_new_at (by simp) _ _ rfl _ _)⟩) (by simp [cellsP, prdCells, Value.oneCell']) (by omega) ?_; intro w2 hown2 hgrow2))
      go_roundw
      case rel =>
        have hbs := hb.size
        have hBs := hB.size
        have hBw : Below w.heap.size w w' := hB.trans (hb.mono hBs)
        have hfr : Fr (fun k => some w.heap.size = some k) w' w2 := ((Fr.alloc _ _).trans (Fr.alloc _ _)).trans (Fr.grown hgrow2)
        have hno : ∀ g, w.heap.size + 1 ≤ g → ¬ (some w.heap.size = some g) := fun g hg e => by cases e; omega
        refine ⟨k + 1, by omega, by simp, rfl, xs ++ [(⟨left, right, prec, has, action, whr⟩, .slice rb right.length rbc)], ?_, ?_, ?_, Nat.le_trans (Nat.le_trans hsz hbs) hfr.size, hBw.trans (hfr.below hBw.size fun j e => by cases e; exact Nat.le_refl _)⟩
        · rw [List.map_append, HX.out.1, HX.out.2.2]
          rfl
        · intro x hx
          rcases List.mem_append.1 hx with hx | hx
          · exact ((HX.out.2.1 x hx).fr (ch := nothing) (Fr.new hb) fun _ _ e => e).fr hfr hno
          · simp only [List.mem_singleton] at hx
            subst hx
            exact (hl.mono hsz).fr hfr hno
        · rw [List.flatMap_append, List.flatMap_singleton]
          exact hown2
      case measure => simp [intOf]; omega
    · obtain rfl : k = N := by omega
      have hxl : l.take k = l := List.take_of_length_le (by rw [HN.out]; exact Nat.le_refl _)
      rw [hxl] at hxs
      have hxn : xs.length = k := by rw [← HN.out, ← hxs, List.length_map]
      have HX := Lib.hid (And.intro hxs (And.intro hle hxn))
      clear hlt hxl hxs hle hxn
      go_wp2
      go_loopw [3, 6] (fun v i wq => ∃ j : Nat, j ≤ 12 ∧ i = .int .i64 j ∧ v = .slice (some ⟨w.heap.size, 0, none⟩) (k + j) (k + 12) ∧ (∀ x ∈ xs, Lent wq (w.heap.size + 1) x.2 x.1.right) ∧
          wq.ownsRow w.heap.size 46 6 (.slice (some ⟨w.heap.size, 0, none⟩) (k + j) (k + 12)) (k + j) ((xs ++ markPs j).flatMap cellsP) ∧ Below w.heap.size w wq)
        (fun _ i _ => 12 - (intOf i).toNat)
      case atStart => exact ⟨0, by omega, rfl, rfl, HX.out.2.1, by simpa [markPs] using hown, hB⟩
      case round =>
        clear hown hsz hB
        obtain ⟨j, hj, rfl, rfl, hle, hown, hB⟩ := hrel
        by_cases hlt : j < 12
        · have HM := Lib.hid (markProd_any j wr (by omega) (by omega))
          have HLE := Lib.hid hle
          clear hle
          go_wp2_with (first | (go_at_call 76; refine HM.out.mono ?_; rintro e w' ⟨rfl, hb⟩) | (at_builtin; refine wpList_append_room rfl _ _ 23 rfl w.heap.size 46 i0 6 Try.underlying23 hi hz1 w.heap.size (k + j) (k + 12) _ rfl ((own_below hown hb).alloc _) _ 1 1 (cellsP (markP j)) rfl rfl (.inr ⟨_, rfl, cells_add (cells_new_at rfl _ _ rfl _ _)⟩) (by simp [cellsP, markP, prdCells, Value.oneCell']) (by omega) ?_; intro w2 hown2 hgrow2))
          go_roundw
          case rel =>
            have hBw : Below w.heap.size w w' := hB.trans (hb.mono hB.size)
            have hfr : Fr (fun k => some w.heap.size = some k) w' w2 := (Fr.alloc _ _).trans (Fr.grown hgrow2)
            have hno : ∀ g, w.heap.size + 1 ≤ g → ¬ (some w.heap.size = some g) := fun g hg e => by cases e; omega
            refine ⟨j + 1, by omega, by simp, rfl, fun x hx => ((HLE.out x hx).fr (ch := nothing) (Fr.new hb) fun _ _ e => e).fr hfr hno, ?_, hBw.trans (hfr.below hBw.size fun j e => by cases e; exact Nat.le_refl _)⟩
            rw [markPs_succ, ← List.append_assoc, List.flatMap_append, List.flatMap_singleton]
            exact hown2
          case measure => simp [intOf]; omega
        · obtain rfl : j = 12 := by omega
          have HLE := Lib.hid hle
          clear hlt hle
          go_wp2
          go_ret
          obtain ⟨a', cap', hv, h1, h2, h3⟩ := own_cells hown
          simp only [Value.slice.injEq] at hv
          obtain ⟨rfl, -, rfl⟩ := hv
          refine ⟨_, rfl, ⟨w.heap.size, k + 12, xs, by rw [HN.out]; rfl, Nat.le_refl _, by rw [HN.out]; exact Nat.le_refl _, h2, HX.out.1, ?_, fun x hx => (HLE.out x hx).mono (Nat.le_succ _), HFIT.out, by rw [HN.out]; omega⟩, hB⟩
          rcases h3 with h3 | ⟨g, hg, _, hc⟩
          · have : ((xs ++ markPs 12).flatMap cellsP).length = 0 := by rw [h3]; rfl
            rw [flat_len cellsP 6 (fun _ => rfl)] at this
            simp [markPs_length] at this
          · simp only [Option.some.injEq, Addr.mk.injEq] at hg
            obtain ⟨rfl, -⟩ := hg
            exact hc
end Go.Proofs.Ytpnihegmhalcfaa
namespace Go.Proofs.Ytpnihegmhalcfaa
open Go.RowKit Go.MapKept Go.ChangeMaps
set_option maxHeartbeats 400000

def orI (a b : Int) : Int := if a ≠ 0 then a else b
theorem grow3 (w : World) (a b o : Obj) : (((w.alloc a).alloc b).drew).alloc o = Sort.grow (w.drewN 1) #[a, b, o] := by
  rw [Sort.alloc_eq_grow, Sort.alloc_eq_grow, Sort.alloc_eq_grow, Sort.drew_grow, Sort.drew_grow, Sort.grow_grow, Sort.grow_grow]
  rfl

end Go.Proofs.Ytpnihegmhalcfaa
namespace Go.Proofs.Ytpnihegmhalcfaa
open Go.RowKit Go.MapKept Go.ChangeMaps Go.Sort Go.Lib
set_option maxHeartbeats 400000

theorem grown_putK {w : World} {g n : Nat} {os : Array Obj} (d : Array Value) : Fr (only g) w (grow (putRow id (Sort.ahead w n) g 0 d) os) := by
  refine ⟨rfl, rfl, rfl, by simp, fun k hk hne => ?_⟩
  rw [heap_grow_old _ _ (by simpa using hk)]
  have : g ≠ k := fun e => hne e.symm
  simp [putRow, mapBlock, Sort.ahead, Array.getElem?_modify, this]
theorem isAggItem (w : World) : (isAgg 102).run Try.prog w = .ok true w := Try.isAgg102 w
theorem sizeItem (w : World) : (Go.sizeOf 102).run Try.prog w = .ok 2 w := Try.sizeOf102 w

end Go.Proofs.Ytpnihegmhalcfaa
namespace Go.Proofs.Ytpnihegmhalcfaa
open Go.RowKit Go.MapKept Go.ChangeMaps
set_option maxHeartbeats 400000

theorem itKey : WideMaps.KeyLaw Try.prog 102 := deep_law (m := 3) (by omega) (by kernel_rfl) (by kernel_rfl) (by kernel_rfl)
theorem lit_wf {a : Int} (h : i64 a) : (Lit.int .i64 a).wf = true := by
  unfold i64 at h
  simp [Lit.wf, IntKind.min, IntKind.max, IntKind.bits, IntKind.signed]
  omega
theorem itKeyed (x : It) (h1 : i64 x.1) (h2 : i64 x.2) : ∃ l, keyOf Try.prog 102 (itVal x) = some l := by
  obtain ⟨a, b⟩ := x
  have hk : Try.prog.keyType 102 = true := by kernel_rfl
  have hc : Try.prog.cellsOf 102 = 2 := by kernel_rfl
  have hc1 : Try.prog.cellsOf 3 = 1 := by kernel_rfl
  have hz : Try.prog.types.size + 1 = (Try.prog.types.size - 1) + 1 + 1 := by kernel_rfl
  have hu := Try.underlying3
  have hs := Try.underlying102
  have hl : ∀ (n : Nat) (c : Int), i64 c → Try.prog.keyLits (n + 1) 3 [.int .i64 c] = some [.int .i64 c] := fun n c hc => by
    unfold Program.keyLits
    simp only [hu]
    rw [if_pos ⟨trivial, lit_wf hc⟩]
  have h2' : ∀ n, Try.prog.keyLits (n + 1 + 1) 102 [.int .i64 a, .int .i64 b] = some [.int .i64 a, .int .i64 b] := fun n => by
    rw [Program.keyLits.eq_def]
    simp only [hs, hc]
    simp [hc1, hl n a h1, hl n b h2]
  unfold keyOf
  simp only [hs, hk, Bool.true_and]
  have hf : (itVal (a, b)).formed Try.prog 102 = true := by
    unfold itVal Value.formed
    simp only [hs, hc]
    rfl
  rw [if_pos hf, hz]
  unfold itVal
  simp only [Value.cells]
  rw [h2']
  exact ⟨_, rfl⟩
/-- Block b is a map whose keys are these items, each with true. -/
def ItSet (w : World) (b : Nat) (S : List It) : Prop :=
  ∃ es clock, w.heap[b]? = some (.map es clock) ∧ es.toList.map (fun e => e.key) = S.map itVal ∧ (∀ e ∈ es.toList, e.val = .bool true) ∧ ∀ x ∈ S, i64 x.1 ∧ i64 x.2
theorem itSet_new (w : World) : ItSet (w.alloc (.map #[] 0)) w.heap.size [] := ⟨#[], 0, (heap_alloc w _).1, rfl, by simp, by simp⟩
theorem ItSet.fr {ch : Nat → Prop} {w w' : World} {b : Nat} {S : List It} (h : ItSet w b S) (f : Fr ch w w') (hb : ¬ ch b) : ItSet w' b S := by
  obtain ⟨es, clock, h1, h2⟩ := h
  exact ⟨es, clock, f.obj h1 hb, h2⟩
theorem ItSet.lt {w : World} {b : Nat} {S : List It} (h : ItSet w b S) : b < w.heap.size := by
  obtain ⟨es, clock, h1, h2⟩ := h
  exact (Array.getElem?_eq_some_iff.1 h1).1
theorem itVal_inj {x y : It} (h : itVal x = itVal y) : x = y := by
  obtain ⟨a, b⟩ := x
  obtain ⟨c, d⟩ := y
  simpa [itVal] using h
theorem itSet_keys {es : List MapEntry} {S : List It} (h : es.map (fun e => e.key) = S.map itVal) (x : It) : (∃ e ∈ es, e.key = itVal x) ↔ x ∈ S := by
  constructor
  · rintro ⟨e, he, hk⟩
    have : itVal x ∈ S.map itVal := by rw [← h]; exact List.mem_map.2 ⟨e, he, hk⟩
    obtain ⟨y, hy, e⟩ := List.mem_map.1 this
    rw [← itVal_inj e]
    exact hy
  · intro hx
    have : itVal x ∈ es.map fun e => e.key := by rw [h]; exact List.mem_map.2 ⟨x, hx, rfl⟩
    obtain ⟨e, he, hk⟩ := List.mem_map.1 this
    exact ⟨e, he, hk⟩
theorem itSet_all {es : List MapEntry} {S : List It} (h : es.map (fun e => e.key) = S.map itVal) (hi : ∀ x ∈ S, i64 x.1 ∧ i64 x.2) : ∀ e ∈ es, ∃ l, keyOf Try.prog 102 e.key = some l := fun e he => by
  have : e.key ∈ S.map itVal := by rw [← h]; exact List.mem_map.2 ⟨e, he, rfl⟩
  obtain ⟨y, hy, e⟩ := List.mem_map.1 this
  rw [← e]
  exact itKeyed y (hi y hy).1 (hi y hy).2
theorem run_same_item (w : World) (a b : Int) : (Instr.keyThatStays (.agg #[.int .i64 a, .int .i64 b]) (.agg #[.int .i64 a, .int .i64 b])).run Try.prog w = .ok (.agg #[.int .i64 a, .int .i64 b]) w := by
  simp [Instr.keyThatStays, Instr.sameBits]
end Go.Proofs.Ytpnihegmhalcfaa
namespace Go.Proofs.Ytpnihegmhalcfaa
open Go.RowKit Go.MapKept Go.ChangeMaps
set_option maxHeartbeats 400000

theorem eqItem (x y : It) (w : World) : (binOp .eql 102 (itVal x) (itVal y)).run Try.prog w = .ok (.bool (decide (x = y))) w := by
  have u3 := Try.underlying3
  have a3 := Try.isAgg3
  have z3 := Try.sizeOf3
  have hS : Try.prog.underlying 102 = some (.struct (Try.prog.fieldsOf 102)) := by kernel_rfl
  have hp : Try.prog.stoodInHeld 102 = false := by kernel_rfl
  obtain ⟨a, b⟩ := x
  obtain ⟨c, d⟩ := y
  unfold itVal
  rw [run_eql_struct, show (10000 : Nat) = 9999 + 1 from rfl, run_equalIn_agg w 9999 102 _ _ hS hp]
  simp only [Program.fieldsOf, Try.underlying102]
  go_simp
  by_cases h1 : a = c <;> by_cases h2 : b = d <;> simp [h1, h2]
theorem neItem (x y : It) (w : World) : (binOp .neq 102 (itVal x) (itVal y)).run Try.prog w = .ok (.bool (!decide (x = y))) w := by
  have u3 := Try.underlying3
  have a3 := Try.isAgg3
  have z3 := Try.sizeOf3
  have hS : Try.prog.underlying 102 = some (.struct (Try.prog.fieldsOf 102)) := by kernel_rfl
  have hp : Try.prog.stoodInHeld 102 = false := by kernel_rfl
  obtain ⟨a, b⟩ := x
  obtain ⟨c, d⟩ := y
  unfold itVal
  rw [run_neq_struct, show (10000 : Nat) = 9999 + 1 from rfl, run_equalIn_agg w 9999 102 _ _ hS hp]
  simp only [Program.fieldsOf, Try.underlying102]
  go_simp
  by_cases h1 : a = c <;> by_cases h2 : b = d <;> simp [h1, h2]
theorem setCells_keep : ∀ (vs : List Value) (o g : Nat) (w : World) (cs : Array Value) (t : TypeId) (f : Nat × Nat), w.heap[g]? = some (.cells cs t f) →
    ∃ cs', (w.setCells g o vs).heap[g]? = some (.cells cs' t f) ∧ cs'.size = cs.size ∧ ∀ i, i < o → cs'[i]? = cs[i]?
  | [], o, g, w, cs, t, f, h => ⟨cs, h, rfl, fun _ _ => rfl⟩
  | v :: r, o, g, w, cs, t, f, h => by
    obtain ⟨hb, he⟩ := Array.getElem?_eq_some_iff.1 h
    have h1 : (w.setCell ⟨g, o, none⟩ v).heap[g]? = some (.cells (cs.setIfInBounds o v) t f) := by
      simp [World.setCell, hb, Array.getElem_modify, he]
    obtain ⟨cs', h2, h3, h4⟩ := setCells_keep r (o + 1) g _ _ t f h1
    refine ⟨cs', h2, by rw [h3]; simp, fun i hi => ?_⟩
    rw [h4 i (by omega), Array.getElem?_setIfInBounds_ne (by omega)]
theorem setCells_fr : ∀ (vs : List Value) (o g : Nat) (w : World), Fr (only g) w (w.setCells g o vs)
  | [], _, _, _ => Fr.refl _ _
  | v :: r, o, g, w => (Fr.setCell w ⟨g, o, none⟩ v).trans (setCells_fr r (o + 1) g _)
theorem run_clear_items (w : World) (g o n c : Nat) (cur : Array Value) (hg : w.heap[g]? = some (.cells cur 102 (0, 0))) (hn : 0 < n) (hc : o + n * 2 ≤ cur.size) :
    ∃ vs, ∀ ty, (Builtin.clear_ #[103] ty #[.slice (some ⟨g, o, none⟩) n c]).run Try.prog w = .ok (.tuple #[]) (w.setCells g o vs) := by
  have hv : ∀ w, (zeroValue 102).run Try.prog w = .ok (.agg #[.int .i64 0, .int .i64 0]) w := Try.zeroValue102
  refine ⟨(Builtin.zeroCells (Value.agg #[.int .i64 0, .int .i64 0]).cells n).toList, fun ty => ?_⟩
  have hz : (Value.agg #[.int .i64 0, .int .i64 0]).cells = #[.int .i64 0, .int .i64 0] := rfl
  have hlen : (Builtin.zeroCells (Value.agg #[.int .i64 0, .int .i64 0]).cells n).toList.length = n * 2 := by
    rw [hz]
    simp [Builtin.zeroCells]
  have hst := run_storeCells_cells (P := Try.prog) g o (Builtin.zeroCells (Value.agg #[.int .i64 0, .int .i64 0]).cells n).toList 0 w (fun j hj => by
      rw [hlen] at hj
      have : o + j < cur.size := by omega
      simp [World.cell?, hg, this]) (fun j _ => by simp [World.frozen?, hg]) (fun v hv' => by
      rw [hz] at hv'
      simp only [Builtin.zeroCells, Array.toList_map, List.mem_map] at hv'
      obtain ⟨i, _, rfl⟩ := hv'
      have : i % 2 = 0 ∨ i % 2 = 1 := by omega
      rcases this with h | h <;> simp [h, Value.oneCell'])
  rw [Nat.add_zero] at hst
  obtain ⟨m, rfl⟩ : ∃ m, n = m + 1 := ⟨n - 1, by omega⟩
  simp [Builtin.clear_, run_underlying Try.underlying103, hv, hst]
/-- A row without the items that equal the one ahead of them. -/
def compL : List It → List It
  | [] => []
  | [x] => [x]
  | x :: y :: l => if x = y then compL (y :: l) else x :: compL (y :: l)
theorem compL_ne {x : It} {l : List It} : ∃ r, compL (x :: l) = x :: r := by
  induction l generalizing x with
  | nil => exact ⟨[], rfl⟩
  | cons y l ih =>
    unfold compL
    split
    · rename_i e
      subst e
      exact ih
    · exact ⟨_, rfl⟩
theorem compL_snoc : ∀ (l : List It) (x y : It), compL (l ++ [x, y]) = if x = y then compL (l ++ [x]) else compL (l ++ [x]) ++ [y]
  | [], x, y => by
    by_cases e : x = y
    · subst e
      simp [compL]
    · simp [compL, e]
  | [a], x, y => by
    by_cases e1 : a = x <;> by_cases e2 : x = y <;> simp [compL, e1, e2]
    all_goals (subst e1; simp [e2])
  | a :: b :: l, x, y => by
    have ih := compL_snoc (b :: l) x y
    simp only [List.cons_append] at ih ⊢
    by_cases e1 : a = b
    · subst e1
      rw [compL, if_pos rfl, compL, if_pos rfl, ih]
    · rw [compL, if_neg e1, compL, if_neg e1, ih]
      split <;> simp
theorem OwnI.cell {w : World} {B g n c : Nat} {l : List It} (h : OwnI w B (.slice (some ⟨g, 0, none⟩) n c) l) (i : Nat) (hi : i < l.length) : w.cell? ⟨g, i * 2, none⟩ = some (.int .i64 l[i].1) ∧ w.cell? ⟨g, i * 2 + 1, none⟩ = some (.int .i64 l[i].2) := by
  obtain ⟨a, c', e, h1, h2, h3⟩ := own_as_cells2 h
  simp only [Value.slice.injEq] at e
  obtain ⟨rfl, rfl, rfl⟩ := e
  have hne : l.flatMap encI ≠ [] := fun e => by
    have := enc_len l
    rw [e] at this
    simp at this
    omega
  obtain ⟨g', e, _, hc⟩ := h3.resolve_left hne
  simp only [Option.some.injEq, Addr.mk.injEq, and_true] at e
  subst e
  have at_ : ∀ j, j < 2 → w.cell? ⟨g, i * 2 + j, none⟩ = (encI l[i])[j]? := fun j hj => by
    have hlt : i * 2 + j < (l.flatMap encI).length := by rw [enc_len]; omega
    have h5 := hc (i * 2 + j) hlt
    have h6 := enc_flat_at hi j hj
    rw [List.getElem?_eq_getElem hlt] at h6
    rw [Nat.zero_add] at h5
    rw [h5, h6]
  exact ⟨at_ 0 (by omega), at_ 1 (by omega)⟩
theorem take_snocI {L : List It} {k : Nat} (hk : k < L.length) : L.take (k + 1) = L.take k ++ [L[k]] := by rw [List.take_add_one, List.getElem?_eq_getElem hk]; rfl
theorem flat_set (l : List It) (d : Nat) (x : It) : (((l.flatMap encI).set (d * 2) (.int .i64 x.1)).set (d * 2 + 1) (.int .i64 x.2)) = (l.set d x).flatMap encI := by
  refine List.ext_getElem? fun t => ?_
  by_cases ht : t < l.length * 2
  · have h1 : t / 2 < (l.set d x).length := by rw [List.length_set]; omega
    have h2 := enc_flat_at h1 (t % 2) (by omega)
    have e : t / 2 * 2 + t % 2 = t := by omega
    rw [e] at h2
    rw [h2, List.getElem_set]
    have h3 := enc_flat_at (l := l) (i := t / 2) (by omega) (t % 2) (by omega)
    rw [e] at h3
    have hlen : t < (l.flatMap encI).length := by rw [enc_len]; exact ht
    by_cases e1 : d = t / 2
    · rw [if_pos e1]
      rcases (by omega : t % 2 = 0 ∨ t % 2 = 1) with h | h
      · have e2 : d * 2 = t := by omega
        rw [List.getElem?_set_ne (by omega), e2, List.getElem?_set_self hlen, h]
        rfl
      · have e2 : d * 2 + 1 = t := by omega
        rw [e2, List.getElem?_set_self (by rw [List.length_set]; exact hlen), h]
        rfl
    · rw [if_neg e1, List.getElem?_set_ne (by omega), List.getElem?_set_ne (by omega), h3]
  · rw [List.getElem?_eq_none (by rw [List.length_set, List.length_set, enc_len]; omega), List.getElem?_eq_none (by rw [enc_len, List.length_set]; omega)]
theorem OwnI.store {w : World} {B g n c d : Nat} {l : List It} (h : OwnI w B (.slice (some ⟨g, 0, none⟩) n c) l) (hn : l.length = n) (x : It) :
    OwnI ((w.setCell ⟨g, d * 2, none⟩ (.int .i64 x.1)).setCell ⟨g, d * 2 + 1, none⟩ (.int .i64 x.2)) B (.slice (some ⟨g, 0, none⟩) n c) (l.set d x) := by
  unfold OwnI at h ⊢
  subst hn
  rw [List.length_set, ← flat_set l d x]
  exact ((World.ownsRow.stored h (d * 2) _).1.stored (d * 2 + 1) _).1
theorem OwnI.frozen {w : World} {B g n c : Nat} {l : List It} (h : OwnI w B (.slice (some ⟨g, 0, none⟩) n c) l) (j : Nat) : w.frozen? ⟨g, j, none⟩ = false := by
  obtain ⟨_, cs, hc⟩ := ownObj h g rfl
  simp [World.frozen?, hc]
/-- What Compact answers. -/
def CompP (L : List It) (B : Nat) (v : Value) (w : World) (e : Ending) (w' : World) : Prop := ∃ u, e = .returned u ∧ OwnI w' B u (compL L) ∧ Fr (fun g => v.ownBlock = some g) w w'
end Go.Proofs.Ytpnihegmhalcfaa
namespace Go.Proofs.Ytpnihegmhalcfaa
open Go.RowKit
set_option maxHeartbeats 400000

set_option maxRecDepth 100000 in
set_option maxHeartbeats 2000000 in
theorem keptProds_any (B : Nat) (v u : Value) (l : List Prd) (w : World) (hv : LentPs w B v l) (hu : IsPrds w u l) :
    Calls Try.prog 45 #[v, u] w fun e w' => e = .returned (.bool true) ∧ Below w.heap.size w w' := by
  obtain ⟨g, cap, xs, rfl, _, hcap, hcm, hxl, hc, hle, hfit, _⟩ := hv
  obtain ⟨hlen, a, cap', rfl, hca, hcb, hx⟩ := id hu
  have hcm' : cap ≤ 9223372036854775807 := hcm
  clear hcm hcb hx
  have hxn : xs.length = l.length := by rw [← hxl, List.length_map]
  have HC := Lib.hid (And.intro hc (And.intro hxl (And.intro hxn (And.intro hle hfit))))
  have HU := Lib.hid hu
  clear hc hu hxl hxn hle hfit
  generalize hN : l.length = N at *
  have HN := Lib.hid hN
  clear hN
  go_enter Try.func45, Try.ntmps45
  go_wp2
  go_loopw [6] (fun i wr => ∃ k : Nat, k ≤ N + 12 ∧ i = .int .i64 k ∧ Below w.heap.size w wr) (fun i _ => N + 12 - (intOf i).toNat)
  case atStart => exact ⟨0, by omega, rfl, Below.refl _ _⟩
  case round =>
    obtain ⟨k, hk, rfl, hB⟩ := hrel
    have hne := after_ne wr
    by_cases hlt : k < N
    · have hk1 : k < l.length := by rw [HN.out]; exact hlt
      have hk2 : k < xs.length := by rw [HC.out.2.2.1]; exact hlt
      obtain ⟨b, o, ra, rc, rfl, hq, hcx⟩ := HU.out.get k hk1
      have hcg := flat_cells (m := 6) (fun _ => rfl) HC.out.1 k (by rw [List.length_append]; omega)
      rw [List.getElem_append_left hk2] at hcg
      have hx1 : xs[k].1 = l[k] := by
        have h1 := HC.out.2.1
        have h2 : (xs.map Prod.fst)[k]'(by simpa using hk2) = xs[k].1 := List.getElem_map ..
        rw [← h2]
        simp only [h1]
      have hl1 := HC.out.2.2.2.1 _ (List.getElem_mem hk2)
      have hft := HC.out.2.2.2.2 _ (List.getElem_mem hk1)
      rw [hx1] at hl1
      have hcg' : Cells w g (0 + k * 6) (prdCells l[k] xs[k].2) := by rw [← hx1]; exact hcg
      generalize xs[k].2 = rv at *
      have hints := hl1.ints hft.bound hft.len
      have hS := fun q : After wr => after_call q (keptProd_any B rv _ l[k] q.w hft.ok (((hl1.fr (ch := nothing) (Fr.new hB) fun _ _ e => e)).fr (ch := nothing) (Fr.new q.ok) fun _ _ e => e) ((hints.fr (Fr.new hB)).fr (Fr.new q.ok)) ((hq.fr (Fr.new hB)).fr (Fr.new q.ok)))
      obtain ⟨g2, cap2, rfl, _⟩ := hl1
      unfold prdVal at hS
      clear hcg hx1 hft hints hq
      generalize l[k].right.length = rl at *
      generalize l[k] = s at *
      have HS := Lib.hid hS
      have x0 := after_cell ((Fr.new hB).cell (hcx 0 (by simp [prdCells])) fun e => e)
      have x1 := after_cell ((Fr.new hB).cell (hcx 1 (by simp [prdCells])) fun e => e)
      have x2 := after_cell ((Fr.new hB).cell (hcx 2 (by simp [prdCells])) fun e => e)
      have x3 := after_cell ((Fr.new hB).cell (hcx 3 (by simp [prdCells])) fun e => e)
      have x4 := after_cell ((Fr.new hB).cell (hcx 4 (by simp [prdCells])) fun e => e)
      have x5 := after_cell ((Fr.new hB).cell (hcx 5 (by simp [prdCells])) fun e => e)
      have y0 := after_cell ((Fr.new hB).cell (hcg' 0 (by simp [prdCells])) fun e => e)
      have y1 := after_cell ((Fr.new hB).cell (hcg' 1 (by simp [prdCells])) fun e => e)
      have y2 := after_cell ((Fr.new hB).cell (hcg' 2 (by simp [prdCells])) fun e => e)
      have y3 := after_cell ((Fr.new hB).cell (hcg' 3 (by simp [prdCells])) fun e => e)
      have y4 := after_cell ((Fr.new hB).cell (hcg' 4 (by simp [prdCells])) fun e => e)
      have y5 := after_cell ((Fr.new hB).cell (hcg' 5 (by simp [prdCells])) fun e => e)
      simp only [prdCells, List.getElem_cons_zero, List.getElem_cons_succ, Nat.add_zero, Nat.zero_add] at x0 x1 x2 x3 x4 x5 y0 y1 y2 y3 y4 y5
      have t1 : decide (k < N) = true := by simp [hlt]
      have t2 : decide (N ≤ k) = false := by simp; omega
      have t3 : k < N + 12 := by omega
      have HB := Lib.hid hB
      clear hB hcx hcg' hS
      go_wp2_with fail
      refine wp_region_after wr (by kernel_rfl) (by kernel_rfl) (Below.refl _ _) ?_
      repeat (go_big_quiet_step (exact HS.out _))
      refine wpQuiet_nil ?_
      intro _ hw'
      obtain ⟨q, hw''⟩ := hw'
      subst hw''
      go_wp2
      go_roundw
      case rel => exact ⟨k + 1, by omega, by simp, HB.out.trans (q.ok.mono HB.out.size)⟩
      case measure => simp [intOf]; omega
    · by_cases hlt2 : k < N + 12
      · have hcg := flat_cells (m := 6) (fun _ => rfl) HC.out.1 k (by rw [List.length_append, markPs_length, HC.out.2.2.1]; exact hlt2)
        rw [List.getElem_append_right (by rw [HC.out.2.2.1]; omega)] at hcg
        have h3 : (markPs 12)[k - xs.length]'(by rw [markPs_length, HC.out.2.2.1]; omega) = markP ((k : Int) - N) := by
          simp [markPs, HC.out.2.2.1]
          congr 1
          omega
        rw [h3] at hcg
        have hm := fun p : After wr => after_call p (markProd_any ((k : Int) - N) p.w (by omega) (by omega))
        have hok : PrdOk (markP ((k : Int) - N)).1 := ⟨show i64 0 by unfold i64; decide, show i64 0 by unfold i64; decide, by unfold markP markOf i64; simp only; omega⟩
        have hs := fun p : After wr => after_call p (sameProd_any _ _ _ p.w ⟨hok, .slice none 0 0, Ints.nil _, rfl⟩ ⟨hok, .slice none 0 0, Ints.nil _, rfl⟩)
        unfold prdVal markP nNone at hs
        simp only at hs
        have y0 := after_cell ((Fr.new hB).cell (hcg 0 (by simp [cellsP, prdCells])) fun e => e)
        have y1 := after_cell ((Fr.new hB).cell (hcg 1 (by simp [cellsP, prdCells])) fun e => e)
        have y2 := after_cell ((Fr.new hB).cell (hcg 2 (by simp [cellsP, prdCells])) fun e => e)
        have y3 := after_cell ((Fr.new hB).cell (hcg 3 (by simp [cellsP, prdCells])) fun e => e)
        have y4 := after_cell ((Fr.new hB).cell (hcg 4 (by simp [cellsP, prdCells])) fun e => e)
        have y5 := after_cell ((Fr.new hB).cell (hcg 5 (by simp [cellsP, prdCells])) fun e => e)
        simp only [cellsP, prdCells, markP, nNone, List.getElem_cons_zero, List.getElem_cons_succ, Nat.add_zero, Nat.zero_add] at y0 y1 y2 y3 y4 y5
        have hw1 : IntKind.i64.wrap ((k : Int) - N) = (k : Int) - N := IntWalk.i64_in _ (by omega)
        clear hok h3
        generalize markOf ((k : Int) - N) = mk at *
        have HM := Lib.hid hm
        have HS := Lib.hid hs
        have t1 : decide (k < N) = false := by simp; omega
        have t2 : decide (N ≤ k) = true := by simp; omega
        have HB := Lib.hid hB
        clear hB hcg hm hs
        go_wp2_with fail
        refine wp_region_after wr (by kernel_rfl) (by kernel_rfl) (Below.refl _ _) ?_
        repeat (go_big_quiet_step (first | exact HM.out _ | exact HS.out _))
        refine wpQuiet_nil ?_
        intro _ hw'
        obtain ⟨q, hw''⟩ := hw'
        subst hw''
        clear hw1
        go_wp2
        go_roundw
        case rel => exact ⟨k + 1, by omega, by simp, HB.out.trans (q.ok.mono HB.out.size)⟩
        case measure => simp [intOf]; omega
      · obtain rfl : k = N + 12 := by omega
        clear hlt hlt2
        go_wp2
        go_ret
        exact ⟨rfl, hB⟩
end Go.Proofs.Ytpnihegmhalcfaa
namespace Go.Proofs.Ytpnihegmhalcfaa
open Go.RowKit
set_option maxHeartbeats 400000

theorem own_ints {w : World} {B : Nat} {v : Value} {xs : List Int} (h : w.ownsRow B 3 1 v xs.length (xs.map (Value.int .i64))) (hx : ∀ x ∈ xs, -9223372036854775808 ≤ x ∧ x ≤ 9223372036854775807) (hl : xs.length ≤ 17592186044416) : Ints w v xs := by
  obtain ⟨a, cap, rfl, h1, h2, h3⟩ := own_cells h
  refine ⟨hx, hl, a, cap, rfl, h1, h2, ?_⟩
  rcases h3 with h3 | ⟨g, rfl, _, hc⟩
  · exact .inl (List.map_eq_nil_iff.1 h3)
  · exact .inr ⟨g, 0, rfl, hc⟩
theorem own_syms {w : World} {B : Nat} {v : Value} {l : List Sym} (h : w.ownsRow B 64 4 v l.length (l.flatMap symCells)) (hx : ∀ x ∈ l, SymOk x) (hl : l.length ≤ 17592186044416) : IsSyms w v l := by
  obtain ⟨a, cap, rfl, h1, h2, h3⟩ := own_cells h
  refine ⟨hl, a, cap, rfl, h1, h2, ?_⟩
  rcases h3 with h3 | ⟨g, rfl, _, hc⟩
  · left
    have := flat_len symCells 4 (fun _ => rfl) l
    rw [h3] at this
    exact List.eq_nil_of_length_eq_zero (by simp at this; omega)
  · exact .inr ⟨g, 0, rfl, fun i hi => ⟨hx _ (List.getElem_mem hi), flat_cells (m := 4) (fun _ => rfl) hc i hi⟩⟩
theorem own_prds {w : World} {B : Nat} {v : Value} {xs : List (Prd × Value)} (h : w.ownsRow B 46 6 v xs.length (xs.flatMap cellsP)) (hx : ∀ x ∈ xs, PrdOk x.1 ∧ Ints w x.2 x.1.right) (hl : xs.length ≤ 17592186044416) : IsPrds w v (xs.map Prod.fst) := by
  obtain ⟨a, cap, rfl, h1, h2, h3⟩ := own_cells h
  refine ⟨by rw [List.length_map]; exact hl, a, cap, by rw [List.length_map], by rw [List.length_map]; exact h1, h2, ?_⟩
  rcases h3 with h3 | ⟨g, rfl, _, hc⟩
  · left
    have := flat_len cellsP 6 (fun _ => rfl) xs
    rw [h3] at this
    rw [List.map_eq_nil_iff]
    exact List.eq_nil_of_length_eq_zero (by simp at this; omega)
  · refine .inr ⟨g, 0, rfl, fun i hi => ?_⟩
    have hi' : i < xs.length := by simpa using hi
    have hc' := flat_cells (m := 6) (fun _ => rfl) hc i hi'
    have hx' := hx _ (List.getElem_mem hi')
    simp only [List.getElem_map]
    exact ⟨hx'.1, xs[i].2, hx'.2, hc'⟩

theorem own_frB {ch : Nat → Prop} {w w' : World} {B e size n : Nat} {v : Value} {xs : List Value} (h : w.ownsRow B e size v n xs) (k : Fr ch w w') (hc : ∀ g, B ≤ g → ¬ ch g) : w'.ownsRow B e size v n xs := by
  obtain ⟨h1, h2⟩ := h
  refine ⟨h1, ?_⟩
  rcases h2 with h2 | ⟨g, cap, cur, hv, hb, hg, r⟩
  · exact .inl h2
  · exact .inr ⟨g, cap, cur, hv, hb, k.obj hg (hc g hb), r⟩
theorem syms_fit {w : World} {v : Value} {l : List Sym} (h : IsSyms w v l) : ∀ s ∈ l, SymOk s := fun s hs => by
  obtain ⟨i, hi, rfl⟩ := List.mem_iff_getElem.1 hs
  obtain ⟨_, a, cap, _, _, _, hx⟩ := h
  rcases hx with rfl | ⟨b, o, _, hx⟩
  · simp at hi
  · exact (hx i hi).1
/-- A list of one's own lies nowhere else. -/
theorem own_ne {w : World} {B e size n b : Nat} {v : Value} {xs : List Value} {cs : Array Value} {t : TypeId} {f : Nat × Nat} (h : w.ownsRow B e size v n xs) (hb : w.heap[b]? = some (.cells cs t f)) (hne : e ≠ t) : v.ownBlock ≠ some b := fun hv => by
  obtain ⟨_, h2⟩ := h
  rcases h2 with ⟨rfl, _⟩ | ⟨g, cap, cur, rfl, _, hg, _⟩
  · cases hv
  · simp only [Value.ownBlock, Option.some.injEq] at hv
    subst hv
    rw [hb] at hg
    simp only [Option.some.injEq, Obj.cells.injEq] at hg
    exact hne hg.2.1.symm
theorem own_apart {w : World} {B e size n B' e' size' n' : Nat} {v v' : Value} {xs xs' : List Value} (h : w.ownsRow B e size v n xs) (h' : w.ownsRow B' e' size' v' n' xs') (hne : e ≠ e') : ∀ g, v.ownBlock = some g → v'.ownBlock = some g → False := fun g hv hv' => by
  obtain ⟨_, h2⟩ := h'
  rcases h2 with ⟨rfl, _⟩ | ⟨g', cap, cur, rfl, _, hg, _⟩
  · cases hv'
  · simp only [Value.ownBlock, Option.some.injEq] at hv'
    subst hv'
    exact own_ne h hg hne hv
/-- A list that a literal lays. -/
theorem own_laid {w : World} {B e size g n : Nat} {cs : Array Value} (hg : w.heap[g]? = some (.cells cs e (0, 0))) (hb : B ≤ g) (hs : cs.size = n * size) (hn : n ≤ maxLen) : w.ownsRow B e size (.slice (some ⟨g, 0, none⟩) n n) n cs.toList :=
  ⟨by simpa using hs, .inr ⟨g, n, cs, rfl, hb, hg, Nat.le_refl _, hn, hs, by rw [List.take_of_length_le (by simp; omega)]⟩⟩
end Go.Proofs.Ytpnihegmhalcfaa
namespace Go.Proofs.Ytpnihegmhalcfaa
open Go.RowKit Go.MapKept Go.ChangeMaps Go.Sort
set_option maxHeartbeats 400000

theorem compL_mem {x : It} : ∀ {l : List It}, x ∈ compL l ↔ x ∈ l
  | [] => Iff.rfl
  | [_] => Iff.rfl
  | a :: b :: l => by
    have ih := compL_mem (x := x) (l := b :: l)
    unfold compL
    split
    · rename_i e
      subst e
      rw [ih]
      simp
    · rw [List.mem_cons, ih, List.mem_cons, List.mem_cons, List.mem_cons]
theorem compL_ris : ∀ {l : List It}, l.Pairwise (fun a b => ¬ ltI b a) → RisI (compL l)
  | [], _ => List.Pairwise.nil
  | [_], _ => List.pairwise_singleton _ _
  | a :: b :: l, h => by
    obtain ⟨h1, h2⟩ := List.pairwise_cons.1 h
    have ih := compL_ris h2
    unfold compL
    split
    · exact ih
    · rename_i hne
      have hab : ltI a b := by
        by_cases h3 : ltI a b
        · exact h3
        · exact absurd (ltI_total h3 (h1 b (by simp))) hne
      refine List.pairwise_cons.2 ⟨fun z hz => ?_, ih⟩
      rcases List.mem_cons.1 (compL_mem.1 hz) with rfl | hz
      · exact hab
      · have h4 := (List.pairwise_cons.1 h2).1 z hz
        unfold ltI at *
        omega
theorem compL_len : ∀ l : List It, (compL l).length ≤ l.length
  | [] => Nat.le_refl _
  | [_] => Nat.le_refl _
  | a :: b :: l => by
    have ih := compL_len (b :: l)
    unfold compL
    split
    · simp only [List.length_cons] at *; omega
    · simp only [List.length_cons] at *; omega

/-- What sorted answers. -/
def SortedP (L : List It) (B : Nat) (W : World) (e : Ending) (w' : World) : Prop := ∃ u', e = .returned u' ∧ OwnI w' B u' (sortI L) ∧ Below B W w'
theorem cloGo_len (G : Gram) : ∀ (n : Nat) (out : List It) (syms : List Int) (todo : List It), (cloGo G n out syms todo).length ≤ out.length + remI G syms
  | _, out, _, [] => by unfold cloGo; omega
  | 0, out, _, _ :: _ => by unfold cloGo; omega
  | n + 1, out, syms, y :: todo => by
    unfold cloGo
    split
    · exact cloGo_len G n out syms todo
    · rename_i s hs
      split
      · exact cloGo_len G n out syms todo
      · rename_i hn
        have h1 := cloGo_len G n (out ++ ownI G s) (s :: syms) (todo ++ ownI G s)
        have h2 := rem_step G s syms hn
        rw [List.length_append] at h1
        omega
theorem putI_len (x : It) (l : List It) : (putI x l).length ≤ l.length + 1 := by
  induction l with
  | nil => simp [putI]
  | cons y l ih =>
    unfold putI
    split
    · simp only [List.length_cons]; omega
    · split
      · simp
      · simp
theorem sortI_len (l : List It) : (sortI l).length ≤ l.length := by
  induction l with
  | nil => simp [sortI]
  | cons y l ih =>
    have := putI_len y (sortI l)
    show (putI y (sortI l)).length ≤ _
    simp only [List.length_cons]
    omega
theorem cloL_len (G : Gram) (K : List It) : (cloL G K).length ≤ K.length + G.prods.length := by
  unfold cloL
  have h1 := sortI_len (cloGo G (K.length + G.prods.length) K [] K)
  have h2 := cloGo_len G (K.length + G.prods.length) K [] K
  have h3 : remI G [] ≤ G.prods.length := by
    unfold remI
    have := List.length_filter_le (fun p => decide ((G.prods[p]?.map (·.left)).getD (-1) ∉ ([] : List Int))) (List.range G.prods.length)
    rwa [List.length_range] at this
  omega
end Go.Proofs.Ytpnihegmhalcfaa
namespace Go.Proofs.Ytpnihegmhalcfaa
open Go.RowKit Go.MapKept Go.ChangeMaps
set_option maxHeartbeats 400000


/-- How many entries are of a kind; a map of these numbers. -/
def cntK (l : List Ent) (n : Int) : Nat := (l.filter fun e => decide (e.kind = n)).length
def cntF (l : List Ent) : Value → Option Value
  | .int _ n => if cntK l n = 0 then none else some (.int .i64 (cntK l n))
  | _ => none
theorem cntK_le (l : List Ent) (n : Int) : cntK l n ≤ l.length := List.length_filter_le _ _
theorem cntK_add (l : List Ent) (e : Ent) (n : Int) : cntK (l ++ [e]) n = cntK l n + if e.kind = n then 1 else 0 := by
  simp only [cntK, List.filter_append, List.length_append]
  by_cases h : e.kind = n <;> simp [h]
theorem cntF_same (l : List Ent) (e : Ent) : cntF (l ++ [e]) (.int .u8 e.kind) = some (.int .i64 (cntK l e.kind + 1 : Nat)) := by
  simp [cntF, cntK_add]
theorem cntF_other (l : List Ent) (e : Ent) (k : Value) (h : IsKey (.int .u8) k) (hne : k ≠ .int .u8 e.kind) : cntF (l ++ [e]) k = cntF l k := by
  unfold IsKey at h
  split at h <;> try trivial
  rename_i k1 k2 n heq
  cases heq
  subst h
  have : ¬ e.kind = n := fun h => hne (by rw [h])
  simp [cntF, cntK_add, this]
theorem cntF_get (l : List Ent) (n : Int) (k : IntKind) : (cntF l (.int k n)).getD (.int .i64 0) = .int .i64 (cntK l n) := by
  unfold cntF
  simp only
  split
  · rename_i h
    simp [h]
  · rfl

/-- May an entry meet another? -/
def okE (np : Nat) (term : Int) (a : Ent) : Bool :=
  (decide (a.kind = 2) && (decide (1 ≤ a.to) && decide (a.to < (np : Int)))) || ((decide (a.kind = 3) && (decide (a.to = 0) && decide (term = 0))) || (decide (a.kind = 1) && (decide (0 ≤ a.to) && decide (0 < term))))
def mayE (np : Nat) (term : Int) (l : List Ent) : Bool := l.all (okE np term) && decide (1 ≤ cntK l 2)
def EntAt (w : World) (b o : Nat) (e : Ent) : Prop := EntOk e ∧ Cells w b o [.int .u8 e.kind, .int .i64 e.to]
def IsEnts (w : World) (v : Value) (l : List Ent) : Prop := Rows' v 2 (EntAt w) l
theorem EntAt.fr {w w' : World} {b o : Nat} {s : Ent} (h : EntAt w b o s) (k : Fr nothing w w') : EntAt w' b o s := ⟨h.1, h.2.fr k fun e => e⟩
theorem IsEnts.fr {w w' : World} {v : Value} {l : List Ent} (h : IsEnts w v l) (k : Fr nothing w w') : IsEnts w' v l := Rows'.mono h fun _ _ _ h => h.fr k

theorem mayE_false (np : Nat) (term : Int) (l : List Ent) (k : Nat) (h : k < l.length) (hf : okE np term l[k] = false) : mayE np term l = false := by
  have : l.all (okE np term) = false := by
    cases e : l.all (okE np term)
    · rfl
    · rw [List.all_eq_true] at e
      rw [e _ (List.getElem_mem h)] at hf
      cases hf
  simp [mayE, this]
theorem okE_iff (np : Nat) (term k t : Int) : okE np term ⟨k, t⟩ = true ↔ (k = 2 ∧ 1 ≤ t ∧ t < (np : Int)) ∨ (k = 3 ∧ t = 0 ∧ term = 0) ∨ (k = 1 ∧ 0 ≤ t ∧ 0 < term) := by
  simp [okE]
theorem okE_not (np : Nat) (term k t : Int) (h : ¬((k = 2 ∧ 1 ≤ t ∧ t < (np : Int)) ∨ (k = 3 ∧ t = 0 ∧ term = 0) ∨ (k = 1 ∧ 0 ≤ t ∧ 0 < term))) : okE np term ⟨k, t⟩ = false := by
  cases e : okE np term ⟨k, t⟩
  · rfl
  · exact absurd ((okE_iff _ _ _ _).1 e) h

end Go.Proofs.Ytpnihegmhalcfaa
namespace Go.Proofs.Ytpnihegmhalcfaa
open Go.RowKit Go.MapKept Go.ChangeMaps
set_option maxHeartbeats 400000


/-- Where the first shift stands; -1: nowhere. -/
def idxE (l : List Ent) (i : Nat) : Int := match l with
  | [] => -1
  | a :: r => if a.kind = 1 then i else idxE r (i + 1)
theorem idxE_drop (l : List Ent) (k : Nat) (h : k < l.length) : idxE (l.drop k) k = if l[k].kind = 1 then (k : Int) else idxE (l.drop (k + 1)) (k + 1) := by
  rw [List.drop_eq_getElem_cons h]
  rfl

end Go.Proofs.Ytpnihegmhalcfaa
namespace Go.Proofs.Ytpnihegmhalcfaa
open Go.RowKit Go.MapKept Go.ChangeMaps
set_option maxHeartbeats 400000

theorem zItems (w : World) : (zeroValue 103).run Try.prog w = .ok (.slice none 0 0) w := by kernel_rfl
def onL (G : Gram) (L : List It) (s : Int) : Nat × List Value := ((onI G L s).length, (onI G L s).flatMap encI)
theorem onI_snoc (G : Gram) (L : List It) (x : It) (s : Int) : onI G (L ++ [x]) s = if behI G x = some s then onI G L s ++ [(x.1, x.2 + 1)] else onI G L s := by
  unfold onI
  rw [List.filter_append, List.map_append, List.filter_cons]
  simp only [decide_eq_true_eq, List.filter_nil]
  split
  · rfl
  · simp
theorem onL_none {G : Gram} {L : List It} {x : It} (h : behI G x = none) : onL G (L ++ [x]) = onL G L := by
  funext s
  unfold onL
  rw [onI_snoc, if_neg (by rw [h]; simp)]
theorem onL_some {G : Gram} {L : List It} {x : It} {t : Int} (h : behI G x = some t) : onL G (L ++ [x]) = updL (onL G L) t ((onL G L t).1 + 1, (onL G L t).2 ++ [.int .i64 x.1, .int .i64 (x.2 + 1)]) := by
  funext s
  unfold onL updL
  rw [onI_snoc, h]
  by_cases e : s = t
  · subst e
    simp [encI]
  · rw [if_neg (fun h => e (Option.some.inj h).symm), if_neg e]
theorem onI_len (G : Gram) (L : List It) (s : Int) : (onI G L s).length ≤ L.length := by
  unfold onI
  rw [List.length_map]
  exact List.length_filter_le _ _
theorem own_not_map {w : World} {B e size n b : Nat} {v : Value} {xs : List Value} {d : TypeDesc} {f : Value → Option Value} (h : w.ownsRow B e size v n xs) (hm : MapIs w d b f) : ¬ v.ownBlock = some b := fun hv => by
  obtain ⟨_, cs, hc⟩ := ownObj h b hv
  obtain ⟨es, c, hes⟩ := hm.obj
  rw [hc] at hes
  cases hes

end Go.Proofs.Ytpnihegmhalcfaa
namespace Go.Proofs.Ytpnihegmhalcfaa
open Go.RowKit
set_option maxHeartbeats 400000

def bindsE (a : Int) : Int := if a = 0 then 2 else if a = 1 then 1 else if a = 2 then 0 else 2
def againstE (la lb assoc : Int) : Int × Bool :=
  if la = 0 ∨ lb = 0 then (0, false) else if lb < la then (0, true) else if la < lb then (1, true) else (bindsE assoc, true)

end Go.Proofs.Ytpnihegmhalcfaa
namespace Go.Proofs.Ytpnihegmhalcfaa
open Go.RowKit Go.MapKept Go.ChangeMaps
set_option maxHeartbeats 400000

def precE (G : Gram) (k : Int) : Int := match G.prods[k.toNat]? with | some p => p.prec | none => 0
def assocE (G : Gram) (k : Int) : Int := match G.syms[k.toNat]? with | some p => p.assoc | none => 0
def metE (G : Gram) (term r at_ : Int) : Int × Bool :=
  let x := againstE (levelE G term) (levelE G (precE G r)) (assocE G term)
  (if x.1 = 0 then at_ else if x.1 = 1 then 1 - at_ else 2, x.2)
/-- P22.1, as the code has it. -/
def pickE (G : Gram) (term : Int) (a b : Ent) : Int × Bool :=
  if rightG G = true ∧ 0 ≤ term ∧ term < G.terms ∧ mayE G.prods.length term [a, b] = true then
    (if a.kind = 1 then metE G term b.to 0 else if b.kind = 1 then metE G term a.to 1 else (if firstE a b then 0 else 1, false))
  else (2, false)

/-- Two entries in a row of their own. -/
def entsObj (a b : Ent) : Obj := .cells #[.int .u8 a.kind, .int .i64 a.to, .int .u8 b.kind, .int .i64 b.to] 81 (0, 0)
theorem ents_two {w : World} {a b : Ent} {k : Nat} (ha : EntOk a) (hb : EntOk b) (h : w.heap[k]? = some (entsObj a b)) : IsEnts w (.slice (some ⟨k, 0, none⟩) 2 2) [a, b] := by
  refine ⟨by simp, _, 2, rfl, by simp, by decide, .inr ⟨k, 0, rfl, fun i hi => ?_⟩⟩
  simp only [List.length_cons, List.length_nil] at hi
  rcases (by omega : i = 0 ∨ i = 1) with rfl | rfl
  · refine ⟨ha, fun j hj => ?_⟩
    simp only [List.length_cons, List.length_nil] at hj
    rcases (by omega : j = 0 ∨ j = 1) with rfl | rfl
    · exact obj_cell h 0 rfl
    · exact obj_cell h 1 rfl
  · refine ⟨hb, fun j hj => ?_⟩
    simp only [List.length_cons, List.length_nil] at hj
    rcases (by omega : j = 0 ∨ j = 1) with rfl | rfl
    · exact obj_cell h 2 rfl
    · exact obj_cell h 3 rfl

theorem mayE_true {np : Nat} {term : Int} {a b : Ent} (h : mayE np term [a, b] = true) : okE np term a = true ∧ okE np term b = true ∧ (a.kind = 2 ∨ b.kind = 2) := by
  unfold mayE at h
  simp only [List.all_cons, List.all_nil, Bool.and_true, Bool.and_eq_true, decide_eq_true_eq] at h
  refine ⟨h.1.1, h.1.2, ?_⟩
  have h2 := h.2
  unfold cntK at h2
  by_cases e1 : a.kind = 2
  · exact .inl e1
  · by_cases e2 : b.kind = 2
    · exact .inr e2
    · simp [e1, e2] at h2

end Go.Proofs.Ytpnihegmhalcfaa
namespace Go.Proofs.Ytpnihegmhalcfaa
open Go.RowKit Go.MapKept Go.ChangeMaps
set_option maxHeartbeats 400000

def okI (G : Gram) (K : List It) : Bool := rightG G && K.all fun x => decide (InI G x)
def closE (G : Gram) (K : List It) : List It := if okI G K then cloL G K else []
def gotoE (G : Gram) (K : List It) (s : Int) : List It := if okI G K then onI G (cloL G K) s else []
theorem right_short {G : Gram} (h : rightG G = true) : G.prods.length ≤ 128 := (rightG_parts h).1.2.2.2.2.2

theorem ownDown {w : World} {B B' e size n : Nat} {v : Value} {xs : List Value} (h : w.ownsRow B e size v n xs) (hb : B' ≤ B) : w.ownsRow B' e size v n xs := by
  obtain ⟨h1, h2⟩ := h
  refine ⟨h1, ?_⟩
  rcases h2 with h2 | ⟨g, cap, cur, hv, hg, rest⟩
  · exact .inl h2
  · exact .inr ⟨g, cap, cur, hv, Nat.le_trans hb hg, rest⟩
theorem OwnI.down {w : World} {B B' : Nat} {v : Value} {l : List It} (h : OwnI w B v l) (hb : B' ≤ B) : OwnI w B' v l := ownDown h hb
end Go.Proofs.Ytpnihegmhalcfaa
namespace Go.Proofs.Ytpnihegmhalcfaa
open Go.RowKit
set_option maxHeartbeats 400000

/-- What LentGrammar answers. -/
def LentG (w : World) (B : Nat) (v : Value) (G : Gram) : Prop := i64 G.terms ∧ ∃ s p, v = .agg #[.int .i64 G.terms, s, p] ∧ LentS w B s G.syms ∧ LentPs w B p G.prods
theorem LentG.fr {w w' : World} {B : Nat} {v : Value} {G : Gram} (h : LentG w B v G) (k : Fr nothing w w') : LentG w' B v G := by
  obtain ⟨h0, s, p, h1, h2, h3⟩ := h
  exact ⟨h0, s, p, h1, h2.fr k, h3.fr k⟩
theorem LentG.gram {w : World} {B : Nat} {v : Value} {G : Gram} (h : LentG w B v G) : IsGram w v G := by
  obtain ⟨h0, s, p, h1, h2, h3⟩ := h
  exact ⟨h0, s, p, h1, h2.syms, h3.prds⟩
theorem LentS.wide {ch : Nat → Prop} {w w' : World} {B : Nat} {v : Value} {l : List Sym} (h : LentS w B v l) (k : Fr ch w w') (hc : ∀ g, B ≤ g → ¬ ch g) : LentS w' B v l := by
  obtain ⟨g, cap, h1, h2, h3, h4, h5, h6, h7⟩ := h
  exact ⟨g, cap, h1, h2, h3, h4, h5.fr k (hc g h2), h6, h7⟩
theorem LentPs.wide {ch : Nat → Prop} {w w' : World} {B : Nat} {v : Value} {l : List Prd} (h : LentPs w B v l) (k : Fr ch w w') (hc : ∀ g, B ≤ g → ¬ ch g) : LentPs w' B v l := by
  obtain ⟨g, cap, xs, h1, h2, h3, h4, h5, h6, h7, h8, h9⟩ := h
  exact ⟨g, cap, xs, h1, h2, h3, h4, h5, h6.fr k (hc g h2), fun x hx => (h7 x hx).fr k hc, h8, h9⟩
theorem LentS.mono {w : World} {B B' : Nat} {v : Value} {l : List Sym} (h : LentS w B v l) (hb : B' ≤ B) : LentS w B' v l := by
  obtain ⟨g, cap, h1, h2, h3⟩ := h
  exact ⟨g, cap, h1, Nat.le_trans hb h2, h3⟩
theorem LentPs.mono {w : World} {B B' : Nat} {v : Value} {l : List Prd} (h : LentPs w B v l) (hb : B' ≤ B) : LentPs w B' v l := by
  obtain ⟨g, cap, xs, h1, h2, h3, h4, h5, h6, h7, h8, h9⟩ := h
  exact ⟨g, cap, xs, h1, Nat.le_trans hb h2, h3, h4, h5, h6, fun x hx => (h7 x hx).mono hb, h8, h9⟩

theorem wp_atW {P : Program} {c : Code} {Q : Exit → Act → World → Prop} {a : Act} {w : World} (F : World → Prop) (hF : F w) (h : ∀ W, F W → c.wp P Q a W) : c.wp P Q a w := h w hF
theorem setCell_obj {w : World} {b i : Nat} {cs : Array Value} {t : TypeId} {f : Nat × Nat} (h : w.heap[b]? = some (.cells cs t f)) (v : Value) : (w.setCell ⟨b, i, none⟩ v).heap[b]? = some (.cells (cs.setIfInBounds i v) t f) := by
  obtain ⟨hb, he⟩ := Array.getElem?_eq_some_iff.1 h
  simp [World.setCell, hb, Array.getElem_modify, he]

set_option maxRecDepth 100000 in
set_option maxHeartbeats 2000000 in
theorem lentGrammar_any (u : Value) (G : Gram) (w : World) (h : IsGram w u G) (hs : G.syms.length ≤ 1000000000000) (hp : G.prods.length ≤ 1000000000000) :
    Calls Try.prog 19 #[u] w fun e w' => ∃ g1 c1 g2 c2, e = .returned (.agg #[.int .i64 G.terms, .slice (some ⟨g1, 0, none⟩) G.syms.length c1, .slice (some ⟨g2, 0, none⟩) G.prods.length c2]) ∧
      LentG w' w.heap.size (.agg #[.int .i64 G.terms, .slice (some ⟨g1, 0, none⟩) G.syms.length c1, .slice (some ⟨g2, 0, none⟩) G.prods.length c2]) G ∧ Below w.heap.size w w' := by
  obtain ⟨hterms, vs, vp, rfl, hvs, hvp⟩ := h
  have hs0 := hvs
  have hp0 := hvp
  obtain ⟨_, sa, sc, rfl, hz1⟩ := hvs
  obtain ⟨_, pa, pc, rfl, hz2⟩ := hvp
  clear hz1 hz2
  obtain ⟨terms, syms, prods⟩ := G
  simp only at hs hp hs0 hp0 hterms
  simp only
  have HLS := Lib.hid fun (x : World) (hx : Fr nothing w x) => lentSyms_any _ syms x (hs0.fr hx) hs
  have HLP := Lib.hid fun (x : World) (hx : Fr nothing w x) => lentProds_any _ prods x (hp0.fr hx) hp
  have hx := two_boxes w (.cells #[.int .i64 terms, .slice sa syms.length sc, .slice pa prods.length pc] 25 (0, 0)) (.cells #[.int .i64 0, .slice none 0 0, .slice none 0 0] 25 (0, 0))
  obtain ⟨w1, hw1⟩ : ∃ w1, w1 = (w.alloc (.cells #[.int .i64 terms, .slice sa syms.length sc, .slice pa prods.length pc] 25 (0, 0))).alloc (.cells #[.int .i64 0, .slice none 0 0, .slice none 0 0] 25 (0, 0)) := ⟨_, rfl⟩
  rw [← hw1] at hx
  obtain ⟨o0, o1, hB1⟩ := hx
  have z1 : w1.cell? ⟨w.heap.size, 1, none⟩ = some (.slice sa syms.length sc) := obj_cell o0 1 rfl
  have HLS1 := Lib.hid (HLS.out w1 (Fr.new hB1))
  have HW := Lib.hid hw1
  have HO := Lib.hid (And.intro o0 (And.intro o1 hB1))
  have hsz1 : w.heap.size + 1 < w1.heap.size := (Array.getElem?_eq_some_iff.1 o1).1
  clear HLS hw1 hB1 o0 o1 hs0 hp0
  go_enter Try.func19, Try.ntmps19
  go_upto_region 1 with fail
  rw [← HW.out]
  go_upto_region 2 with (go_at_call 36; refine HLS1.out.mono ?_; rintro e w2 ⟨v, rfl, hl, hb⟩; obtain ⟨g1, c1, rfl, hlr⟩ := id hl; have p0 := (Fr.new hb).obj HO.out.1 fun e => e; have d1 := obj_cell p0 1 rfl; have f1 := obj_frozen p0 1)
  refine wp_atW (F := fun W => W.heap[w.heap.size]? = some (.cells #[.int .i64 terms, .slice (some ⟨g1, 0, none⟩) syms.length c1, .slice pa prods.length pc] 25 (0, 0)) ∧ W.heap[w.heap.size + 1]? = some (.cells #[.int .i64 0, .slice none 0 0, .slice none 0 0] 25 (0, 0)) ∧ Fr (only w.heap.size) w2 W) ?_ ?_
  · exact ⟨setCell_obj p0 _, (Fr.setCell w2 ⟨w.heap.size, 1, none⟩ _).obj ((Fr.new hb).obj HO.out.2.1 fun e => e) (fun e => by unfold only at e; simp at e), Fr.setCell' _ _ rfl⟩
  rintro W ⟨q0, q1, hfr⟩
  have hBW : Below w.heap.size w W := (HO.out.2.2.trans (hb.mono HO.out.2.2.size)).trans (hfr.below (Nat.le_trans HO.out.2.2.size hb.size) fun k e => by unfold only at e; omega)
  have hl2 : LentS W (w.heap.size + 2) (.slice (some ⟨g1, 0, none⟩) syms.length c1) syms := (hl.mono (by omega)).wide hfr fun g hg e => by unfold only at e; omega
  have HL2 := Lib.hid (And.intro hl2 (And.intro hBW hfr.size))
  have HLP1 := Lib.hid (HLP.out W (Fr.new hBW))
  have HQ := Lib.hid (And.intro q0 q1)
  have hszW : w.heap.size + 1 < W.heap.size := (Array.getElem?_eq_some_iff.1 q1).1
  have e2 : W.cell? ⟨w.heap.size, 2, none⟩ = some (.slice pa prods.length pc) := obj_cell q0 2 rfl
  clear hl hlr hb p0 d1 f1 hfr hl2 hBW q0 q1 HLP HLS1 z1
  go_upto_region 3 with (go_at_call 37; refine HLP1.out.mono ?_; rintro e w3 ⟨v, rfl, hl3, hb3⟩; obtain ⟨g2, c2, xs, rfl, hlr⟩ := id hl3; have p0 := (Fr.new hb3).obj HQ.out.1 fun e => e; have d2 := obj_cell p0 2 rfl; have f2 := obj_frozen p0 2)
  refine wp_atW (F := fun X => X.heap[w.heap.size]? = some (.cells #[.int .i64 terms, .slice (some ⟨g1, 0, none⟩) syms.length c1, .slice (some ⟨g2, 0, none⟩) prods.length c2] 25 (0, 0)) ∧ X.heap[w.heap.size + 1]? = some (.cells #[.int .i64 0, .slice none 0 0, .slice none 0 0] 25 (0, 0)) ∧ Fr (only w.heap.size) w3 X) ?_ ?_
  · exact ⟨setCell_obj p0 _, (Fr.setCell w3 ⟨w.heap.size, 2, none⟩ _).obj ((Fr.new hb3).obj HQ.out.2 fun e => e) (fun e => by unfold only at e; simp at e), Fr.setCell' _ _ rfl⟩
  rintro X ⟨q0, q1, hfr⟩
  have x0 : X.cell? ⟨w.heap.size, 0, none⟩ = some (.int .i64 terms) := obj_cell q0 0 rfl
  have x1 : X.cell? ⟨w.heap.size, 1, none⟩ = some (.slice (some ⟨g1, 0, none⟩) syms.length c1) := obj_cell q0 1 rfl
  have x2 : X.cell? ⟨w.heap.size, 2, none⟩ = some (.slice (some ⟨g2, 0, none⟩) prods.length c2) := obj_cell q0 2 rfl
  have y0 : X.cell? ⟨w.heap.size + 1, 0, none⟩ = some (.int .i64 0) := obj_cell q1 0 rfl
  have y1 : X.cell? ⟨w.heap.size + 1, 1, none⟩ = some (.slice none 0 0) := obj_cell q1 1 rfl
  have y2 : X.cell? ⟨w.heap.size + 1, 2, none⟩ = some (.slice none 0 0) := obj_cell q1 2 rfl
  have f0 := obj_frozen q1 0
  have f1 := obj_frozen q1 1
  have f3 := obj_frozen q1 2
  have HX := Lib.hid (And.intro hl3 (And.intro hb3 hfr))
  clear hl3 hlr hb3 p0 d2 f2 hfr HLP1 e2 q0 q1
  go_wp2
  refine at_world (Q := bodyPost _ _ _ _ _) (F := fun Y => (Y.cell? ⟨w.heap.size + 1, 0, none⟩ = some (.int .i64 terms) ∧ Y.cell? ⟨w.heap.size + 1, 1, none⟩ = some (.slice (some ⟨g1, 0, none⟩) syms.length c1) ∧ Y.cell? ⟨w.heap.size + 1, 2, none⟩ = some (.slice (some ⟨g2, 0, none⟩) prods.length c2)) ∧ Fr (only (w.heap.size + 1)) X Y) ?_ ?_
  · refine ⟨⟨?_, ?_, ?_⟩, ?_⟩
    · simp [go_sem, y0]
    · simp [go_sem, y1]
    · simp [go_sem, y2]
    · repeat (first | with_reducible exact Fr.refl _ _ | refine Fr.trans ?_ (Fr.setCell' _ _ rfl))
  · rintro Y ⟨⟨r0, r1, r2⟩, hfY⟩
    refine bodyPost_ret (by simp [results, Try.results19, go_sem, r0, r1, r2]; try rfl) rfl ?_
    have hF : Fr (fun k => k = w.heap.size ∨ k = w.heap.size + 1) W Y := ((Fr.new HX.out.2.1).wide.trans (HX.out.2.2.mono fun _ _ e => .inl e)).trans (hfY.mono fun _ _ e => .inr e)
    have hF3 : Fr (fun k => k = w.heap.size ∨ k = w.heap.size + 1) w3 Y := (HX.out.2.2.mono fun _ _ e => .inl e).trans (hfY.mono fun _ _ e => .inr e)
    have hno : ∀ g, w.heap.size + 2 ≤ g → ¬ (g = w.heap.size ∨ g = w.heap.size + 1) := fun g hg e => by omega
    exact ⟨g1, c1, g2, c2, rfl, ⟨hterms, _, _, rfl, (HL2.out.1.wide hF hno).mono (by omega), ((HX.out.1.mono (by omega : w.heap.size + 2 ≤ W.heap.size)).wide hF3 hno).mono (by omega)⟩, HL2.out.2.1.trans (hF.below HL2.out.2.1.size fun k e => by omega)⟩

set_option maxRecDepth 100000 in
set_option maxHeartbeats 2000000 in
theorem sameGrammar_any (u v : Value) (G : Gram) (w : World) (hu : IsGram w u G) (hv : IsGram w v G) :
    Calls Try.prog 43 #[u, v] w fun e w' => e = .returned (.bool true) ∧ Below w.heap.size w w' := by
  have hg1 := hu
  have hg2 := hv
  obtain ⟨_, us, up, rfl, hus, hup⟩ := hu
  obtain ⟨_, vs, vp, rfl, hvs, hvp⟩ := hv
  obtain ⟨_, sa, sc, rfl, hz1⟩ := id hus
  obtain ⟨_, pa, pc, rfl, hz2⟩ := id hup
  obtain ⟨_, sb, sd, rfl, hz3⟩ := id hvs
  obtain ⟨_, pb, pd, rfl, hz4⟩ := id hvp
  clear hz1 hz2 hz3 hz4
  obtain ⟨terms, syms, prods⟩ := G
  simp only at hus hup hvs hvp hg1 hg2
  simp only
  have hx := two_boxes w (.cells #[.int .i64 terms, .slice sa syms.length sc, .slice pa prods.length pc] 25 (0, 0)) (.cells #[.int .i64 terms, .slice sb syms.length sd, .slice pb prods.length pd] 25 (0, 0))
  obtain ⟨w1, hw1⟩ : ∃ w1, w1 = (w.alloc (.cells #[.int .i64 terms, .slice sa syms.length sc, .slice pa prods.length pc] 25 (0, 0))).alloc (.cells #[.int .i64 terms, .slice sb syms.length sd, .slice pb prods.length pd] 25 (0, 0)) := ⟨_, rfl⟩
  rw [← hw1] at hx
  obtain ⟨o0, o1, hB1⟩ := hx
  have g0 : ∀ q : After w1, q.w.cell? ⟨w.heap.size, 0, none⟩ = some (.int .i64 terms) := after_obj o0 0 rfl
  have g1 : ∀ q : After w1, q.w.cell? ⟨w.heap.size, 1, none⟩ = some (.slice sa syms.length sc) := after_obj o0 1 rfl
  have g2 : ∀ q : After w1, q.w.cell? ⟨w.heap.size, 2, none⟩ = some (.slice pa prods.length pc) := after_obj o0 2 rfl
  have k0 : ∀ q : After w1, q.w.cell? ⟨w.heap.size + 1, 0, none⟩ = some (.int .i64 terms) := after_obj o1 0 rfl
  have k1 : ∀ q : After w1, q.w.cell? ⟨w.heap.size + 1, 1, none⟩ = some (.slice sb syms.length sd) := after_obj o1 1 rfl
  have k2 : ∀ q : After w1, q.w.cell? ⟨w.heap.size + 1, 2, none⟩ = some (.slice pb prods.length pd) := after_obj o1 2 rfl
  have z0 : w1.cell? ⟨w.heap.size, 0, none⟩ = some (.int .i64 terms) := obj_cell o0 0 rfl
  have z1 : w1.cell? ⟨w.heap.size, 1, none⟩ = some (.slice sa syms.length sc) := obj_cell o0 1 rfl
  have z2 : w1.cell? ⟨w.heap.size, 2, none⟩ = some (.slice pa prods.length pc) := obj_cell o0 2 rfl
  have y0 : w1.cell? ⟨w.heap.size + 1, 0, none⟩ = some (.int .i64 terms) := obj_cell o1 0 rfl
  have y1 : w1.cell? ⟨w.heap.size + 1, 1, none⟩ = some (.slice sb syms.length sd) := obj_cell o1 1 rfl
  have y2 : w1.cell? ⟨w.heap.size + 1, 2, none⟩ = some (.slice pb prods.length pd) := obj_cell o1 2 rfl
  have HS := Lib.hid ((sameSyms_any _ _ syms w1 (hus.fr (Fr.new hB1)) (hvs.fr (Fr.new hB1))).mono fun e w' hh => (show e = .returned (.bool true) ∧ ∃ q : After w1, w' = q.w from ⟨hh.1, ⟨w', hh.2⟩, rfl⟩))
  have HP := Lib.hid fun q : After w1 => after_call q (sameProds_any _ _ prods q.w ((hup.fr (Fr.new hB1)).fr (Fr.new q.ok)) ((hvp.fr (Fr.new hB1)).fr (Fr.new q.ok)))
  have HW := Lib.hid hw1
  have HB := Lib.hid hB1
  clear hw1 hB1 o0 o1 hus hup hvs hvp hg1 hg2
  go_enter Try.func43, Try.ntmps43
  go_upto_region 1 with fail
  rw [← HW.out]
  go_wp2_with (first | (go_at_call 79; refine HS.out.mono ?_; rintro e w' ⟨rfl, q, rfl⟩) | (go_at_call 80; refine (HP.out _).mono ?_; rintro e w' ⟨rfl, q', rfl⟩))
  go_ret
  exact ⟨rfl, HB.out.trans (q'.ok.mono HB.out.size)⟩

set_option maxRecDepth 100000 in
set_option maxHeartbeats 2000000 in
theorem keptGrammar_any (B : Nat) (u v : Value) (G : Gram) (w : World) (hu : LentG w B u G) (hv : IsGram w v G) :
    Calls Try.prog 24 #[u, v] w fun e w' => e = .returned (.bool true) ∧ Below w.heap.size w w' := by
  have hg1 := hu.gram
  have hg2 := hv
  obtain ⟨_, us, up, rfl, hus, hup⟩ := hu
  obtain ⟨_, vs, vp, rfl, hvs, hvp⟩ := hv
  obtain ⟨_, sa, sc, rfl, hz1⟩ := id hus.syms
  obtain ⟨_, pa, pc, rfl, hz2⟩ := id hup.prds
  obtain ⟨_, sb, sd, rfl, hz3⟩ := id hvs
  obtain ⟨_, pb, pd, rfl, hz4⟩ := id hvp
  clear hz1 hz2 hz3 hz4
  obtain ⟨terms, syms, prods⟩ := G
  simp only at hus hup hvs hvp hg1 hg2
  simp only
  have hx := two_boxes w (.cells #[.int .i64 terms, .slice sa syms.length sc, .slice pa prods.length pc] 25 (0, 0)) (.cells #[.int .i64 terms, .slice sb syms.length sd, .slice pb prods.length pd] 25 (0, 0))
  obtain ⟨w1, hw1⟩ : ∃ w1, w1 = (w.alloc (.cells #[.int .i64 terms, .slice sa syms.length sc, .slice pa prods.length pc] 25 (0, 0))).alloc (.cells #[.int .i64 terms, .slice sb syms.length sd, .slice pb prods.length pd] 25 (0, 0)) := ⟨_, rfl⟩
  rw [← hw1] at hx
  obtain ⟨o0, o1, hB1⟩ := hx
  have g0 : ∀ q : After w1, q.w.cell? ⟨w.heap.size, 0, none⟩ = some (.int .i64 terms) := after_obj o0 0 rfl
  have g1 : ∀ q : After w1, q.w.cell? ⟨w.heap.size, 1, none⟩ = some (.slice sa syms.length sc) := after_obj o0 1 rfl
  have g2 : ∀ q : After w1, q.w.cell? ⟨w.heap.size, 2, none⟩ = some (.slice pa prods.length pc) := after_obj o0 2 rfl
  have k0 : ∀ q : After w1, q.w.cell? ⟨w.heap.size + 1, 0, none⟩ = some (.int .i64 terms) := after_obj o1 0 rfl
  have k1 : ∀ q : After w1, q.w.cell? ⟨w.heap.size + 1, 1, none⟩ = some (.slice sb syms.length sd) := after_obj o1 1 rfl
  have k2 : ∀ q : After w1, q.w.cell? ⟨w.heap.size + 1, 2, none⟩ = some (.slice pb prods.length pd) := after_obj o1 2 rfl
  have z0 : w1.cell? ⟨w.heap.size, 0, none⟩ = some (.int .i64 terms) := obj_cell o0 0 rfl
  have z1 : w1.cell? ⟨w.heap.size, 1, none⟩ = some (.slice sa syms.length sc) := obj_cell o0 1 rfl
  have z2 : w1.cell? ⟨w.heap.size, 2, none⟩ = some (.slice pa prods.length pc) := obj_cell o0 2 rfl
  have y0 : w1.cell? ⟨w.heap.size + 1, 0, none⟩ = some (.int .i64 terms) := obj_cell o1 0 rfl
  have y1 : w1.cell? ⟨w.heap.size + 1, 1, none⟩ = some (.slice sb syms.length sd) := obj_cell o1 1 rfl
  have y2 : w1.cell? ⟨w.heap.size + 1, 2, none⟩ = some (.slice pb prods.length pd) := obj_cell o1 2 rfl
  have HG := Lib.hid ((sameGrammar_any _ _ ⟨terms, syms, prods⟩ w1 (hg1.fr (Fr.new hB1)) (hg2.fr (Fr.new hB1))).mono fun e w' hh => (show e = .returned (.bool true) ∧ ∃ q : After w1, w' = q.w from ⟨hh.1, ⟨w', hh.2⟩, rfl⟩))
  have HS := Lib.hid fun q : After w1 => after_call q (keptSyms_any B _ _ syms q.w ((hus.fr (Fr.new hB1)).fr (Fr.new q.ok)) ((hvs.fr (Fr.new hB1)).fr (Fr.new q.ok)))
  have HP := Lib.hid fun q : After w1 => after_call q (keptProds_any B _ _ prods q.w ((hup.fr (Fr.new hB1)).fr (Fr.new q.ok)) ((hvp.fr (Fr.new hB1)).fr (Fr.new q.ok)))
  have HW := Lib.hid hw1
  have HB := Lib.hid hB1
  clear hw1 hB1 o0 o1 hus hup hvs hvp hg1 hg2
  go_enter Try.func24, Try.ntmps24
  go_upto_region 1 with fail
  rw [← HW.out]
  go_wp2_with (first | (go_at_call 43; refine HG.out.mono ?_; rintro e w' ⟨rfl, q, rfl⟩) | (go_at_call 44; refine (HS.out _).mono ?_; rintro e w' ⟨rfl, q1, rfl⟩) | (go_at_call 45; refine (HP.out _).mono ?_; rintro e w' ⟨rfl, q2, rfl⟩))
  go_ret
  exact ⟨rfl, HB.out.trans (q2.ok.mono HB.out.size)⟩
end Go.Proofs.Ytpnihegmhalcfaa
namespace Go.Proofs.Ytpnihegmhalcfaa
open Go.RowKit Go.MapKept Go.ChangeMaps
set_option maxHeartbeats 400000

/-- Some level is there, of the terminal and of the production's precedence. -/
structure Led (G : Gram) (t : Nat) (s r : Ent) (k p : Nat) (L M : Int) (shifts : Bool) : Prop where
  s1 : s.kind = 1
  r2 : r.kind = 2
  rto : r.to = (k : Int)
  kp : k < G.prods.length
  pr : (G.prods[k]'kp).prec = (p : Int)
  ps : p < G.syms.length
  ts : t < G.syms.length
  lt : (G.syms[t]'ts).level = L
  lp : (G.syms[p]'ps).level = M
  l0 : 0 < L
  m0 : 0 < M
  win : if shifts then M ≤ L else L ≤ M
/-- What two entries come to, one way and the other. -/
inductive Turned (G : Gram) (t : Int) (a b : Ent) : Int × Bool → Int × Bool → Prop
  | none : Turned G t a b (2, false) (2, false)
  | both (h : a.kind = 1 ∨ b.kind = 1) : Turned G t a b (2, true) (2, true)
  | same (h : a = b) : Turned G t a b (0, false) (0, false)
  | one (hn : ¬ a = b) (h0 : 0 ≤ t) (h1 : t < G.terms) (h2 : t < G.syms.length) (hw : a.kind ≠ 2 ∨ (b.kind = 2 ∧ a.to < b.to)) : Turned G t a b (0, false) (1, false)
  | two (hn : ¬ a = b) (h0 : 0 ≤ t) (h1 : t < G.terms) (h2 : t < G.syms.length) (hw : b.kind ≠ 2 ∨ (a.kind = 2 ∧ b.to < a.to)) : Turned G t a b (1, false) (0, false)
  | led (n k p : Nat) (L M : Int) (f : Bool) (hn : ¬ a = b) (ht : t = (n : Int)) (h1 : t < G.terms) (h : Led G n a b k p L M f) : Turned G t a b (if f then 0 else 1, true) (if f then 1 else 0, true)
  | del (n k p : Nat) (L M : Int) (f : Bool) (hn : ¬ a = b) (ht : t = (n : Int)) (h1 : t < G.terms) (h : Led G n b a k p L M f) : Turned G t a b (if f then 1 else 0, true) (if f then 0 else 1, true)

theorem mayE_turn (np : Nat) (t : Int) (a b : Ent) : mayE np t [a, b] = mayE np t [b, a] := by
  unfold mayE cntK
  simp only [List.all_cons, List.all_nil, Bool.and_true]
  rw [Bool.and_comm (okE np t a)]
  congr 1
  by_cases e1 : a.kind = 2 <;> by_cases e2 : b.kind = 2 <;> simp [e1, e2]

theorem met_led {G : Gram} (hr : rightG G = true) (n : Nat) (hn : (n : Int) < G.terms) (s r : Ent) (hs : s.kind = 1) (hk : r.kind = 2) (ho : okE G.prods.length n r = true) :
    ∃ u f, againstE (levelE G n) (levelE G (precE G r.to)) (assocE G n) = (u, f) ∧ ((f = false ∧ u = 0) ∨ (f = true ∧ u = 2) ∨ (f = true ∧ u = 0 ∧ ∃ k p L M, Led G n s r k p L M true) ∨ (f = true ∧ u = 1 ∧ ∃ k p L M, Led G n s r k p L M false)) := by
  obtain ⟨⟨_, _, hl, _, _, _⟩, _, _⟩ := rightG_parts hr
  have h := (okE_iff _ _ r.kind r.to).1 ho
  have hto : 1 ≤ r.to ∧ r.to < (G.prods.length : Int) := by omega
  obtain ⟨k, hk'⟩ : ∃ k : Nat, r.to = (k : Int) := ⟨r.to.toNat, by omega⟩
  have hkp : k < G.prods.length := by omega
  have hts : n < G.syms.length := by omega
  have hp := right_prod hr k hkp
  have hsy := right_sym hr n hts
  have e1 : levelE G n = G.syms[n].level := by
    simp [levelE, List.getElem?_eq_getElem hts]
    omega
  have e2 : precE G r.to = G.prods[k].prec := by simp [precE, hk', List.getElem?_eq_getElem hkp]
  have e3 : assocE G n = G.syms[n].assoc := by simp [assocE, List.getElem?_eq_getElem hts]
  rw [e1, e2, e3]
  rcases hp with hp | ⟨hp1, hp2⟩
  · refine ⟨0, false, ?_, .inl ⟨rfl, rfl⟩⟩
    rw [againstE, if_pos (.inr (by rw [levelE, if_pos (by omega)]))]
  · obtain ⟨p, hpp⟩ : ∃ p : Nat, G.prods[k].prec = (p : Int) := ⟨G.prods[k].prec.toNat, by omega⟩
    have hps : p < G.syms.length := by omega
    have hsp := right_sym hr p hps
    have e4 : levelE G G.prods[k].prec = G.syms[p].level := by
      rw [hpp]
      simp [levelE, List.getElem?_eq_getElem hps]
      omega
    rw [e4]
    have hled : ∀ f, (0 < G.syms[n].level) → (0 < G.syms[p].level) → (if f = true then G.syms[p].level ≤ G.syms[n].level else G.syms[n].level ≤ G.syms[p].level) → Led G n s r k p G.syms[n].level G.syms[p].level f := fun f a1 a2 a3 =>
      ⟨hs, hk, hk', hkp, hpp, hps, hts, rfl, rfl, a1, a2, a3⟩
    generalize hL : G.syms[n].level = L at *
    generalize hM : G.syms[p].level = M at *
    by_cases c0 : L = 0 ∨ M = 0
    · exact ⟨0, false, by rw [againstE, if_pos c0], .inl ⟨rfl, rfl⟩⟩
    · by_cases c1 : M < L
      · exact ⟨0, true, by rw [againstE, if_neg c0, if_pos c1], .inr (.inr (.inl ⟨rfl, rfl, k, p, L, M, hled true (by omega) (by omega) (by rw [if_pos rfl]; omega)⟩))⟩
      · by_cases c2 : L < M
        · exact ⟨1, true, by rw [againstE, if_neg c0, if_neg c1, if_pos c2], .inr (.inr (.inr ⟨rfl, rfl, k, p, L, M, hled false (by omega) (by omega) (by rw [if_neg (by decide)]; omega)⟩))⟩
        · have hac := hsy.2.1
          refine ⟨bindsE G.syms[n].assoc, true, by rw [againstE, if_neg c0, if_neg c1, if_neg c2], ?_⟩
          generalize G.syms[n].assoc = ac at *
          unfold bindsE
          by_cases d0 : ac = 0
          · exact .inr (.inl ⟨rfl, by rw [if_pos d0]⟩)
          · by_cases d1 : ac = 1
            · exact .inr (.inr (.inr ⟨rfl, by rw [if_neg d0, if_pos d1], k, p, L, M, hled false (by omega) (by omega) (by rw [if_neg (by decide)]; omega)⟩))
            · by_cases d2 : ac = 2
              · exact .inr (.inr (.inl ⟨rfl, by rw [if_neg d0, if_neg d1, if_pos d2], k, p, L, M, hled true (by omega) (by omega) (by rw [if_pos rfl]; omega)⟩))
              · exact .inr (.inl ⟨rfl, by rw [if_neg d0, if_neg d1, if_neg d2]⟩)

theorem turned (G : Gram) (t : Int) (a b : Ent) : Turned G t a b (pickE G t a b) (pickE G t b a) := by
  unfold pickE
  by_cases hC : rightG G = true ∧ 0 ≤ t ∧ t < G.terms ∧ mayE G.prods.length t [a, b] = true
  · have hC' : rightG G = true ∧ 0 ≤ t ∧ t < G.terms ∧ mayE G.prods.length t [b, a] = true := by rw [mayE_turn]; exact hC
    rw [if_pos hC, if_pos hC']
    obtain ⟨e1, e2, e3, e4⟩ := hC
    obtain ⟨oa, ob, o2⟩ := mayE_true e4
    obtain ⟨⟨_, _, hl, _, _, _⟩, _, _⟩ := rightG_parts e1
    have ka := (okE_iff _ _ a.kind a.to).1 oa
    have kb := (okE_iff _ _ b.kind b.to).1 ob
    obtain ⟨n, rfl⟩ : ∃ n : Nat, t = (n : Int) := ⟨t.toNat, by omega⟩
    by_cases a1 : a.kind = 1
    · have b2 : b.kind = 2 := by omega
      have b1 : ¬ b.kind = 1 := by omega
      have hne : ¬ a = b := fun h => by rw [h] at a1; exact b1 a1
      rw [if_pos a1, if_neg b1, if_pos a1]
      obtain ⟨u, f, hu, hh⟩ := met_led e1 n e3 a b a1 b2 ob
      unfold metE
      rw [hu]
      rcases hh with ⟨rfl, rfl⟩ | ⟨rfl, rfl⟩ | ⟨rfl, rfl, k, p, L, M, h⟩ | ⟨rfl, rfl, k, p, L, M, h⟩
      · exact .one hne (by omega) e3 (by omega) (.inl (by omega))
      · exact .both (.inl a1)
      · exact .led n k p L M true hne rfl e3 h
      · exact .led n k p L M false hne rfl e3 h
    · by_cases b1 : b.kind = 1
      · have a2 : a.kind = 2 := by omega
        have hne : ¬ a = b := fun h => by rw [← h] at b1; exact a1 b1
        rw [if_neg a1, if_pos b1, if_pos b1]
        obtain ⟨u, f, hu, hh⟩ := met_led e1 n e3 b a b1 a2 oa
        unfold metE
        rw [hu]
        rcases hh with ⟨rfl, rfl⟩ | ⟨rfl, rfl⟩ | ⟨rfl, rfl, k, p, L, M, h⟩ | ⟨rfl, rfl, k, p, L, M, h⟩
        · exact .two hne (by omega) e3 (by omega) (.inl (by omega))
        · exact .both (.inr b1)
        · exact .del n k p L M true hne rfl e3 h
        · exact .del n k p L M false hne rfl e3 h
      · rw [if_neg a1, if_neg b1, if_neg b1, if_neg a1]
        obtain ⟨ak, at_⟩ := a
        obtain ⟨bk, bt⟩ := b
        unfold firstE
        simp only at *
        by_cases a3 : ak = 3
        · have b2 : bk = 2 := by omega
          subst a3 b2
          exact .one (by simp) (by omega) e3 (by omega) (.inl (by simp))
        · have a2 : ak = 2 := by omega
          subst a2
          by_cases b3 : bk = 3
          · subst b3
            exact .two (by simp) (by omega) e3 (by omega) (.inl (by simp))
          · have b2 : bk = 2 := by omega
            subst b2
            by_cases c1 : at_ = bt
            · subst c1
              simp only [Int.le_refl, decide_true]
              exact .same rfl
            · by_cases c2 : at_ < bt
              · have c3 : ¬ bt ≤ at_ := by omega
                have c4 : at_ ≤ bt := by omega
                simp only [c3, c4, decide_true, decide_false]
                exact .one (by simp [c1]) (by omega) e3 (by omega) (.inr ⟨rfl, c2⟩)
              · have c3 : bt ≤ at_ := by omega
                have c4 : ¬ at_ ≤ bt := by omega
                simp only [c3, c4, decide_true, decide_false]
                exact .two (by simp [c1]) (by omega) e3 (by omega) (.inr ⟨rfl, by simp only; omega⟩)
  · have hC' : ¬ (rightG G = true ∧ 0 ≤ t ∧ t < G.terms ∧ mayE G.prods.length t [b, a] = true) := by rw [mayE_turn]; exact hC
    rw [if_neg hC, if_neg hC']
    exact .none
end Go.Proofs.Ytpnihegmhalcfaa
namespace Go.Proofs.Ytpnihegmhalcfaa
open Go.RowKit Go.MapKept Go.ChangeMaps
set_option maxHeartbeats 400000

def numsI (K : List It) : List Int := K.flatMap fun x => [x.1, x.2]
theorem numsI_snoc (K : List It) (x : It) : numsI (K ++ [x]) = numsI K ++ [x.1, x.2] := by simp [numsI]
theorem numsI_len (K : List It) : (numsI K).length = 2 * K.length := by
  induction K with
  | nil => rfl
  | cons x K ih => rw [numsI, List.flatMap_cons, List.length_append]; show 2 + (numsI K).length = _; rw [ih, List.length_cons]; omega
def keyK (K : List It) : ByteArray := strOfNums (keyNums (numsI K))
def smallI (x : It) : Prop := small x.1 = true ∧ small x.2 = true
theorem u8_inj {a b : Int} (ha : 0 ≤ a ∧ a < 256) (hb : 0 ≤ b ∧ b < 256) (h : UInt8.ofNat a.toNat = UInt8.ofNat b.toNat) : a = b := by
  have := congrArg UInt8.toNat h
  simp at this
  omega
theorem keyNums_inj : ∀ (xs ys : List Int), (∀ x ∈ xs, small x = true) → (∀ y ∈ ys, small y = true) →
    (keyNums xs).map (fun n => UInt8.ofNat n.toNat) = (keyNums ys).map (fun n => UInt8.ofNat n.toNat) → xs = ys
  | [], [], _, _, _ => rfl
  | [], y :: ys, _, _, h => by simp [keyNums] at h
  | x :: xs, [], _, _, h => by simp [keyNums] at h
  | x :: xs, y :: ys, hx, hy, h => by
    have e1 : keyNums (x :: xs) = x / 256 :: x % 256 :: keyNums xs := by simp [keyNums]
    have e2 : keyNums (y :: ys) = y / 256 :: y % 256 :: keyNums ys := by simp [keyNums]
    rw [e1, e2] at h
    simp only [List.map_cons, List.cons.injEq] at h
    have h1 := (small_iff _).1 (hx x (by simp))
    have h2 := (small_iff _).1 (hy y (by simp))
    have a1 := u8_inj (a := x / 256) (b := y / 256) (by omega) (by omega) h.1
    have a2 := u8_inj (a := x % 256) (b := y % 256) (by omega) (by omega) h.2.1
    have a3 := keyNums_inj xs ys (fun z hz => hx z (by simp [hz])) (fun z hz => hy z (by simp [hz])) h.2.2
    rw [a3]
    congr 1
    omega
theorem numsI_inj : ∀ (K L : List It), numsI K = numsI L → K = L
  | [], [], _ => rfl
  | [], y :: L, h => by simp [numsI] at h
  | x :: K, [], h => by simp [numsI] at h
  | x :: K, y :: L, h => by
    have e1 : numsI (x :: K) = x.1 :: x.2 :: numsI K := by simp [numsI]
    have e2 : numsI (y :: L) = y.1 :: y.2 :: numsI L := by simp [numsI]
    rw [e1, e2] at h
    simp only [List.cons.injEq] at h
    rw [numsI_inj K L h.2.2]
    exact congrArg (· :: L) (Prod.ext h.1 h.2.1)
theorem keyK_inj {K L : List It} (hK : ∀ x ∈ K, smallI x) (hL : ∀ x ∈ L, smallI x) (h : keyK K = keyK L) : K = L := by
  have hs : ∀ {M : List It}, (∀ x ∈ M, smallI x) → ∀ y ∈ numsI M, small y = true := fun hM y hy => by
    obtain ⟨x, hx, hy⟩ := List.mem_flatMap.1 hy
    simp only [List.mem_cons, List.not_mem_nil, or_false] at hy
    rcases hy with rfl | rfl
    · exact (hM x hx).1
    · exact (hM x hx).2
  refine numsI_inj K L (keyNums_inj _ _ (hs hK) (hs hL) ?_)
  unfold keyK strOfNums at h
  simpa using h

end Go.Proofs.Ytpnihegmhalcfaa
