/-
  Package scope: look, Use, Look, of a scope that is one.
-/
import Derived.Test.YticdoccaabfjaaaSc11
namespace Go.Proofs.Yticdoccaabfjaaa
open Go.RowKit
set_option maxHeartbeats 400000

theorem OwnTy.frL {w w' : World} {S ch : Nat → Prop} {t : Ty} {v : Value} (h : OwnTy w S t v) (k : Fr ch w w') (hc : ∀ g, S g → g < w.heap.size → ¬ ch g) : OwnTy w' S t v := by
  induction h with
  | mk vs Ss hk hl hown hb hsub hdis hel ih =>
    exact .mk vs Ss hk hl (own_fr hown k fun g hg => hc g (hb g hg).1 (hown.lt g hg).2) hb hsub hdis fun i hi => ih i hi fun g hg => hc g (hsub i hi g hg)
/-- What a scope keeps, where what turns is none of its blocks that are there. -/
theorem IsScope.frL {w w' : World} {F ch : Nat → Prop} {p : Nat} {L : List MB} (h : IsScope w F p L) (k : Fr ch w w') (hc : ∀ g, F g → g < w.heap.size → ¬ ch g) : IsScope w' F p L := by
  obtain ⟨bv, h1, h2, h3⟩ := h.hp
  refine ⟨⟨bv, k.obj h1 (hc _ h.hF (obj_lt h1)), own_fr h2 k fun g hg => hc g (h3 g hg) (h2.lt g hg).2, h3⟩, h.hF, fun b hb => ?_, h.off, h.poss⟩
  have hb' := h.blk b hb
  obtain ⟨es, mc, hmo⟩ := hb'.map.obj
  refine ⟨own_fr hb'.names k fun g hg => hc g (hb'.own g hg) (hb'.names.lt g hg).2, hb'.own, hb'.map.fr k (hc _ hb'.hF (obj_lt hmo)), hb'.hF, fun x hx => ?_, hb'.nodup⟩
  obtain ⟨v, S, q0, q1, q2, q3⟩ := hb'.things x hx
  exact ⟨v, S, q0.frL k fun g hg => hc g (q1 g hg), q1, k.obj q2 (hc _ q3 (obj_lt q2)), q3⟩

theorem OwnTy.restrict {w : World} {S : Nat → Prop} {t : Ty} {v : Value} (h : OwnTy w S t v) : OwnTy w (fun g => S g ∧ g < w.heap.size) t v := by
  induction h with
  | mk vs Ss hk hl hown hb hsub hdis hel ih =>
    exact .mk vs (fun i g => Ss i g ∧ g < w.heap.size) hk hl hown (fun g hg => ⟨⟨(hb g hg).1, (hown.lt g hg).2⟩, fun i hi e => (hb g hg).2 i hi e.1⟩) (fun i hi g hg => ⟨hsub i hi g hg.1, hg.2⟩) (fun i j hij hj g h1 h2 => hdis i j hij hj g h1.1 h2.1) ih
theorem IsScope.restrict {w : World} {F : Nat → Prop} {p : Nat} {L : List MB} (h : IsScope w F p L) : IsScope w (fun g => F g ∧ g < w.heap.size) p L := by
  obtain ⟨bv, h1, h2, h3⟩ := h.hp
  refine ⟨⟨bv, h1, h2, fun g hg => ⟨h3 g hg, (h2.lt g hg).2⟩⟩, ⟨h.hF, obj_lt h1⟩, fun b hb => ?_, h.off, h.poss⟩
  have hb' := h.blk b hb
  obtain ⟨es, mc, hmo⟩ := hb'.map.obj
  refine ⟨hb'.names, fun g hg => ⟨hb'.own g hg, (hb'.names.lt g hg).2⟩, hb'.map, ⟨hb'.hF, obj_lt hmo⟩, fun x hx => ?_, hb'.nodup⟩
  obtain ⟨v, S, q0, q1, q2, q3⟩ := hb'.things x hx
  exact ⟨v, _, q0.restrict, fun g hg => ⟨q1 g hg.1, hg.2⟩, q2, ⟨q3, obj_lt q2⟩⟩
theorem IsScope.wide {w : World} {F F' : Nat → Prop} {p : Nat} {L : List MB} (h : IsScope w F p L) (hF : ∀ g, F g → F' g) : IsScope w F' p L := h.fr (Fr.refl nothing w) fun g hg => ⟨fun e => e, hF g hg⟩

def noType : Value := .agg #[.int .u8 0, .string ⟨#[]⟩, .slice none 0 0]
set_option maxRecDepth 100000 in
set_option maxHeartbeats 2000000 in
theorem look_none {w : World} {F : Nat → Prop} {p : Nat} {L : List MB} (h : IsScope w F p L) (s : ByteArray) (hf : findB L s = none) (u : Bool) : Calls Try.prog 23 #[.pointer (some ⟨p, 0, none⟩), .string s, .bool u] w fun e w' => e = .returned (.tuple #[noType, .bool false]) ∧ Below w.heap.size w w' := by
  obtain ⟨w1, hw1⟩ : ∃ w1, w1 = w.alloc (.cells #[.int .u8 0, .string ⟨#[]⟩, .slice none 0 0] 37 (0, 0)) := ⟨_, rfl⟩
  have hfr : Fr nothing w w1 := by rw [hw1]; exact Fr.alloc _ _
  have hbx : w1.heap[w.heap.size]? = some (.cells #[.int .u8 0, .string ⟨#[]⟩, .slice none 0 0] 37 (0, 0)) := by rw [hw1]; exact alloc_obj w _
  obtain ⟨a, cap, _, hc1, _⟩ := (h.new hfr).cells
  have HF := Lib.hid (find_any (h.new hfr) s)
  have HK := Lib.hid (known_yes w1 p true hc1)
  have HW := Lib.hid hw1
  have HBX := Lib.hid hbx
  have HB := Lib.hid hfr.below_new
  have hp : findPtr L s = .pointer none := by unfold findPtr; rw [hf]; rfl
  rw [hp] at HF
  clear h hw1 hfr hbx hc1 hf hp
  unfold noType
  go_enter Try.func23, Try.ntmps23
  go_upto_region 1 with fail
  rw [← HW.out]
  go_wp2_with (first | (go_at_call 20; refine HK.out.mono ?_; rintro e w' ⟨rfl, rfl⟩) | (go_at_call 29; refine HF.out.mono ?_; rintro e w2 ⟨rfl, hb2⟩; have o2 := (Fr.new hb2).obj HBX.out fun e => e; have d0 := obj_cell o2 0 rfl; have d1 := obj_cell o2 1 rfl; have d2 := obj_cell o2 2 rfl; have f0 := obj_frozen o2 0; have f1 := obj_frozen o2 1; have f2 := obj_frozen o2 2))
  refine at_world (Q := bodyPost _ _ _ _ _) (F := fun W => W.cell? ⟨w.heap.size, 0, none⟩ = some (.int .u8 0) ∧ W.cell? ⟨w.heap.size, 1, none⟩ = some (.string ⟨#[]⟩) ∧ W.cell? ⟨w.heap.size, 2, none⟩ = some (.slice none 0 0) ∧ Fr (only w.heap.size) w2 W) ?_ ?_
  · refine ⟨?_, ?_, ?_, ?_⟩
    · simp [go_sem, d0]
    · simp [go_sem, d1]
    · simp [go_sem, d2]
    · repeat (first | with_reducible exact Fr.refl _ _ | refine Fr.trans ?_ (Fr.setCell' _ _ rfl))
  · rintro W ⟨r0, r1, r2, hfW⟩
    exact bodyPost_ret (v := .tuple #[.agg #[.int .u8 0, .string ⟨#[]⟩, .slice none 0 0], .bool false]) (by simp [results, Try.results23, go_sem, r0, r1, r2]) rfl ⟨rfl, (HB.out.trans (hb2.mono HB.out.size)).trans (hfW.below (Nat.le_trans HB.out.size hb2.size) fun k e => by have e' : k = w.heap.size := e; omega)⟩

set_option maxRecDepth 100000 in
set_option maxHeartbeats 4000000 in
theorem look_some0 {w : World} {F : Nat → Prop} {p : Nat} {L : List MB} (h : IsScope w F p L) (hFb : ∀ g, F g → g < w.heap.size) (s : ByteArray) {x : Th} (hf : findB L s = some x) (u : Bool) : Calls Try.prog 23 #[.pointer (some ⟨p, 0, none⟩), .string s, .bool u] w fun e w' =>
    (∃ v, e = .returned (.tuple #[v, .bool true]) ∧ OwnTy w' (Rng w.heap.size w'.heap.size) x.nm.t v) ∧ IsScope w' F p (L.map (setMB x.pos (x.nm.used || u))) ∧ Fr F w w' := by
  obtain ⟨b, hb, hx, hfb⟩ := findB_mem hf
  obtain ⟨w1, hw1⟩ : ∃ w1, w1 = w.alloc (.cells #[.int .u8 0, .string ⟨#[]⟩, .slice none 0 0] 37 (0, 0)) := ⟨_, rfl⟩
  have hfr : Fr nothing w w1 := by rw [hw1]; exact Fr.alloc _ _
  have hbx : w1.heap[w.heap.size]? = some (.cells #[.int .u8 0, .string ⟨#[]⟩, .slice none 0 0] 37 (0, 0)) := by rw [hw1]; exact alloc_obj w _
  have hs1 : w1.heap.size = w.heap.size + 1 := by rw [hw1]; simp
  obtain ⟨a, cap, _, hc1, _⟩ := (h.new hfr).cells
  have HF := Lib.hid (find_any (h.new hfr) s)
  have HK := Lib.hid (known_yes w1 p true hc1)
  have HW := Lib.hid hw1
  have HBX := Lib.hid hbx
  have HB := Lib.hid hfr.below_new
  have HH := Lib.hid (h.new hfr)
  have hp : findPtr L s = .pointer (some ⟨x.pos, 0, none⟩) := by unfold findPtr; rw [hf]; rfl
  rw [hp] at HF
  have hxF : F x.pos := by
    obtain ⟨_, _, _, _, _, hh⟩ := (h.blk b hb).things x hx
    exact hh
  have hxw : x.pos < w.heap.size := by
    obtain ⟨_, _, _, _, ho, _⟩ := (h.blk b hb).things x hx
    exact obj_lt ho
  clear h hw1 hfr hbx hc1 hf hp
  go_enter Try.func23, Try.ntmps23
  go_upto_region 1 with fail
  rw [← HW.out]
  go_upto_region 6 with (first | (go_at_call 20; refine HK.out.mono ?_; rintro e w' ⟨rfl, rfl⟩) | (go_at_call 29; refine HF.out.mono ?_; rintro e w2 ⟨rfl, hb2⟩))
  have h2 := HH.out.new (Fr.new hb2)
  obtain ⟨v, S, q0, q1, q2, q3⟩ := (h2.blk b hb).things x hx
  obtain ⟨k, n, ta, tl, tc, rfl, -⟩ := q0.parts
  have c3 := obj_cell q2 3 rfl
  have f3 := obj_frozen q2 3
  have H2 := Lib.hid h2
  have HQ := Lib.hid q2
  have HB2 := Lib.hid hb2
  have HT := Lib.hid q0
  clear h2 q0 q1 q2 hb2
  have hcut : ∀ W, W = w2.setCell ⟨x.pos, 3, none⟩ (.bool (x.nm.used || u)) → IsScope W F p (L.map (setMB x.pos (x.nm.used || u))) ∧ Fr (only x.pos) w2 W := by
    rintro W rfl
    have hfr2 : Fr (only x.pos) w2 (w2.setCell ⟨x.pos, 3, none⟩ (.bool (x.nm.used || u))) := Fr.setCell' _ _ rfl
    exact ⟨use_fin H2.out hb hx _ hfr2 fun cs hcs => setCell_obj hcs _, hfr2⟩
  have HC := Lib.hid hcut
  clear hcut
  cases hu : x.nm.used <;> cases u
  all_goals
    rw [hu] at c3 HC
    (try simp only [Bool.or_true] at HC ⊢)
    (try simp only [Bool.or_false] at HC ⊢)
    go_upto_region 7 with fail
    refine wp_atW (F := fun W => IsScope W F p (L.map (setMB x.pos _)) ∧ Fr (only x.pos) w2 W ∧ ∃ u', W.heap[x.pos]? = some (.cells #[.int .u8 k, .string n, .slice ta tl tc, .bool u'] 66 (0, 0))) ⟨(HC.out _ rfl).1, (HC.out _ rfl).2, _, by simpa [part] using setCell_obj HQ.out (i := 3) _⟩ ?_
    rintro W ⟨hsc, hfW, u', hq⟩
    have e0 := obj_cell hq 0 rfl
    have e1 := obj_cell hq 1 rfl
    have e2 := obj_cell hq 2 rfl
    have hbW : W.heap[w.heap.size]? = some (.cells #[.int .u8 0, .string ⟨#[]⟩, .slice none 0 0] 37 (0, 0)) := hfW.obj ((Fr.new HB2.out).obj HBX.out fun e => e) fun e => by have e' : w.heap.size = x.pos := e; omega
    have hsz : w.heap.size < W.heap.size := obj_lt hbW
    have hty : IsTy W S x.nm.t (.agg #[.int .u8 k, .string n, .slice ta tl tc]) := (HT.out.frT hfW fun g e => by
      have e' : g = x.pos := e
      subst e'
      rintro ⟨cs, hk⟩
      exact obj_ne hk HQ.out (by decide) rfl).is
    have HOWN := Lib.hid (own_any hty W (Fr.refl _ _))
    have HSC := Lib.hid hsc
    have HFW := Lib.hid hfW
    have HBW := Lib.hid hbW
    clear hq hsc hfW hbW hty c3 f3
    go_wp2_with (go_at_call 25; refine HOWN.out.mono ?_; rintro e w4 ⟨v4, rfl, hty4, hb4⟩; obtain ⟨k4, n4, a4, l4, c4, rfl, -⟩ := hty4.parts; have o2 := (Fr.new hb4).obj HBW.out fun e => e; have d0 := obj_cell o2 0 rfl; have d1 := obj_cell o2 1 rfl; have d2 := obj_cell o2 2 rfl; have f0 := obj_frozen o2 0; have f1 := obj_frozen o2 1; have f2 := obj_frozen o2 2)
    refine at_world (Q := bodyPost _ _ _ _ _) (F := fun W => W.cell? ⟨w.heap.size, 0, none⟩ = some (.int .u8 k4) ∧ W.cell? ⟨w.heap.size, 1, none⟩ = some (.string n4) ∧ W.cell? ⟨w.heap.size, 2, none⟩ = some (.slice a4 l4 c4) ∧ Fr (only w.heap.size) w4 W) ?_ ?_
    · refine ⟨?_, ?_, ?_, ?_⟩
      · simp [go_sem, d0]
      · simp [go_sem, d1]
      · simp [go_sem, d2]
      · repeat (first | with_reducible exact Fr.refl _ _ | refine Fr.trans ?_ (Fr.setCell' _ _ rfl))
    · rintro Y ⟨r0, r1, r2, hfY⟩
      have hszY := hfY.size
      refine bodyPost_ret (v := .tuple #[.agg #[.int .u8 k4, .string n4, .slice a4 l4 c4], .bool true]) (by simp [results, Try.results23, go_sem, r0, r1, r2]) rfl ⟨⟨_, rfl, hty4.fr hfY fun g hg => ⟨fun e => ?_, ⟨?_, ?_⟩⟩⟩, ?_, ?_⟩
      · have e' : g = w.heap.size := e
        have := hg.1
        omega
      · have := hg.1
        omega
      · have := hg.2
        omega
      · rw [hu]
        exact (HSC.out.new (Fr.new hb4)).fr hfY fun g hg => ⟨fun e => by have e' : g = w.heap.size := e; have := hFb g hg; omega, hg⟩
      · have hB4 : Fr F w w4 := (((Fr.new HB.out).wide.trans (Fr.new HB2.out).wide).trans (HFW.out.mono fun g _ e => by have e' : g = x.pos := e; subst e'; exact hxF)).trans (Fr.new hb4).wide
        exact ⟨hfY.os.trans hB4.os, hfY.tape.trans hB4.tape, hfY.output.trans hB4.output, Nat.le_trans hB4.size hfY.size, fun g hg hn => (hfY.block g (Nat.lt_of_lt_of_le hg hB4.size) fun e => by have e' : g = w.heap.size := e; omega).trans (hB4.block g hg hn)⟩
theorem look_some {w : World} {F : Nat → Prop} {p : Nat} {L : List MB} (h : IsScope w F p L) (s : ByteArray) {x : Th} (hf : findB L s = some x) (u : Bool) : Calls Try.prog 23 #[.pointer (some ⟨p, 0, none⟩), .string s, .bool u] w fun e w' =>
    (∃ v, e = .returned (.tuple #[v, .bool true]) ∧ OwnTy w' (Rng w.heap.size w'.heap.size) x.nm.t v) ∧ IsScope w' F p (L.map (setMB x.pos (x.nm.used || u))) ∧ Fr F w w' := by
  refine (look_some0 h.restrict (fun g hg => hg.2) s hf u).mono ?_
  rintro e w' ⟨h1, h2, h3⟩
  exact ⟨h1, h2.wide fun g hg => hg.1, h3.mono fun g _ hg => hg.1⟩
theorem setMB_same {L : List MB} {x : Th} (h : ∀ b ∈ L, ∀ y ∈ b.l, y.pos = x.pos → y = x) : L.map (setMB x.pos (x.nm.used || false)) = L := by
  have : ∀ b ∈ L, setMB x.pos (x.nm.used || false) b = b := by
    intro b hb
    have hl : b.l.map (setTh x.pos (x.nm.used || false)) = b.l := by
      have : ∀ y ∈ b.l, setTh x.pos (x.nm.used || false) y = y := by
        intro y hy
        unfold setTh
        split
        · rename_i e
          obtain rfl := h b hb y hy e
          simp
        · rfl
      exact (List.map_congr_left this).trans (List.map_id' _)
    cases b
    simp only [setMB] at hl ⊢
    rw [hl]
  exact (List.map_congr_left this).trans (List.map_id' _)
theorem IsScope.inj {w : World} {F : Nat → Prop} {p : Nat} {L : List MB} (h : IsScope w F p L) {x : Th} {b : MB} (hb : b ∈ L) (hx : x ∈ b.l) : ∀ c ∈ L, ∀ y ∈ c.l, y.pos = x.pos → y = x := by
  intro c hc y hy e
  have hn : ((L.flatMap fun b => b.l).map Th.pos).Nodup := by rw [List.map_flatMap]; exact h.poss
  exact nodup_map_inj hn (List.mem_flatMap.2 ⟨c, hc, hy⟩) (List.mem_flatMap.2 ⟨b, hb, hx⟩) e
end Go.Proofs.Yticdoccaabfjaaa
