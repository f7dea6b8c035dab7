/-
  Package scope: look, Use, Look: a name is used.
-/
import Derived.Test.YticdoccaabfjaaaSc10
namespace Go.Proofs.Yticdoccaabfjaaa
open Go.RowKit
set_option maxHeartbeats 400000

def setTh (pos : Nat) (u : Bool) (y : Th) : Th := if y.pos = pos then ⟨⟨y.nm.s, y.nm.t, u⟩, y.pos⟩ else y
def setMB (pos : Nat) (u : Bool) (b : MB) : MB := ⟨b.nv, b.mb, b.l.map (setTh pos u)⟩
theorem setTh_pos (pos : Nat) (u : Bool) (y : Th) : (setTh pos u y).pos = y.pos := by unfold setTh; split <;> rfl
theorem setTh_s (pos : Nat) (u : Bool) (y : Th) : (setTh pos u y).nm.s = y.nm.s := by unfold setTh; split <;> rfl
theorem findTh_set (pos : Nat) (u : Bool) (l : List Th) (s : ByteArray) : findTh (l.map (setTh pos u)) s = (findTh l s).map (setTh pos u) := by
  unfold findTh
  rw [List.find?_map]
  congr 1
  congr 1
  funext y
  simp [Function.comp, setTh_s]
theorem nameCells_set (pos : Nat) (u : Bool) (l : List Th) : nameCells (l.map (setTh pos u)) = nameCells l := by
  simp [nameCells, Function.comp_def, setTh_s]
theorem blkMap_set (pos : Nat) (u : Bool) (l : List Th) : blkMap (l.map (setTh pos u)) = blkMap l := by
  funext v
  cases v with
  | string s => simp [blkMap, findTh_set, Function.comp_def, setTh_pos]
  | _ => rfl
theorem findB_mem {L : List MB} {s : ByteArray} {x : Th} (h : findB L s = some x) : ∃ b ∈ L, x ∈ b.l ∧ findTh b.l s = some x := by
  obtain ⟨b, hb, hf⟩ := List.exists_of_findSome?_eq_some h
  exact ⟨b, by simpa using hb, List.mem_of_find?_eq_some hf, hf⟩
theorem nodup_map_inj {α β : Type} {f : α → β} : ∀ {l : List α}, (l.map f).Nodup → ∀ {x y : α}, x ∈ l → y ∈ l → f x = f y → x = y
  | [], _, _, _, hx, _, _ => by simp at hx
  | a :: l, h, x, y, hx, hy, e => by
    rw [List.map_cons, List.nodup_cons] at h
    rcases List.mem_cons.1 hx with h1 | h1
    · rcases List.mem_cons.1 hy with h2 | h2
      · exact h1.trans h2.symm
      · exact absurd (List.mem_map.2 ⟨y, h2, by rw [← e, h1]⟩) h.1
    · rcases List.mem_cons.1 hy with h2 | h2
      · exact absurd (List.mem_map.2 ⟨x, h1, by rw [e, h2]⟩) h.1
      · exact nodup_map_inj h.2 h1 h2 e
/-- What a thing's turn leaves of a scope. -/
theorem use_fin {w w' : World} {F : Nat → Prop} {p : Nat} {L : List MB} (h : IsScope w F p L) {x : Th} {b : MB} (hb : b ∈ L) (hx : x ∈ b.l) (u : Bool) (hfr : Fr (only x.pos) w w')
    (hcell : ∀ cs, w.heap[x.pos]? = some (.cells cs 66 (0, 0)) → w'.heap[x.pos]? = some (.cells (cs.setIfInBounds 3 (.bool u)) 66 (0, 0))) : IsScope w' F p (L.map (setMB x.pos u)) := by
  obtain ⟨v0, S0, q0, q1, q2, q3⟩ := (h.blk b hb).things x hx
  obtain ⟨bv, h1, h2, h3⟩ := h.hp
  have hcells : (L.map (setMB x.pos u)).flatMap blkCells = L.flatMap blkCells := by
    rw [List.flatMap_map]
    rfl
  have hnoT : ∀ k, only x.pos k → ¬ TyB w k := fun k e => by
    have e' : k = x.pos := e
    subst e'
    rintro ⟨cs, hk⟩
    exact obj_ne hk q2 (by decide) rfl
  have hposs : ∀ c ∈ L, ∀ y ∈ c.l, y.pos = x.pos → y = x := by
    intro c hc y hy e
    have hn : ((L.flatMap fun b => b.l).map Th.pos).Nodup := by rw [List.map_flatMap]; exact h.poss
    exact nodup_map_inj hn (List.mem_flatMap.2 ⟨c, hc, hy⟩) (List.mem_flatMap.2 ⟨b, hb, hx⟩) e
  refine ⟨⟨bv, hfr.obj h1 (fun e => obj_ne h1 q2 (by decide) e), by rw [hcells, List.length_map]; exact own_fr h2 hfr fun k hk e => by have e' : k = x.pos := e; subst e'; exact own_ne h2 q2 (by decide) hk, h3⟩, h.hF, fun c' hc' => ?_, ?_, ?_⟩
  · obtain ⟨c, hc, rfl⟩ := List.mem_map.1 hc'
    have hcb := h.blk c hc
    obtain ⟨es, mc, hmo⟩ := hcb.map.obj
    refine ⟨?_, hcb.own, ?_, hcb.hF, fun y' hy' => ?_, ?_⟩
    · show w'.ownsRow 0 _ 1 c.nv (c.l.map (setTh x.pos u)).length (nameCells (c.l.map (setTh x.pos u)))
      rw [nameCells_set, List.length_map]
      exact own_fr hcb.names hfr fun k hk e => by have e' : k = x.pos := e; subst e'; exact own_ne hcb.names q2 (by decide) hk
    · show MapIs w' .string c.mb (blkMap (c.l.map (setTh x.pos u)))
      rw [blkMap_set]
      exact hcb.map.fr hfr fun e => obj_ne_map q2 hmo (by have e' : c.mb = x.pos := e; exact e'.symm)
    · obtain ⟨y, hy, rfl⟩ := List.mem_map.1 hy'
      by_cases e : y.pos = x.pos
      · obtain rfl := hposs c hc y hy e
        have hs : setTh y.pos u y = ⟨⟨y.nm.s, y.nm.t, u⟩, y.pos⟩ := by simp [setTh]
        rw [hs]
        exact ⟨v0, S0, q0.frT hfr hnoT, q1, by have := hcell _ q2; simpa using this, q3⟩
      · have hs : setTh x.pos u y = y := by simp [setTh, e]
        rw [hs]
        obtain ⟨v, S, r0, r1, r2, r3⟩ := hcb.things y hy
        exact ⟨v, S, r0.frT hfr hnoT, r1, hfr.obj r2 e, r3⟩
    · show ((c.l.map (setTh x.pos u)).map fun y => y.nm.s).Nodup
      simpa [Function.comp_def, setTh_s] using hcb.nodup
  · rw [List.pairwise_map]
    exact h.off.imp fun hab => hab
  · have : ((L.map (setMB x.pos u)).flatMap fun b => b.l.map Th.pos) = L.flatMap fun b => b.l.map Th.pos := by
      rw [List.flatMap_map]
      congr 1
      funext c
      simp [setMB, Function.comp_def, setTh_pos]
    rw [this]
    exact h.poss

theorem look_nil (w : World) (s : Value) (u : Bool) : Calls Try.prog 23 #[.pointer none, s, .bool u] w fun e w' => e = .returned (.tuple #[.agg #[.int .u8 0, .string ⟨#[]⟩, .slice none 0 0], .bool false]) ∧ Below w.heap.size w w' := by
  go_enter Try.func23, Try.ntmps23
  go_wp2_with (go_at_call 20; refine (known_nil _).mono ?_; rintro e w' ⟨rfl, rfl⟩)
  exact bodyPost_ret (v := .tuple #[.agg #[.int .u8 0, .string ⟨#[]⟩, .slice none 0 0], .bool false]) (by simp [results, Try.results23, go_sem]) rfl ⟨rfl, by repeat (first | with_reducible exact (Below.refl _ _).alloc (Nat.le_refl _) _ | refine Below.setCell ?_ (by simp) _)⟩
theorem look_no (w : World) (p : Nat) (hc : w.cell? ⟨p, 1, none⟩ = some (.bool false)) (s : Value) (u : Bool) : Calls Try.prog 23 #[.pointer (some ⟨p, 0, none⟩), s, .bool u] w fun e w' => e = .returned (.tuple #[.agg #[.int .u8 0, .string ⟨#[]⟩, .slice none 0 0], .bool false]) ∧ Below w.heap.size w w' := by
  have hc1 := (Fr.alloc (ch := nothing) w (.cells #[.int .u8 0, .string ⟨#[]⟩, .slice none 0 0] 37 (0, 0))).cell hc fun e => e
  go_enter Try.func23, Try.ntmps23
  go_wp2_with (go_at_call 20; refine (known_yes _ _ _ hc1).mono ?_; rintro e w' ⟨rfl, rfl⟩)
  exact bodyPost_ret (v := .tuple #[.agg #[.int .u8 0, .string ⟨#[]⟩, .slice none 0 0], .bool false]) (by simp [results, Try.results23, go_sem]) rfl ⟨rfl, by repeat (first | with_reducible exact (Below.refl _ _).alloc (Nat.le_refl _) _ | refine Below.setCell ?_ (by simp) _)⟩
end Go.Proofs.Yticdoccaabfjaaa
