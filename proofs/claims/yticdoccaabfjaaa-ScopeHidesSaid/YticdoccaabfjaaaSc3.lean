/-
  Package scope: a scope in memory; known, Deep, New.
-/
import Derived.Test.YticdoccaabfjaaaSc2
namespace Go.Proofs.Yticdoccaabfjaaa
open Go.RowKit
set_option maxHeartbeats 400000

/-- A name, what it stands for, whether it was used. -/
structure Nm where
  s : ByteArray
  t : Ty
  used : Bool
/-- A name with the block of its thing. -/
structure Th where
  nm : Nm
  pos : Nat
/-- A block of names: its row of names, its map, its names. -/
structure MB where
  nv : Value
  mb : Nat
  l : List Th
def ThingAt (w : World) (F : Nat → Prop) (x : Th) : Prop :=
  ∃ v S, OwnTy w S x.nm.t v ∧ (∀ g, S g → F g) ∧ w.heap[x.pos]? = some (.cells #[part v 0, part v 1, part v 2, .bool x.nm.used] 66 (0, 0)) ∧ F x.pos
def findTh (l : List Th) (s : ByteArray) : Option Th := l.find? fun x => decide (x.nm.s = s)
def blkMap (l : List Th) : Value → Option Value
  | .string s => (findTh l s).map fun x => .pointer (some ⟨x.pos, 0, none⟩)
  | _ => none
def nameCells (l : List Th) : List Value := l.map fun x => .string x.nm.s
def blkCells (b : MB) : List Value := [b.nv, .map (some b.mb)]
structure IsBlk (w : World) (F : Nat → Prop) (b : MB) : Prop where
  names : w.ownsRow 0 9 1 b.nv b.l.length (nameCells b.l)
  own : ∀ g, b.nv.ownBlock = some g → F g
  map : MapIs w .string b.mb (blkMap b.l)
  hF : F b.mb
  things : ∀ x ∈ b.l, ThingAt w F x
  nodup : (b.l.map fun x => x.nm.s).Nodup
def MB.off (a b : MB) : Prop := a.mb ≠ b.mb ∧ ∀ g, a.nv.ownBlock = some g → b.nv.ownBlock ≠ some g
structure IsScope (w : World) (F : Nat → Prop) (p : Nat) (L : List MB) : Prop where
  hp : ∃ bv, w.heap[p]? = some (.cells #[bv, .bool true] 28 (0, 0)) ∧ w.ownsRow 0 58 2 bv L.length (L.flatMap blkCells) ∧ ∀ g, bv.ownBlock = some g → F g
  hF : F p
  blk : ∀ b ∈ L, IsBlk w F b
  off : L.Pairwise MB.off
  poss : (L.flatMap fun b => b.l.map Th.pos).Nodup

theorem ThingAt.fr {w w' : World} {F F' ch : Nat → Prop} {x : Th} (h : ThingAt w F x) (k : Fr ch w w') (hF : ∀ g, F g → ¬ ch g ∧ F' g) : ThingAt w' F' x := by
  obtain ⟨v, S, h0, h1, h2, h3⟩ := h
  exact ⟨v, S, h0.fr k fun g hg => ⟨(hF g (h1 g hg)).1, hg⟩, fun g hg => (hF g (h1 g hg)).2, k.obj h2 (hF _ h3).1, (hF _ h3).2⟩
/-- Is a block one of lists of types? -/
def TyB (w : World) (g : Nat) : Prop := ∃ cs, w.heap[g]? = some (.cells cs 37 (0, 0))
theorem OwnTy.frT {w w' : World} {S ch : Nat → Prop} {t : Ty} {v : Value} (h : OwnTy w S t v) (k : Fr ch w w') (hc : ∀ g, ch g → ¬ TyB w g) : OwnTy w' S t v := by
  induction h with
  | mk vs Ss hk hl hown hb hsub hdis hel ih =>
    refine .mk vs Ss hk hl (own_fr hown k fun g hg hcg => hc g hcg ?_) hb hsub hdis ih
    rcases hown.2 with ⟨e, _⟩ | ⟨g', c, cur, e, _, hg', _⟩
    · rw [e] at hg; cases hg
    · rw [e] at hg
      simp only [Value.ownBlock, Option.some.injEq] at hg
      subst hg
      exact ⟨_, hg'⟩
/-- What a block of names keeps where its own things stand. -/
theorem IsBlk.frG {w w' : World} {F F' ch : Nat → Prop} {b : MB} (h : IsBlk w F b) (k : Fr ch w w') (h1 : ∀ g, ch g → b.nv.ownBlock ≠ some g) (h2 : ¬ ch b.mb) (h3 : ∀ x ∈ b.l, ¬ ch x.pos) (h4 : ∀ g, ch g → ¬ TyB w g) (hF : ∀ g, F g → F' g) : IsBlk w' F' b := by
  refine ⟨own_fr h.names k fun g hg hc => h1 g hc hg, fun g hg => hF g (h.own g hg), h.map.fr k h2, hF _ h.hF, fun x hx => ?_, h.nodup⟩
  obtain ⟨v, S, q0, q1, q2, q3⟩ := h.things x hx
  exact ⟨v, S, q0.frT k h4, fun g hg => hF g (q1 g hg), k.obj q2 (h3 x hx), hF _ q3⟩
theorem MapIs.obj {w : World} {d : TypeDesc} {b : Nat} {f : Value → Option Value} (h : MapIs w d b f) : ∃ es c, w.heap[b]? = some (.map es c) := by
  obtain ⟨es, c, h, _⟩ := h
  exact ⟨es, c, h⟩
/-- What turns is blocks of other kinds. -/
theorem IsBlk.frT {w w' : World} {F F' ch : Nat → Prop} {b : MB} (h : IsBlk w F b) (k : Fr ch w w') (hc : ∀ g, ch g → ∃ cs t, w.heap[g]? = some (.cells cs t (0, 0)) ∧ t ≠ 9 ∧ t ≠ 66 ∧ t ≠ 37) (hF : ∀ g, F g → F' g) : IsBlk w' F' b := by
  refine h.frG k (fun g hg => ?_) (fun hg => ?_) (fun x hx hg => ?_) (fun g hg => ?_) hF
  · obtain ⟨cs, t, h1, h2, h3⟩ := hc g hg
    exact own_ne h.names h1 (fun e => h2 e.symm)
  · obtain ⟨cs, t, h1, _⟩ := hc _ hg
    obtain ⟨es, c, h2⟩ := h.map.obj
    rw [h1] at h2
    cases h2
  · obtain ⟨cs, t, h1, _, h2, _⟩ := hc _ hg
    obtain ⟨v, S, _, _, h3, _⟩ := h.things x hx
    rw [h1] at h3
    simp only [Option.some.injEq, Obj.cells.injEq] at h3
    exact h2 h3.2.1
  · obtain ⟨cs, t, h1, _, _, h2⟩ := hc _ hg
    rintro ⟨cs', h3⟩
    rw [h1] at h3
    simp only [Option.some.injEq, Obj.cells.injEq] at h3
    exact h2 h3.2.1
theorem IsBlk.fr {w w' : World} {F F' ch : Nat → Prop} {b : MB} (h : IsBlk w F b) (k : Fr ch w w') (hF : ∀ g, F g → ¬ ch g ∧ F' g) : IsBlk w' F' b :=
  ⟨own_fr h.names k fun g hg => (hF g (h.own g hg)).1, fun g hg => (hF g (h.own g hg)).2, h.map.fr k (hF _ h.hF).1, (hF _ h.hF).2, fun x hx => (h.things x hx).fr k hF, h.nodup⟩
theorem IsScope.fr {w w' : World} {F F' ch : Nat → Prop} {p : Nat} {L : List MB} (h : IsScope w F p L) (k : Fr ch w w') (hF : ∀ g, F g → ¬ ch g ∧ F' g) : IsScope w' F' p L := by
  obtain ⟨bv, h1, h2, h3⟩ := h.hp
  exact ⟨⟨bv, k.obj h1 (hF _ h.hF).1, own_fr h2 k fun g hg => (hF g (h3 g hg)).1, fun g hg => (hF g (h3 g hg)).2⟩, (hF _ h.hF).2, fun b hb => (h.blk b hb).fr k hF, h.off, h.poss⟩
theorem IsScope.new {w w' : World} {F : Nat → Prop} {p : Nat} {L : List MB} (h : IsScope w F p L) (k : Fr nothing w w') : IsScope w' F p L := h.fr k fun _ s => ⟨fun e => e, s⟩
theorem IsScope.lt {w : World} {F : Nat → Prop} {p : Nat} {L : List MB} (h : IsScope w F p L) : p < w.heap.size := by
  obtain ⟨bv, h1, _⟩ := h.hp
  exact obj_lt h1
theorem Try.infoBlk : (Try.prog.info? 58).map (fun i => (i.zero, i.size, i.bytes)) = some (some (.agg #[.slice none 0 0, .map none]), 2, 32) := by kernel_rfl

theorem known_nil (w : World) : Calls Try.prog 20 #[.pointer none] w fun e w' => e = .returned (.bool false) ∧ w = w' := by
  go_enter Try.func20, Try.ntmps20
  go_wp2
  go_ret
  exact ⟨rfl, rfl⟩
theorem known_yes (w : World) (p : Nat) (t : Bool) (hc : w.cell? ⟨p, 1, none⟩ = some (.bool t)) :
    Calls Try.prog 20 #[.pointer (some ⟨p, 0, none⟩)] w fun e w' => e = .returned (.bool t) ∧ w = w' := by
  go_enter Try.func20, Try.ntmps20
  go_wp2
  go_ret
  exact ⟨rfl, rfl⟩
theorem rowDeep_any (w : World) (p : Nat) (a : Option Addr) (n cap : Nat) (hc : w.cell? ⟨p, 0, none⟩ = some (.slice a n cap)) :
    Calls Try.prog 21 #[.pointer (some ⟨p, 0, none⟩)] w fun e w' => e = .returned (.int .i64 n) ∧ w = w' := by
  go_enter Try.func21, Try.ntmps21
  go_wp2
  go_ret
  exact ⟨rfl, rfl⟩
theorem deep_nil (w : World) : Calls Try.prog 10 #[.pointer none] w fun e w' => e = .returned (.int .i64 0) ∧ w = w' := by
  go_enter Try.func10, Try.ntmps10
  go_wp2_with (go_at_call 20; refine (known_nil _).mono ?_; rintro e w' ⟨rfl, rfl⟩)
  go_ret
  exact ⟨rfl, rfl⟩
theorem deep_no (w : World) (p : Nat) (hc : w.cell? ⟨p, 1, none⟩ = some (.bool false)) : Calls Try.prog 10 #[.pointer (some ⟨p, 0, none⟩)] w fun e w' => e = .returned (.int .i64 0) ∧ w = w' := by
  go_enter Try.func10, Try.ntmps10
  go_wp2_with (go_at_call 20; refine (known_yes _ _ _ hc).mono ?_; rintro e w' ⟨rfl, rfl⟩)
  go_ret
  exact ⟨rfl, rfl⟩
theorem deep_cells (w : World) (p : Nat) (a : Option Addr) (n cap : Nat) (hc0 : w.cell? ⟨p, 0, none⟩ = some (.slice a n cap)) (hc : w.cell? ⟨p, 1, none⟩ = some (.bool true)) :
    Calls Try.prog 10 #[.pointer (some ⟨p, 0, none⟩)] w fun e w' => e = .returned (.int .i64 n) ∧ w = w' := by
  go_enter Try.func10, Try.ntmps10
  go_wp2_with (first | (go_at_call 20; refine (known_yes _ _ _ hc).mono ?_; rintro e w' ⟨rfl, rfl⟩) | (go_at_call 21; refine (rowDeep_any _ _ _ _ _ hc0).mono ?_; rintro e w' ⟨rfl, rfl⟩))
  go_ret
  exact ⟨rfl, rfl⟩
theorem IsScope.cells {w : World} {F : Nat → Prop} {p : Nat} {L : List MB} (h : IsScope w F p L) : ∃ a cap, w.cell? ⟨p, 0, none⟩ = some (.slice a L.length cap) ∧ w.cell? ⟨p, 1, none⟩ = some (.bool true) ∧ L.length ≤ cap ∧ cap ≤ maxLen ∧
    w.heap[p]? = some (.cells #[.slice a L.length cap, .bool true] 28 (0, 0)) ∧ w.ownsRow 0 58 2 (.slice a L.length cap) L.length (L.flatMap blkCells) ∧ (∀ g, (Value.slice a L.length cap).ownBlock = some g → F g) := by
  obtain ⟨bv, h1, h2, h3⟩ := h.hp
  obtain ⟨a, cap, rfl, h4, h5, _⟩ := own_cells h2
  exact ⟨a, cap, obj_cell h1 0 rfl, obj_cell h1 1 rfl, h4, h5, h1, h2, h3⟩
theorem deep_yes {w : World} {F : Nat → Prop} {p : Nat} {L : List MB} (h : IsScope w F p L) : Calls Try.prog 10 #[.pointer (some ⟨p, 0, none⟩)] w fun e w' => e = .returned (.int .i64 L.length) ∧ w = w' := by
  obtain ⟨a, cap, h1, h2, _⟩ := h.cells
  exact deep_cells w p a L.length cap h1 h2
theorem new_any (w : World) : Calls Try.prog 14 #[] w fun e w' => e = .returned (.pointer (some ⟨w.heap.size, 0, none⟩)) ∧ IsScope w' (Rng w.heap.size w'.heap.size) w.heap.size [] ∧ Below w.heap.size w w' := by
  go_enter Try.func14, Try.ntmps14
  go_wp2
  go_ret
  refine ⟨rfl, ⟨⟨_, alloc_obj _ _, World.ownsRow_nil _ _ _ _, fun g e => by cases e⟩, ⟨Nat.le_refl _, by simp⟩, fun b hb => by simp at hb, .nil, by simp⟩, (Below.refl _ _).alloc (Nat.le_refl _) _⟩

/-- What may be of a scope behind a call: what was, and what the call made. -/
def grow (F : Nat → Prop) (w w' : World) (k : Nat) : Prop := F k ∨ (w.heap.size ≤ k ∧ k < w'.heap.size)
set_option maxRecDepth 100000 in
set_option maxHeartbeats 1000000 in
theorem open_yes {w : World} {F : Nat → Prop} {p : Nat} {L : List MB} (h : IsScope w F p L) (hL : L.length ≤ 1000000000000) :
    Calls Try.prog 6 #[.pointer (some ⟨p, 0, none⟩)] w fun e w' => e = .returned (.tuple #[]) ∧ ∃ b, b.l = [] ∧ IsScope w' (grow F w w') p (L ++ [b]) ∧ Fr F w w' := by
  obtain ⟨a, cap, hc0, hc1, hcap, hcm, hobj, hown, hFv⟩ := h.cells
  obtain ⟨i0, hi, hz0, hz1, hz2⟩ := info_parts Try.infoBlk
  have hf0 := obj_frozen hobj 0
  have hcm' : cap ≤ 9223372036854775807 := hcm
  have HS := Lib.hid h
  have hlt := h.lt
  have hmm := @run_makeMap Try.prog
  clear h hcm
  go_enter Try.func6, Try.ntmps6
  go_wp2_with (first | (go_at_call 20; refine (known_yes _ _ _ hc1).mono ?_; rintro e w' ⟨rfl, rfl⟩) | (at_builtin; refine wpList_append_keep rfl _ _ 24 rfl 0 58 i0 _ 2 32 Try.underlying24 hi hz0 hz1 hz2 rfl (by decide) _ _ _ rfl ((hown.alloc _).alloc _) ⟨w.heap.size + 1, 0, none⟩ 1 1 [.slice none 0 0, .map (some w.heap.size)] rfl rfl (cells_add (cells_new' _ _ _ rfl _ _ _ (by simp))) (by simp [Value.oneCell']) (by decide) (by unfold maxLen; omega) (by omega) (Nat.zero_le _) ?_; intro v' w2 hown2 hold2 hgrow2 hsame2; obtain ⟨a2, cap2, rfl, -⟩ := own_cells hown2; have hfr2 := ((Fr.alloc _ _).trans (Fr.alloc _ _)).trans hgrow2; have hobj2 := hfr2.obj hobj (own_ne hown hobj (by decide)); have hcc := obj_cell hobj2 0 rfl; have hff := obj_frozen hobj2 0))
  go_end0
  have hB2 : ∀ g, (Value.slice a L.length cap).ownBlock = some g → g < w.heap.size := fun g e => (hown.lt g e).2
  have hf3 : Fr (only p) w2 (w2.setCell ⟨p, 0, none⟩ (.slice a2 (L.length + 1) cap2)) := Fr.setCell' _ _ rfl
  have hf4 : Fr (fun g => (Value.slice a L.length cap).ownBlock = some g ∨ g = p) w (w2.setCell ⟨p, 0, none⟩ (.slice a2 (L.length + 1) cap2)) := (hfr2.mono fun _ _ e => .inl e).trans (hf3.mono fun _ _ e => .inr e)
  have hmap : w2.heap[w.heap.size]? = some (.map #[] 0) := by
    have h1 : ((w.alloc (.map #[] 0)).alloc (.cells #[.slice none 0 0, .map (some w.heap.size)] 58 (0, 0))).heap[w.heap.size]? = some (.map #[] 0) := (Below.heap_alloc _ _ _ (by simp)).trans (alloc_obj w _)
    exact hgrow2.obj h1 fun e => by have := hB2 _ e; omega
  have hs2 := hgrow2.size
  simp only [World.size_alloc] at hs2
  refine ⟨rfl, ⟨.slice none 0 0, w.heap.size, []⟩, rfl, ⟨⟨_, by simpa using setCell_obj hobj2 (i := 0) (.slice a2 (L.length + 1) cap2), ?_, fun g hg => ?_⟩, .inl HS.out.hF, ?_, ?_, ?_⟩, hf4.mono fun g _ e => ?_⟩
  · have := own_fr hown2 hf3 fun g hg e => own_ne hown2 hobj2 (by decide) (by rw [hg, show g = p from e])
    simpa [blkCells] using this
  · have h2 := (hown2.lt g hg).2
    rcases hsame2 with ⟨g', c', e1, e2⟩ | h
    · refine .inl (hFv g ?_)
      have e1' : Value.slice a L.length cap = _ := e1
      rw [e2] at hg
      rw [e1']
      exact hg
    · have := h g hg
      simp at this
      exact .inr ⟨by omega, Nat.lt_of_lt_of_le h2 hf3.size⟩
  · intro b hb
    rcases List.mem_append.1 hb with hb | hb
    · refine (HS.out.blk b hb).frT hf4 (fun g e => ?_) fun g hg => .inl hg
      rcases e with e | e
      · rcases hown.2 with ⟨e2, _⟩ | ⟨g', c, cur, e2, _, hg', _⟩
        · rw [e2] at e; cases e
        · rw [e2] at e
          simp only [Value.ownBlock, Option.some.injEq] at e
          subst e
          exact ⟨_, _, hg', by decide, by decide, by decide⟩
      · subst e
        exact ⟨_, _, hobj, by decide, by decide, by decide⟩
    · simp only [List.mem_singleton] at hb
      subst hb
      refine ⟨World.ownsRow_nil _ _ _ _, (fun g e => by cases e), ⟨#[], 0, hf3.obj hmap (fun e => ?_), by simp, (fun k _ => by cases k <;> rfl)⟩, .inr ⟨Nat.le_refl _, ?_⟩, fun x hx => by simp at hx, by simp⟩
      · have e' : w.heap.size = p := e
        omega
      · have := hf3.size
        show w.heap.size < _
        omega
  · rw [List.pairwise_append]
    refine ⟨HS.out.off, by simp, fun b hb c hc => ?_⟩
    simp only [List.mem_singleton] at hc
    subst hc
    refine ⟨fun e => ?_, fun g _ e => by cases e⟩
    have := (HS.out.blk b hb).map.obj
    obtain ⟨es, c, h⟩ := this
    have := obj_lt h
    have e' : b.mb = w.heap.size := e
    omega
  · simpa using HS.out.poss
  · rcases e with e | e
    · exact hFv g e
    · subst e; exact HS.out.hF
end Go.Proofs.Yticdoccaabfjaaa
