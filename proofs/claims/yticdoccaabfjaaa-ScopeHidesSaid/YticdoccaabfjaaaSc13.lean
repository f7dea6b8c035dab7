/-
  Package scope: what a scope does, told on lists of names alone.
-/
import Derived.Test.YticdoccaabfjaaaSc12
namespace Go.Proofs.Yticdoccaabfjaaa
open Go.RowKit
set_option maxHeartbeats 400000

/-! The plain state: blocks of names, the outermost first. -/
def hasS (l : List Nm) (s : ByteArray) : Bool := l.any fun n => decide (n.s = s)
def unusedS (l : List Nm) : List ByteArray := (l.filter fun n => !n.used).map Nm.s
def useBlk (l : List Nm) (s : ByteArray) : List Nm := l.map fun n => if n.s = s then ⟨n.s, n.t, true⟩ else n
def useR (s : ByteArray) : List (List Nm) → List (List Nm)
  | [] => []
  | l :: r => if hasS l s then useBlk l s :: r else l :: useR s r
def useS (σ : List (List Nm)) (s : ByteArray) : List (List Nm) := (useR s σ.reverse).reverse
def tyIn (l : List Nm) (s : ByteArray) : Option Ty := (l.find? fun n => decide (n.s = s)).map Nm.t
def findS (σ : List (List Nm)) (s : ByteArray) : Option Ty := σ.reverse.findSome? fun l => tyIn l s
theorem useS_snoc (σ : List (List Nm)) (l : List Nm) (s : ByteArray) : useS (σ ++ [l]) s = if hasS l s then σ ++ [useBlk l s] else useS σ s ++ [l] := by
  unfold useS
  rw [List.reverse_append, List.reverse_singleton, List.singleton_append, useR]
  split <;> simp
theorem findS_snoc (σ : List (List Nm)) (l : List Nm) (s : ByteArray) : findS (σ ++ [l]) s = match tyIn l s with | some t => some t | none => findS σ s := by
  unfold findS
  rw [List.reverse_append, List.reverse_singleton, List.singleton_append, List.findSome?_cons]
  cases tyIn l s <;> rfl

/-! From the placed names to the plain ones. -/
def absB (b : MB) : List Nm := b.l.map Th.nm
def absM (L : List MB) : List (List Nm) := L.map absB
theorem absM_snoc (L : List MB) (b : MB) : absM (L ++ [b]) = absM L ++ [absB b] := by simp [absM]
theorem abs_find (l : List Th) (s : ByteArray) : (l.map Th.nm).find? (fun n => decide (n.s = s)) = (findTh l s).map Th.nm := by
  unfold findTh
  rw [List.find?_map]
  rfl
theorem abs_ty (b : MB) (s : ByteArray) : tyIn (absB b) s = (findTh b.l s).map fun x => x.nm.t := by
  unfold tyIn absB
  rw [abs_find]
  cases findTh b.l s <;> rfl
theorem abs_findS (L : List MB) (s : ByteArray) : findS (absM L) s = (findB L s).map fun x => x.nm.t := by
  unfold findS findB absM
  rw [← List.map_reverse, List.findSome?_map]
  have : ∀ R : List MB, (R.findSome? ((fun l => tyIn l s) ∘ absB)) = (R.findSome? fun b => findTh b.l s).map fun x => x.nm.t := by
    intro R
    induction R with
    | nil => rfl
    | cons b R ih =>
      rw [List.findSome?_cons, List.findSome?_cons]
      simp only [Function.comp, abs_ty]
      cases findTh b.l s with
      | some x => rfl
      | none => simpa [Function.comp_def] using ih
  exact this _
theorem abs_has (b : MB) (s : ByteArray) : hasS (absB b) s = (findTh b.l s).isSome := by
  unfold hasS absB findTh
  rw [List.any_map, List.isSome_find?]
  rfl
theorem findTh_self {l : List Th} (hn : (l.map fun x => x.nm.s).Nodup) {x : Th} (hx : x ∈ l) : findTh l x.nm.s = some x := by
  obtain ⟨y, hy⟩ := findTh_of (l := l) (List.mem_map.2 ⟨x, hx, rfl⟩)
  have h1 : y ∈ l := List.mem_of_find?_eq_some hy
  have h2 : y.nm.s = x.nm.s := by
    have := List.find?_some hy
    simpa using this
  obtain rfl := nodup_map_inj hn h1 hx h2
  exact hy
theorem unused_abs {b : MB} (hn : (b.l.map fun x => x.nm.s).Nodup) : unusedL b = unusedS (absB b) := by
  unfold unusedL unusedS absB keptS
  rw [List.filter_map, List.filter_map, List.map_map]
  have : List.filter ((fun s => !usedB b.l s) ∘ fun x : Th => x.nm.s) b.l = List.filter ((fun n : Nm => !n.used) ∘ Th.nm) b.l := by
    refine List.filter_congr fun x hx => ?_
    simp only [Function.comp]
    unfold usedB
    rw [findTh_self hn hx]
  rw [this]
  rfl
theorem use_blk {b : MB} (hn : (b.l.map fun x => x.nm.s).Nodup) {x : Th} (hx : x ∈ b.l) (hi : ∀ y ∈ b.l, y.pos = x.pos → y = x) : absB (setMB x.pos true b) = useBlk (absB b) x.nm.s := by
  unfold absB setMB useBlk
  simp only [List.map_map]
  refine List.map_congr_left fun y hy => ?_
  simp only [Function.comp]
  unfold setTh
  by_cases e : y.pos = x.pos
  · obtain rfl := hi y hy e
    simp
  · have : ¬ y.nm.s = x.nm.s := fun e2 => e (by rw [nodup_map_inj hn hy hx e2])
    simp [e, this]
theorem use_off {b : MB} {pos : Nat} (h : ∀ y ∈ b.l, y.pos ≠ pos) : absB (setMB pos true b) = absB b := by
  unfold absB setMB
  simp only [List.map_map]
  refine List.map_congr_left fun y hy => ?_
  simp [setTh, h y hy]
theorem use_abs {w : World} {F : Nat → Prop} {p : Nat} {L : List MB} (h : IsScope w F p L) {s : ByteArray} {x : Th} (hf : findB L s = some x) : absM (L.map (setMB x.pos true)) = useS (absM L) s := by
  obtain ⟨b0, hb0, hx0, hfb0⟩ := findB_mem hf
  have hs : x.nm.s = s := by
    have := List.find?_some hfb0
    simpa using this
  have hinj := h.inj hb0 hx0
  have hnd : ∀ b ∈ L, (b.l.map fun x => x.nm.s).Nodup := fun b hb => (h.blk b hb).nodup
  have hdis : (L.flatMap fun b => b.l.map Th.pos).Nodup := h.poss
  have key : ∀ R : List MB, (∀ b ∈ R, b ∈ L) → (R.flatMap fun b => b.l.map Th.pos).Nodup → (R.findSome? fun b => findTh b.l s) = some x → (R.map (setMB x.pos true)).map absB = useR s (R.map absB) := by
    intro R
    induction R with
    | nil => intro _ _ h; simp at h
    | cons b R ih =>
      intro hR hd hfs
      rw [List.flatMap_cons, List.nodup_append] at hd
      rw [List.findSome?_cons] at hfs
      simp only [List.map_cons, useR]
      rw [abs_has]
      cases hfb : findTh b.l s with
      | some y =>
        rw [hfb] at hfs
        simp only [Option.some.injEq] at hfs
        subst hfs
        have hyb : y ∈ b.l := List.mem_of_find?_eq_some hfb
        simp only [Option.isSome_some, if_true]
        rw [use_blk (hnd b (hR b (by simp))) hyb fun z hz e => hinj b (hR b (by simp)) z hz e, hs]
        congr 1
        rw [List.map_map]
        refine List.map_congr_left fun c hc => ?_
        refine use_off fun z hz e => ?_
        exact hd.2.2 y.pos (List.mem_map.2 ⟨y, hyb, rfl⟩) z.pos (List.mem_flatMap.2 ⟨c, hc, List.mem_map.2 ⟨z, hz, rfl⟩⟩) e.symm
      | none =>
        rw [hfb] at hfs
        simp only [Option.isSome_none, Bool.false_eq_true, if_false]
        rw [ih (fun c hc => hR c (List.mem_cons_of_mem _ hc)) hd.2.1 hfs]
        congr 1
        refine use_off fun z hz e => ?_
        obtain rfl := hinj b (hR b (by simp)) z hz e
        have := findTh_self (hnd b (hR b (by simp))) hz
        rw [hs, hfb] at this
        cases this
  unfold absM useS
  rw [← List.map_reverse, ← key L.reverse (fun b hb => by simpa using hb) ?_ hf, List.map_reverse, List.map_reverse, List.reverse_reverse]
  have : (L.reverse.flatMap fun b => b.l.map Th.pos).Perm (L.flatMap fun b => b.l.map Th.pos) := (List.reverse_perm L).flatMap_right _
  exact this.nodup_iff.2 hdis
end Go.Proofs.Yticdoccaabfjaaa
