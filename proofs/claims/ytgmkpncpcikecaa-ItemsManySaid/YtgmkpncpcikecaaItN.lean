/-
  Package items: Collection of a grammar that is right.
-/
import Derived.Test.YtgmkpncpcikecaaItM
namespace Go.Proofs.Ytgmkpncpcikecaa
open Go.RowKit Go.MapKept Go.ChangeMaps
set_option maxHeartbeats 400000

/-- The states at a round's head: state k is next; the edges of those ahead of it are gs. -/
structure ColM (G : Gram) (w : World) (B sb am k : Nat) (lv : Value) (vs : List (Value × Value)) (ks : List (List It)) (gs : List (List (Int × Int))) : Prop where
  sts : StsM w B sb am lv vs ks (gs ++ List.replicate (ks.length - k) [])
  lg : gs.length = k
  lk : k ≤ ks.length
  le : ks.length ≤ 256
  ok : KOk G ks
  go : colGo G (257 - k) k ks gs = colI G
theorem StsM.low {ch : Nat → Prop} {w w' : World} {B sb am : Nat} {lv : Value} {vs : List (Value × Value)} {ks : List (List It)} {es : List (List (Int × Int))} (h : StsM w B sb am lv vs ks es) (k : Fr ch w w') (hc : ∀ g, B ≤ g → ¬ ch g) : StsM w' B sb am lv vs ks es :=
  ⟨k.obj h.obj (hc _ h.hsb), own_fr h.own k fun g hg => hc g (ownObj h.own g hg).1, h.map.fr k (hc _ h.ham), h.hsb, h.ham, h.lk, h.le, h.small, fun i hi => own_fr (h.ker i hi) k fun g hg => hc g (ownObj (h.ker i hi) g hg).1, fun i hi => own_fr (h.edg i hi) k fun g hg => hc g (ownObj (h.edg i hi) g hg).1, h.apart⟩
theorem atK_nil (k : Value) : atK [] k = none := by
  unfold atK
  split <;> rfl
theorem col_none {G : Gram} {w : World} {B sb am k : Nat} {lv : Value} {vs : List (Value × Value)} {ks : List (List It)} {gs : List (List (Int × Int))} (h : ColM G w B sb am k lv vs ks gs) (hk : ¬ k < ks.length) : colI G = some (ks, gs) ∧ StsM w B sb am lv vs ks gs := by
  obtain ⟨h1, h2, h3, h4, h5, h6⟩ := h
  have : k = ks.length := by omega
  subst this
  rw [Nat.sub_self, List.replicate_zero, List.append_nil] at h1
  refine ⟨?_, h1⟩
  rw [← h6, show 257 - ks.length = (256 - ks.length) + 1 by omega]
  unfold colGo
  rw [List.getElem?_eq_none (Nat.le_refl _)]
theorem col_some {G : Gram} {w : World} {B sb am k : Nat} {lv : Value} {vs : List (Value × Value)} {ks : List (List It)} {gs : List (List (Int × Int))} (h : ColM G w B sb am k lv vs ks gs) (hk : k < ks.length) :
    colI G = match edgesGo G (cloL G ks[k]) (symsI G) ks [] with
      | none => none
      | some (ks', es) => colGo G (257 - (k + 1)) (k + 1) ks' (gs ++ [es]) := by
  have h4 := h.le
  rw [← h.go, show 257 - k = (257 - (k + 1)) + 1 by omega]
  conv => lhs; unfold colGo
  rw [List.getElem?_eq_getElem hk]
  rfl

/-- The states in a round: the edges of state k as far as they are laid are es. -/
structure InM (G : Gram) (L : List It) (w : World) (B k mO : Nat) (fO : Value → Option Value) (sv : Value) (ss : List Int) (gs : List (List (Int × Int))) (j : Nat) (lv : Value) (vs : List (Value × Value)) (ks : List (List It)) (es : List (Int × Int)) : Prop where
  sts : StsM w B (B + 1) B lv vs ks (gs ++ [es] ++ List.replicate (ks.length - (k + 1)) [])
  map : MapIs w (.int .i64) mO fO
  lists : ∀ s, OwnI w B ((fO (.int .i64 s)).getD (.slice none 0 0)) (onI G L s)
  row : w.ownsRow B 3 1 sv ss.length (ss.map (Value.int .i64))
  lk : k < ks.length
  le : ks.length ≤ 256
  ok : KOk G ks
  lg : gs.length = k
  ln : es.length = j
  mne : mO ≠ B
  go : colI G = match edgesGo G L (ss.drop j) ks es with
    | none => none
    | some (ks', es') => colGo G (257 - (k + 1)) (k + 1) ks' (gs ++ [es'])
theorem rep_succ {α : Type} {n m : Nat} (h : n = m + 1) (x : α) : List.replicate n x = x :: List.replicate m x := by subst h; rfl
theorem in_start {G : Gram} (hr : rightG G = true) {L : List It} (hLi : ∀ x ∈ L, InI G x) {wr w10 : World} {B k mO : Nat} {fO : Value → Option Value} {sv lv : Value} {ss : List Int} {gs : List (List (Int × Int))} {vs : List (Value × Value)} {ks : List (List It)} (h : ColM G wr B (B + 1) B k lv vs ks gs) (hk : k < ks.length) (hF : Fr nothing wr w10)
    (hci : colI G = match edgesGo G L (symsI G) ks [] with
      | none => none
      | some (ks', es) => colGo G (257 - (k + 1)) (k + 1) ks' (gs ++ [es])) {Bg : Nat} (hg : GrpM w10 Bg 41 2 mO fO (onL G L)) (hBm : B < Bg) (hris : ss.Pairwise (· < ·)) (hmem : ∀ x, x ∈ ss ↔ fO (.int .i64 x) ≠ none) (hrow : w10.ownsRow B 3 1 sv ss.length (ss.map (Value.int .i64))) :
    InM G L w10 B k mO fO sv ss gs 0 lv vs ks [] := by
  have hss : ss = (symsI G).filter fun s => decide (onI G L s ≠ []) := keys_are hr hLi hris fun x => by
    rw [hmem]
    rcases hg.row x with ⟨h1, _, h3⟩ | ⟨h1, v, h2, _⟩
    · have : onI G L x = [] := List.eq_nil_of_length_eq_zero h1
      rw [h3, this]
      simp
    · have h1 : 0 < (onI G L x).length := h1
      rw [h2]
      simp only [ne_eq, reduceCtorEq, not_false_eq_true, true_iff]
      intro e
      rw [e] at h1
      simp at h1
  have hm := h.sts.fr hF
  have hne := hg.hB
  refine ⟨?_, hg.map, fun s => ownDown (hg.own s) (Nat.le_of_lt hBm), hrow, hk, h.le, h.ok, h.lg, rfl, by omega, ?_⟩
  · rw [rep_succ (show ks.length - k = (ks.length - (k + 1)) + 1 by omega)] at hm
    simpa using hm
  · rw [hci, List.drop_zero, hss, edgesGo_filter]
theorem in_end {G : Gram} {L : List It} {w : World} {B k mO j : Nat} {fO : Value → Option Value} {sv lv : Value} {ss : List Int} {gs : List (List (Int × Int))} {vs : List (Value × Value)} {ks : List (List It)} {es : List (Int × Int)} (h : InM G L w B k mO fO sv ss gs j lv vs ks es) (hj : ss.length ≤ j) : ColM G w B (B + 1) B (k + 1) lv vs ks (gs ++ [es]) := by
  have h1 := h.go
  rw [List.drop_eq_nil_of_le hj] at h1
  exact ⟨h.sts, by simp [h.lg], h.lk, h.le, h.ok, h1.symm⟩
/-- What put has turned. -/
theorem in_put {G : Gram} (hr : rightG G = true) {L : List It} {w w' : World} {B k mO j c : Nat} {fO : Value → Option Value} {sv lv lv' : Value} {ss : List Int} {gs : List (List (Int × Int))} {vs vs' : List (Value × Value)} {ks ks' : List (List It)} {es : List (Int × Int)} (h : InM G L w B k mO fO sv ss gs j lv vs ks es)
    (K : List It) (hK : K.length ≤ 1 + 128 * k) (hKi : ∀ x ∈ K, InI G x) (hL : L = cloL G K) {x : Int} (hp : putK ks (onI G L x) = some (c, ks')) (hF : Fr (putCh (B + 1) B lv) w w')
    (hs : StsM w' B (B + 1) B lv' vs' ks' (if ks'.length = ks.length then gs ++ [es] ++ List.replicate (ks.length - (k + 1)) [] else gs ++ [es] ++ List.replicate (ks.length - (k + 1)) [] ++ [[]])) :
    StsM w' B (B + 1) B lv' vs' ks' (gs ++ [es] ++ List.replicate (ks'.length - (k + 1)) []) ∧ MapIs w' (.int .i64) mO fO ∧ (∀ s, OwnI w' B ((fO (.int .i64 s)).getD (.slice none 0 0)) (onI G L s)) ∧ w'.ownsRow B 3 1 sv ss.length (ss.map (Value.int .i64)) ∧ k < ks'.length ∧ ks'.length ≤ 256 ∧ KOk G ks' ∧ c < ks'.length := by
  have hlk := h.lk
  obtain ⟨hc, hl, hor⟩ := putK_spec hp h.le
  have hok := h.ok.put hr h.le K h.lk hK hKi x (hL ▸ hp)
  refine ⟨?_, h.sts.keepMap hF h.map h.mne, fun s => h.sts.keepRow hF (h.lists s) (by decide) (by decide), h.sts.keepRow hF h.row (by decide) (by decide), ?_, hl, hok, (List.getElem?_eq_some_iff.1 hc).1⟩
  · rcases hor with ⟨_, rfl⟩ | ⟨_, rfl, _⟩
    · rw [if_pos rfl] at hs
      exact hs
    · rw [if_neg (by simp)] at hs
      have e : (ks ++ [onI G L x]).length - (k + 1) = (ks.length - (k + 1)) + 1 := by simp; omega
      rw [e, List.replicate_succ']
      simpa using hs
  · rcases hor with ⟨_, rfl⟩ | ⟨_, rfl, _⟩
    · exact hlk
    · simp; omega

theorem mid_get {α : Type} {gs : List (List α)} {k : Nat} (h : gs.length = k) (es : List α) (r : List (List α)) : (gs ++ [es] ++ r).getD k [] = es := by
  subst h
  simp
theorem mid_set {α : Type} {gs : List (List α)} {k : Nat} (h : gs.length = k) (es es' : List α) (r : List (List α)) : (gs ++ [es] ++ r).set k es' = gs ++ [es'] ++ r := by
  subst h
  simp
/-- What an edge has turned. -/
theorem in_edge {G : Gram} {L : List It} {w w0 w4 w5 w6 : World} {B k mO j c lb n cp g cap : Nat} {fO : Value → Option Value} {sv lv : Value} {ss : List Int} {gs : List (List (Int × Int))} {vs vs5 : List (Value × Value)} {ks ks1 : List (List It)} {es : List (Int × Int)} {x : Int} (h : InM G L w B k mO fO sv ss gs j lv vs ks es)
    (hst : StsM w5 B (B + 1) B (.slice (some ⟨lb, 0, none⟩) n cp) vs5 ks1 (gs ++ [es] ++ List.replicate (ks1.length - (k + 1)) [])) (hmap : MapIs w5 (.int .i64) mO fO) (hlists : ∀ s, OwnI w5 B ((fO (.int .i64 s)).getD (.slice none 0 0)) (onI G L s)) (hrow : w5.ownsRow B 3 1 sv ss.length (ss.map (Value.int .i64)))
    (hk1 : k < vs5.length) (hle1 : ks1.length ≤ 256) (hok1 : KOk G ks1) (hn : vs5.length = n) (k0 : Fr nothing w5 w0)
    (hown : w4.ownsRow B 44 2 (.slice (some ⟨g, 0, none⟩) (es.length + 1) cap) (es.length + 1) (es.flatMap encI ++ [.int .i64 x, .int .i64 (c : Int)])) (hgrow : w0.grownBy w4 vs5[k].2.ownBlock) (hat : vs5[k].2.ownBlock = some g ∨ w5.heap.size ≤ g)
    (h6 : w6 = w4.setCell ⟨lb, k * 2 + 1, none⟩ (.slice (some ⟨g, 0, none⟩) (es.length + 1) cap)) (hj : j < ss.length) (hx : ss[j] = x) (hxe : onI G L x ≠ []) (hp : putK ks (onI G L x) = some (c, ks1)) :
    InM G L w6 B k mO fO sv ss gs (j + 1) (.slice (some ⟨lb, 0, none⟩) n cp) (vs5.set k (vs5[k].1, .slice (some ⟨g, 0, none⟩) (es.length + 1) cap)) ks1 (es ++ [(x, (c : Int))]) ∧ Fr (from_ B) w5 w6 := by
  have hE := mid_get h.lg es (List.replicate (ks1.length - (k + 1)) [])
  obtain ⟨e1, e2⟩ := hst.edge (x := x) (t := (c : Int)) (g := g) (cap := cap) (w0 := w0) (w4 := w4) hn hk1 k0 (by rw [hE]; exact hown) hgrow hat
  rw [hE, mid_set h.lg] at e1
  rw [hE] at e2
  rw [← h6] at e1 e2
  obtain ⟨hbl, csl, hlb⟩ := ownObj hst.own lb rfl
  have hgo := ownObj (hst.edg k hk1)
  have keep : ∀ {B' e size n : Nat} {v : Value} {xs : List Value}, w5.ownsRow B' e size v n xs → e ≠ 39 → e ≠ 44 → w6.ownsRow B' e size v n xs := fun hv h1 h2 => own_fr hv e2 fun q hq hc => by
    obtain ⟨_, cs, hcs⟩ := ownObj hv q hq
    rcases hc with rfl | hc
    · rw [hlb] at hcs
      simp only [Option.some.injEq, Obj.cells.injEq] at hcs
      exact h1 hcs.2.1.symm
    · obtain ⟨_, cs', hcs'⟩ := hgo q hc
      rw [hcs'] at hcs
      simp only [Option.some.injEq, Obj.cells.injEq] at hcs
      exact h2 hcs.2.1.symm
  refine ⟨⟨e1, hmap.fr e2 fun hc => ?_, fun s => keep (hlists s) (by decide) (by decide), keep hrow (by decide) (by decide), by rw [hst.lk]; exact hk1, hle1, hok1, h.lg, by simp [h.ln], h.mne, ?_⟩, e2.mono fun q _ hc => ?_⟩
  · obtain ⟨es', c', hm⟩ := hmap.obj
    rcases hc with rfl | hc
    · rw [hlb] at hm; cases hm
    · obtain ⟨_, cs', hcs'⟩ := hgo mO hc
      rw [hcs'] at hm; cases hm
  · rw [h.go, List.drop_eq_getElem_cons hj, hx]
    conv => lhs; unfold edgesGo
    rw [if_neg hxe, hp]
  · show B ≤ q
    rcases hc with rfl | hc
    · exact hbl
    · exact (hgo q hc).1

end Go.Proofs.Ytgmkpncpcikecaa
