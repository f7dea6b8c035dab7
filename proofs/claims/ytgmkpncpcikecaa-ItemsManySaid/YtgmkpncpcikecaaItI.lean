/-
  Package items: the states in memory.
-/
import Derived.Test.YtgmkpncpcikecaaItG
namespace Go.Proofs.Ytgmkpncpcikecaa
open Go.RowKit Go.MapKept Go.ChangeMaps
set_option maxHeartbeats 400000

theorem Try.infoState : (Try.prog.info? 39).map (fun i => (i.zero, i.size, i.bytes)) = some (some (.agg #[.slice none 0 0, .slice none 0 0]), 2, 48) := by kernel_rfl
theorem Try.infoEdge : (Try.prog.info? 44).map (fun i => (i.zero, i.size, i.bytes)) = some (some (.agg #[.int .i64 0, .int .i64 0]), 2, 16) := by kernel_rfl
/-- A list of edges of its own. -/
def OwnE (w : World) (B : Nat) (v : Value) (l : List (Int × Int)) : Prop := w.ownsRow B 44 2 v l.length (l.flatMap encI)
def stV (vs : List (Value × Value)) : List Value := vs.flatMap fun p => [p.1, p.2]
def idxK (ks : List (List It)) (s : ByteArray) : Option Nat := ks.findIdx? fun x => decide (keyK x = s)
def atK (ks : List (List It)) : Value → Option Value := fun k => match k with | .string s => (idxK ks s).map fun j : Nat => .int .i64 (j : Int) | _ => none
theorem findIdx_congr {α : Type} {p q : α → Bool} : ∀ (l : List α), (∀ x ∈ l, p x = q x) → l.findIdx? p = l.findIdx? q
  | [], _ => rfl
  | x :: l, h => by
    rw [List.findIdx?_cons, List.findIdx?_cons, h x (by simp), findIdx_congr l fun y hy => h y (by simp [hy])]
def SmallK (ks : List (List It)) : Prop := ∀ k ∈ ks, ∀ x ∈ k, smallI x
theorem idxK_is {ks : List (List It)} {K : List It} (h : SmallK ks) (hK : ∀ x ∈ K, smallI x) : idxK ks (keyK K) = ks.findIdx? fun x => decide (x = K) :=
  findIdx_congr ks fun k hk => by
    by_cases e : k = K
    · subst e; simp
    · have : keyK k ≠ keyK K := fun h' => e (keyK_inj (h k hk) hK h')
      simp [e, this]
theorem idxK_snoc (ks : List (List It)) (K : List It) (s : ByteArray) : idxK (ks ++ [K]) s = match idxK ks s with | some j => some j | none => if keyK K = s then some ks.length else none := by
  unfold idxK
  rw [List.findIdx?_append]
  cases h : List.findIdx? (fun x => decide (keyK x = s)) ks with
  | some j => simp
  | none => by_cases e : keyK K = s <;> simp [e, List.findIdx?_cons]
/-- The states in memory: kernels ks, edges es. -/
structure StsM (w : World) (B sb am : Nat) (lv : Value) (vs : List (Value × Value)) (ks : List (List It)) (es : List (List (Int × Int))) : Prop where
  obj : w.heap[sb]? = some (.cells #[lv, .map (some am)] 63 (0, 0))
  own : w.ownsRow B 39 2 lv vs.length (stV vs)
  map : MapIs w .string am (atK ks)
  hsb : B ≤ sb
  ham : B ≤ am
  lk : ks.length = vs.length
  le : es.length = vs.length
  small : SmallK ks
  ker : ∀ i (h : i < vs.length), OwnI w B vs[i].1 (ks.getD i [])
  edg : ∀ i (h : i < vs.length), OwnE w B vs[i].2 (es.getD i [])
  apart : ∀ i j (hi : i < vs.length) (hj : j < vs.length) g, i ≠ j → vs[i].2.ownBlock = some g → vs[j].2.ownBlock ≠ some g
/-- What putting a state turns. -/
def putCh (sb am : Nat) (lv : Value) : Nat → Prop := fun g => g = sb ∨ g = am ∨ lv.ownBlock = some g
theorem StsM.keepRow {w w' : World} {B sb am : Nat} {lv : Value} {vs : List (Value × Value)} {ks : List (List It)} {es : List (List (Int × Int))} (h : StsM w B sb am lv vs ks es) (k : Fr (putCh sb am lv) w w')
    {B' e size n : Nat} {v : Value} {xs : List Value} (hv : w.ownsRow B' e size v n xs) (h1 : e ≠ 39) (h2 : e ≠ 63) : w'.ownsRow B' e size v n xs := by
  refine own_fr hv k fun g hg hc => ?_
  obtain ⟨_, cs, hcs⟩ := ownObj hv g hg
  rcases hc with rfl | rfl | hc
  · rw [h.obj] at hcs
    simp only [Option.some.injEq, Obj.cells.injEq] at hcs
    exact h2 hcs.2.1.symm
  · obtain ⟨es, c, hm⟩ := h.map.obj
    rw [hm] at hcs
    cases hcs
  · obtain ⟨_, cs', hcs'⟩ := ownObj h.own g hc
    rw [hcs'] at hcs
    simp only [Option.some.injEq, Obj.cells.injEq] at hcs
    exact h1 hcs.2.1.symm
theorem StsM.keepMap {w w' : World} {B sb am : Nat} {lv : Value} {vs : List (Value × Value)} {ks : List (List It)} {es : List (List (Int × Int))} (h : StsM w B sb am lv vs ks es) (k : Fr (putCh sb am lv) w w')
    {d : TypeDesc} {m : Nat} {f : Value → Option Value} (hm : MapIs w d m f) (hne : m ≠ am) : MapIs w' d m f := by
  refine hm.fr k fun hc => ?_
  obtain ⟨es, c, hes⟩ := hm.obj
  rcases hc with rfl | hc | hc
  · rw [h.obj] at hes
    cases hes
  · exact hne hc
  · obtain ⟨_, cs', hcs'⟩ := ownObj h.own m hc
    rw [hcs'] at hes
    cases hes
theorem StsM.fr {w w' : World} {B sb am : Nat} {lv : Value} {vs : List (Value × Value)} {ks : List (List It)} {es : List (List (Int × Int))} (h : StsM w B sb am lv vs ks es) (k : Fr nothing w w') : StsM w' B sb am lv vs ks es :=
  ⟨k.obj h.obj id, own_fr h.own k fun _ _ => id, h.map.fr k id, h.hsb, h.ham, h.lk, h.le, h.small, fun i hi => own_fr (h.ker i hi) k fun _ _ => id, fun i hi => own_fr (h.edg i hi) k fun _ _ => id, h.apart⟩
theorem StsM.below {w w' w0 : World} {B sb am : Nat} {lv : Value} {vs : List (Value × Value)} {ks : List (List It)} {es : List (List (Int × Int))} (h : StsM w B sb am lv vs ks es) (k : Fr (putCh sb am lv) w w') (hb : Below B w0 w) : Below B w0 w' :=
  hb.trans (k.below (Nat.le_of_lt (Nat.lt_of_le_of_lt h.hsb (Array.getElem?_eq_some_iff.1 h.obj).1)) fun g hc => by
    rcases hc with rfl | rfl | hc
    · exact h.hsb
    · exact h.ham
    · exact (ownObj h.own g hc).1)
/-- A new state has been laid. -/
theorem StsM.snoc {w w' : World} {B sb am : Nat} {lv lv' kv : Value} {vs : List (Value × Value)} {ks : List (List It)} {es : List (List (Int × Int))} {K : List It} (h : StsM w B sb am lv vs ks es) (k : Fr (putCh sb am lv) w w')
    (hobj : w'.heap[sb]? = some (.cells #[lv', .map (some am)] 63 (0, 0))) (hown : w'.ownsRow B 39 2 lv' (vs.length + 1) (stV vs ++ [kv, .slice none 0 0])) (hmap : MapIs w' .string am (atK (ks ++ [K])))
    (hK : ∀ x ∈ K, smallI x) (hkv : OwnI w B kv K) : StsM w' B sb am lv' (vs ++ [(kv, .slice none 0 0)]) (ks ++ [K]) (es ++ [[]]) := by
  have hlk := h.lk
  have hle := h.le
  refine ⟨hobj, by simpa [stV] using hown, hmap, h.hsb, h.ham, by simp [hlk], by simp [hle], fun k hk => ?_, fun i hi => ?_, fun i hi => ?_, fun i j hi hj g hij hg => ?_⟩
  · rcases List.mem_append.1 hk with hk | hk
    · exact h.small k hk
    · rw [List.mem_singleton.1 hk]; exact hK
  · simp only [List.length_append, List.length_singleton] at hi
    by_cases e : i < vs.length
    · rw [List.getElem_append_left e, List.getD_eq_getElem?_getD, List.getElem?_append_left (by omega), ← List.getD_eq_getElem?_getD]
      exact h.keepRow k (h.ker i e) (by decide) (by decide)
    · have : i = vs.length := by omega
      subst this
      rw [List.getElem_concat_length rfl, List.getD_eq_getElem?_getD, ← hlk, List.getElem?_concat_length]
      exact h.keepRow k hkv (by decide) (by decide)
  · simp only [List.length_append, List.length_singleton] at hi
    by_cases e : i < vs.length
    · rw [List.getElem_append_left e, List.getD_eq_getElem?_getD, List.getElem?_append_left (by omega), ← List.getD_eq_getElem?_getD]
      exact h.keepRow k (h.edg i e) (by decide) (by decide)
    · have : i = vs.length := by omega
      subst this
      rw [List.getElem_concat_length rfl, List.getD_eq_getElem?_getD, ← hle, List.getElem?_concat_length]
      exact World.ownsRow_nil _ _ _ _
  · simp only [List.length_append, List.length_singleton] at hi hj
    by_cases e : i < vs.length
    · by_cases e' : j < vs.length
      · rw [List.getElem_append_left e] at hg
        rw [List.getElem_append_left e']
        exact h.apart i j e e' g hij hg
      · have : j = vs.length := by omega
        subst this
        rw [List.getElem_concat_length rfl]
        simp [Value.ownBlock]
    · have : i = vs.length := by omega
      subst this
      rw [List.getElem_concat_length rfl] at hg
      cases hg
end Go.Proofs.Ytgmkpncpcikecaa
