/-
  Package items: are all of these items?
  The document's answer on symbols: places of names, what may be a type.
  Maps of numbers to lists of their own that grow; the productions of each symbol.
  Package items: over.
  The statements' own helpers on productions: markProd, LentProd, LentProds.
-/
import Derived.Test.YtpnihegmhalcfaaRunG06
import Derived.Test.YtpnihegmhalcfaaRunG01
import Derived.BigQuiet
import Derived.Deep.AppendLies
namespace Go.Proofs.Ytpnihegmhalcfaa
open Go.RowKit
set_option maxHeartbeats 400000

instance (G : Gram) (x : It) : Decidable (InI G x) := by unfold InI; infer_instance
theorem rightOf_at (G : Gram) {p : Nat} (h : p < G.prods.length) : rightOf G (p : Int) = G.prods[p].right := by
  unfold rightOf
  rw [Int.toNat_natCast, List.getElem?_eq_getElem h]
  rfl


end Go.Proofs.Ytpnihegmhalcfaa
namespace Go.Proofs.Ytpnihegmhalcfaa
open Go.RowKit
set_option maxHeartbeats 400000

/-- Where a name stands; -1: nowhere. -/
def placeE (name : ByteArray) : List Sym → Nat → Int
  | [], _ => -1
  | s :: r, i => if s.name = name then (i : Int) else placeE name r (i + 1)
theorem placeE_drop (name : ByteArray) (l : List Sym) (k : Nat) (h : k < l.length) : placeE name (l.drop k) k = if l[k].name = name then (k : Int) else placeE name (l.drop (k + 1)) (k + 1) := by
  rw [List.drop_eq_getElem_cons h]
  rfl
theorem placeE_has (name : ByteArray) : ∀ (l : List Sym) (i : Nat), decide (0 ≤ placeE name l i) = hasName (l.map Sym.name) name
  | [], i => rfl
  | s :: r, i => by
    have ih := placeE_has name r (i + 1)
    unfold placeE
    by_cases h : s.name = name
    · rw [if_pos h]
      simp [hasName, h]
    · rw [if_neg h, ih]
      simp [hasName, h]

set_option maxRecDepth 100000 in
theorem place_any (v : Value) (l : List Sym) (name : ByteArray) (w : World) (hl : IsSyms w v l) :
    Calls Try.prog 83 #[v, .string name] w fun e w' => e = .returned (.int .i64 (placeE name l 0)) ∧ w = w' := by
  obtain ⟨hlen, a, c, rfl, _, _, hx⟩ := hl
  go_enter Try.func83, Try.ntmps83
  go_wp2
  go_loopw [5] (fun i wr => ∃ k : Nat, k ≤ l.length ∧ i = .int .i64 k ∧ placeE name (l.drop k) k = placeE name l 0 ∧ w = wr)
     (fun i _ => l.length - (intOf i).toNat)
  case atStart => exact ⟨0, Nat.zero_le _, rfl, rfl, rfl⟩
  case round =>
    obtain ⟨k, hk, rfl, he, rfl⟩ := hrel
    by_cases hlt : k < l.length
    · obtain ⟨b', o, rfl, hcx⟩ : ∃ b' o, a = some ⟨b', o, none⟩ ∧ ∀ i, (h : i < l.length) → SymAt w b' (o + i * 4) l[i] := by
        rcases hx with rfl | h
        · simp at hlt
        · exact h
      obtain ⟨hok, hcs⟩ := hcx k hlt
      have hd := placeE_drop name l k hlt
      rw [he] at hd
      generalize l[k] = s at *
      have s0 := hcs 0 (by simp [symCells])
      simp only [symCells, List.getElem_cons_zero, Nat.add_zero] at s0
      have HD := Lib.hid hd
      clear hd he hcx hcs hok hx
      by_cases hk1 : s.name = name
      · have t1 : (s.name.toList == name.toList) = true := by rw [str_eq]; simp [hk1]
        go_wp2
        go_ret
        exact ⟨congrArg (fun t => Ending.returned (Value.int .i64 t)) (by rw [HD.out, if_pos hk1]), rfl⟩
      · have t1 : (s.name.toList == name.toList) = false := by rw [str_eq]; simp [hk1]
        go_wp2
        go_roundw
        case rel => exact ⟨k + 1, by omega, by simp, by rw [HD.out, if_neg hk1], trivial⟩
        case measure => simp [intOf]; omega
    · obtain rfl : k = l.length := by omega
      simp only [List.drop_length] at he
      have HE := Lib.hid he
      clear he hlt hx
      go_wp2
      go_ret
      exact ⟨congrArg (fun t => Ending.returned (Value.int .i64 t)) HE.out, rfl⟩

set_option maxRecDepth 100000 in
theorem typed14_any (s : ByteArray) (w : World) : Calls Try.prog 84 #[.string s] w fun e w' => e = .returned (.bool (typedG s)) ∧ w = w' := by
  unfold typedG nInt nBool nString nFloat
  generalize e1 : decide (s = ⟨#[105, 110, 116]⟩) = b1
  generalize e2 : decide (s = ⟨#[98, 111, 111, 108]⟩) = b2
  generalize e3 : decide (s = ⟨#[115, 116, 114, 105, 110, 103]⟩) = b3
  generalize e4 : decide (s = ⟨#[102, 108, 111, 97, 116, 54, 52]⟩) = b4
  have h1 := str_ilit s _ _ e1
  have h2 := str_ilit s _ _ e2
  have h3 := str_ilit s _ _ e3
  have h4 := str_ilit s _ _ e4
  clear e1 e2 e3 e4
  cases b1 <;> cases b2 <;> cases b3 <;> cases b4
  all_goals
    go_enter Try.func84, Try.ntmps84
    go_wp2
    go_ret
    exact ⟨rfl, rfl⟩
end Go.Proofs.Ytpnihegmhalcfaa
namespace Go.Proofs.Ytpnihegmhalcfaa
open Go.RowKit Go.MapKept Go.ChangeMaps
set_option maxHeartbeats 400000

/-- 'm[k] = v', at the operation, by what the map holds. -/
theorem wpList_store_map {P : Program} (w : World) {ops : Array Oper} {rest : List Oper} {o : Oper} {a : Act} {Q : Exit → Act → World → Prop}
    (hg : o.guard = none) (m x v : Operand) (t : TypeId) (hop : o.op = Op.mapUpdate t m x v) (kt et : TypeId) (d : TypeDesc) (ht : P.underlying t = some (.map kt et)) (hd : P.underlying kt = some d)
    (b : Nat) (f f' : Value → Option Value) (hm : a.eval m = .map (some b)) (h : MapIs w d b f) (key val : Value) (hx : a.eval x = key) (hv : a.eval v = val) (hk : IsKey d key)
    (hf' : f' key = some val) (hother : ∀ k', IsKey d k' → k' ≠ key → f' k' = f k')
    (hK : ∀ w', MapIs w' d b f' → Fr (only b) w w' → wpList P ops Q rest (a.put o.dst undef) w') : wpList P ops Q (o :: rest) a w := by
  refine wpList_plain hg fun K' hK' => ?_
  obtain ⟨w', hrun, r1, r2⟩ := h.store ht hd hk val hf' hother
  unfold Oper.wp
  simp [execOp, hop, hm, hx, hv, hrun, Result.andThen]
  exact hK' _ _ (hK w' r1 r2)
/-- The same at one operation. -/
theorem wp_store_map {P : Program} (w : World) {o : Oper} {a : Act} {K : Act → World → Prop} {Q : Exit → Act → World → Prop}
    (m x v : Operand) (t : TypeId) (hop : o.op = Op.mapUpdate t m x v) (kt et : TypeId) (d : TypeDesc) (ht : P.underlying t = some (.map kt et)) (hd : P.underlying kt = some d)
    (b : Nat) (f f' : Value → Option Value) (hm : a.eval m = .map (some b)) (h : MapIs w d b f) (key val : Value) (hx : a.eval x = key) (hv : a.eval v = val) (hk : IsKey d key)
    (hf' : f' key = some val) (hother : ∀ k', IsKey d k' → k' ≠ key → f' k' = f k')
    (hK : ∀ w', MapIs w' d b f' → Fr (only b) w w' → K (a.put o.dst undef) w') : o.wp P a w K Q := by
  obtain ⟨w', hrun, r1, r2⟩ := h.store ht hd hk val hf' hother
  unfold Oper.wp
  simp [execOp, hop, hm, hx, hv, hrun, Result.andThen]
  exact hK w' r1 r2
theorem ownObj {w : World} {B e size n : Nat} {v : Value} {xs : List Value} (h : w.ownsRow B e size v n xs) : ∀ g, v.ownBlock = some g → B ≤ g ∧ ∃ cs, w.heap[g]? = some (.cells cs e (0, 0)) := fun g hg => by
  rcases h.2 with ⟨e, _⟩ | ⟨g', c, cur, e, hb, hg', _⟩
  · rw [e] at hg; cases hg
  · rw [e] at hg
    simp only [Value.ownBlock, Option.some.injEq] at hg
    subst hg
    exact ⟨hb, _, hg'⟩
theorem MapIs.obj {w : World} {d : TypeDesc} {b : Nat} {f : Value → Option Value} (h : MapIs w d b f) : ∃ es c, w.heap[b]? = some (.map es c) := by
  obtain ⟨es, c, h1, _⟩ := h
  exact ⟨es, c, h1⟩
/-- A map of numbers to lists of their own, no two in one block: L tells each list's length and cells. -/
structure GrpM (w : World) (B : Nat) (e : TypeId) (size m : Nat) (f : Value → Option Value) (L : Int → Nat × List Value) : Prop where
  map : MapIs w (.int .i64) m f
  hB : B ≤ m
  row : ∀ s, ((L s).1 = 0 ∧ (L s).2 = [] ∧ f (.int .i64 s) = none) ∨ (0 < (L s).1 ∧ ∃ v, f (.int .i64 s) = some v ∧ w.ownsRow B e size v (L s).1 (L s).2)
  apart : ∀ s s' v v' g, s ≠ s' → f (.int .i64 s) = some v → f (.int .i64 s') = some v' → v.ownBlock = some g → v'.ownBlock ≠ some g
theorem GrpM.own {w : World} {B : Nat} {e : TypeId} {size m : Nat} {f : Value → Option Value} {L : Int → Nat × List Value} (h : GrpM w B e size m f L) (s : Int) :
    w.ownsRow B e size ((f (.int .i64 s)).getD (.slice none 0 0)) (L s).1 (L s).2 := by
  rcases h.row s with ⟨h1, h2, h3⟩ | ⟨_, v, h2, h3⟩
  · rw [h3, h1, h2]
    exact World.ownsRow_nil _ _ _ _
  · rw [h2]
    exact h3
theorem GrpM.new (w : World) {B : Nat} (hB : B ≤ w.heap.size) (e : TypeId) (size : Nat) : GrpM (w.alloc (.map #[] 0)) B e size w.heap.size (fun _ => none) (fun _ => (0, [])) :=
  ⟨mapIs_new w _, hB, fun _ => .inl ⟨rfl, rfl, rfl⟩, fun _ _ _ _ _ _ h => by cases h⟩
theorem GrpM.fr {ch : Nat → Prop} {w w' : World} {B : Nat} {e : TypeId} {size m : Nat} {f : Value → Option Value} {L : Int → Nat × List Value} (h : GrpM w B e size m f L) (k : Fr ch w w') (hc : ∀ g, B ≤ g → ¬ ch g) : GrpM w' B e size m f L := by
  refine ⟨h.map.fr k (hc _ h.hB), h.hB, fun s => ?_, h.apart⟩
  rcases h.row s with h1 | ⟨h1, v, h2, h3⟩
  · exact .inl h1
  · refine .inr ⟨h1, v, h2, own_fr h3 k fun g hg => hc g (ownObj h3 g hg).1⟩
def updF (f : Value → Option Value) (s : Int) (v : Value) : Value → Option Value := fun k => match k with | .int .i64 t => if t = s then some v else f k | _ => f k
theorem updF_same (f : Value → Option Value) (s : Int) (v : Value) : updF f s v (.int .i64 s) = some v := by simp [updF]
theorem updF_other (f : Value → Option Value) (s : Int) (v : Value) {t : Int} (h : t ≠ s) : updF f s v (.int .i64 t) = f (.int .i64 t) := by simp [updF, h]
theorem updF_key (f : Value → Option Value) (s : Int) (v : Value) : ∀ k', IsKey (.int .i64) k' → k' ≠ .int .i64 s → updF f s v k' = f k' := fun k' hk hne => by
  unfold updF
  split
  · rename_i t
    split
    · rename_i e
      exact absurd (by rw [e]) hne
    · rfl
  · rfl
def updL (L : Int → Nat × List Value) (s : Int) (x : Nat × List Value) : Int → Nat × List Value := fun t => if t = s then x else L t
/-- A list that has grown in memory, stored at its key. -/
theorem GrpM.add {w w1 w2 : World} {B : Nat} {e : TypeId} {size m g cap n' : Nat} {f : Value → Option Value} {L : Int → Nat × List Value} {xs' : List Value} {s : Int} (h : GrpM w B e size m f L) (hn : 0 < n')
    (hown : w1.ownsRow B e size (.slice (some ⟨g, 0, none⟩) n' cap) n' xs') (hgrow : w.grownBy w1 ((f (.int .i64 s)).getD (.slice none 0 0)).ownBlock) (hat : ((f (.int .i64 s)).getD (.slice none 0 0)).ownBlock = some g ∨ w.heap.size ≤ g)
    (hm : MapIs w2 (.int .i64) m (updF f s (.slice (some ⟨g, 0, none⟩) n' cap))) (hF : Fr (only m) w1 w2) : GrpM w2 B e size m (updF f s (.slice (some ⟨g, 0, none⟩) n' cap)) (updL L s (n', xs')) := by
  have k1 := Fr.grown hgrow
  have hmo := h.map.obj
  have hm1 : ¬ ((f (.int .i64 s)).getD (.slice none 0 0)).ownBlock = some m := fun e => by
    obtain ⟨_, cs, hc⟩ := ownObj (h.own s) m e
    obtain ⟨es, c, hes⟩ := hmo
    rw [hc] at hes
    cases hes
  have hne : ∀ t v, t ≠ s → f (.int .i64 t) = some v → ∀ g', v.ownBlock = some g' → ((f (.int .i64 s)).getD (.slice none 0 0)).ownBlock ≠ some g' := fun t v ht hv g' hg' => by
    cases hs : f (.int .i64 s) with
    | none => simp [Value.ownBlock]
    | some u =>
      simp only [Option.getD_some]
      intro hu
      exact h.apart s t u v g' (fun e => ht e.symm) hs hv hu hg'
  have oldr : ∀ t, t ≠ s → ((L t).1 = 0 ∧ (L t).2 = [] ∧ f (.int .i64 t) = none) ∨ (0 < (L t).1 ∧ ∃ v, f (.int .i64 t) = some v ∧ w2.ownsRow B e size v (L t).1 (L t).2) := fun t ht => by
    rcases h.row t with h1 | ⟨h1, v, h2, h3⟩
    · exact .inl h1
    · refine .inr ⟨h1, v, h2, own_fr (own_fr h3 k1 fun g' hg' => hne t v ht h2 g' hg') hF fun g' hg' e => ?_⟩
      have e' : g' = m := e
      subst e'
      obtain ⟨_, cs, hc⟩ := ownObj h3 _ hg'
      obtain ⟨es, c, hes⟩ := hmo
      rw [hc] at hes
      cases hes
  have hlt : ∀ t v, f (.int .i64 t) = some v → ∀ g', v.ownBlock = some g' → g' < w.heap.size := fun t v hv g' hg' => by
    rcases h.row t with ⟨_, _, h1⟩ | ⟨_, u, h2, h3⟩
    · rw [h1] at hv; cases hv
    · rw [h2] at hv
      cases hv
      obtain ⟨_, cs, hc⟩ := ownObj h3 g' hg'
      exact (Array.getElem?_eq_some_iff.1 hc).1
  have hgne : ∀ t v, t ≠ s → f (.int .i64 t) = some v → v.ownBlock ≠ some g := fun t v ht hv hg => by
    rcases hat with e | e
    · exact hne t v ht hv g hg e
    · have := hlt t v hv g hg
      omega
  refine ⟨hm, h.hB, fun t => ?_, fun t t' v v' g' htt hv hv' hg' => ?_⟩
  · by_cases e : t = s
    · subst e
      refine .inr ?_
      simp only [updL, if_true]
      refine ⟨hn, _, updF_same _ _ _, own_fr hown hF fun g' hg' e => ?_⟩
      have e' : g' = m := e
      subst e'
      simp only [Value.ownBlock, Option.some.injEq] at hg'
      subst hg'
      rcases hat with e | e
      · exact hm1 e
      · obtain ⟨es, c, hes⟩ := hmo
        have := (Array.getElem?_eq_some_iff.1 hes).1
        omega
    · simp only [updL, if_neg e, updF_other _ _ _ e]
      exact oldr t e
  · by_cases e : t = s
    · subst e
      rw [updF_same] at hv
      cases hv
      rw [updF_other _ _ _ (fun e => htt e.symm)] at hv'
      simp only [Value.ownBlock, Option.some.injEq] at hg'
      subst hg'
      exact hgne t' v' (fun e => htt e.symm) hv'
    · rw [updF_other _ _ _ e] at hv
      by_cases e' : t' = s
      · subst e'
        rw [updF_same] at hv'
        cases hv'
        simp only [Value.ownBlock, ne_eq, Option.some.injEq]
        intro hgg
        subst hgg
        exact hgne t v e hv hg'
      · rw [updF_other _ _ _ e'] at hv'
        exact h.apart t t' v v' g' htt hv hv' hg'
/-- The first k productions of a symbol, by their numbers. -/
def ownN (G : Gram) (k : Nat) (s : Int) : List Nat := (List.range k).filter fun p => decide ((G.prods[p]?.map (·.left)).getD (-1) = s)
theorem ownN_succ (G : Gram) {k : Nat} (hk : k < G.prods.length) (s : Int) : ownN G (k + 1) s = if G.prods[k].left = s then ownN G k s ++ [k] else ownN G k s := by
  unfold ownN
  rw [List.range_succ, List.filter_append, List.filter_cons, List.getElem?_eq_getElem hk]
  simp only [Option.map_some, Option.getD_some, decide_eq_true_eq, List.filter_nil]
  split
  · rfl
  · simp
def ownL (G : Gram) (k : Nat) (s : Int) : Nat × List Value := ((ownN G k s).length, (ownN G k s).map fun p : Nat => Value.int .i64 (p : Int))
theorem ownL_succ (G : Gram) {k : Nat} (hk : k < G.prods.length) : ownL G (k + 1) = updL (ownL G k) G.prods[k].left ((ownL G k G.prods[k].left).1 + 1, (ownL G k G.prods[k].left).2 ++ [.int .i64 (k : Int)]) := by
  funext s
  unfold ownL updL
  rw [ownN_succ G hk s]
  by_cases e : s = G.prods[k].left
  · subst e
    simp
  · rw [if_neg e, if_neg fun h => e h.symm]
theorem ownN_len (G : Gram) (k : Nat) (s : Int) : (ownN G k s).length ≤ k := by
  unfold ownN
  have := List.length_filter_le (fun p => decide ((G.prods[p]?.map (·.left)).getD (-1) = s)) (List.range k)
  rwa [List.length_range] at this
end Go.Proofs.Ytpnihegmhalcfaa
namespace Go.Proofs.Ytpnihegmhalcfaa
open Go.RowKit Go.MapKept Go.ChangeMaps
set_option maxHeartbeats 400000

theorem wp_at {P : Program} {c : Code} {Q : Exit → Act → World → Prop} {a : Act} {w : World} (F : World → Prop) (hF : F w) (h : ∀ W, F W → c.wp P Q a W) : c.wp P Q a w := h w hF
theorem one_news {w : World} {b : Nat} {x : Value} {t : TypeId} {f : Nat × Nat} (h : w.heap[b]? = some (.cells #[x] t f)) : ∀ j u, [x][j]? = some u → w.cell? ((⟨b, 0, none⟩ : Addr).add j) = some u := fun j u hj => by
  cases j with
  | zero =>
    simp only [List.getElem?_cons_zero, Option.some.injEq] at hj
    subst hj
    exact obj_cell h 0 rfl
  | succ j => simp at hj
theorem Try.infoIntI : (Try.prog.info? 3).map (fun i => (i.zero, i.size, i.bytes)) = some (some (.int .i64 0), 1, 8) := by kernel_rfl
theorem zInts (w : World) : (zeroValue 30).run Try.prog w = .ok (.slice none 0 0) w := by kernel_rfl

end Go.Proofs.Ytpnihegmhalcfaa
namespace Go.Proofs.Ytpnihegmhalcfaa
open Go.RowKit
set_option maxHeartbeats 400000

def cellsP (x : Prd × Value) : List Value := prdCells x.1 x.2
/-- A place's mark. -/
def markP (i : Int) : Prd × Value := (⟨0, [], 0, false, nNone, markOf i⟩, .slice none 0 0)
def markPs (k : Nat) : List (Prd × Value) := (List.range k).map fun j : Nat => markP j
theorem markPs_succ (k : Nat) : markPs (k + 1) = markPs k ++ [markP k] := by simp [markPs, List.range_succ]
theorem markPs_length (k : Nat) : (markPs k).length = k := by simp [markPs]

theorem markProd_any (i : Int) (w : World) (h0 : 0 ≤ i) (hi : i < 100) :
    Calls Try.prog 76 #[.int .i64 1, .int .i64 i] w fun e w' => e = .returned (.agg #[.int .i64 0, .slice none 0 0, .int .i64 0, .bool false, .string ⟨#[]⟩, .int .i64 (markOf i)]) ∧ Below w.heap.size w w' := by
  have HM := Lib.hid fun w => mark_any i w h0 hi
  go_enter Try.func76, Try.ntmps76
  go_wp2_with (go_at_call 40; refine (HM.out _).mono ?_; rintro e w' ⟨rfl, rfl⟩)
  go_returns
  exact ⟨rfl, (Below.refl _ _).alloc (Nat.le_refl _) _⟩

theorem lentInts_any (v : Value) (xs : List Int) (w : World) (h : Ints w v xs) : Calls Try.prog 21 #[v] w fun e w' => ∃ a cap, e = .returned (.slice a xs.length cap) ∧ Lent w' w.heap.size (.slice a xs.length cap) xs ∧ Below w.heap.size w w' := by
  obtain ⟨_, h1, a, c, rfl, _, _, hx⟩ := h
  refine (lent_any a c xs w h1 hx).mono ?_
  rintro e w' ⟨v, rfl, hl, hb⟩
  obtain ⟨g, cap, rfl, hr⟩ := id hl
  exact ⟨_, _, rfl, hl, hb⟩

theorem at_world {Q : World → Prop} {w : World} (F : World → Prop) (hF : F w) (h : ∀ W, F W → Q W) : Q w := h w hF
theorem obj_frozen {w : World} {b : Nat} {cs : Array Value} {t : TypeId} (h : w.heap[b]? = some (.cells cs t (0, 0))) (i : Nat) : w.frozen? ⟨b, i, none⟩ = false := by
  simp only [World.frozen?, h]
  simp
theorem prod_boxes {w : World} {b b' : Nat} {u0 u1 u2 u3 u4 u5 v0 v1 v2 v3 v4 v5 : Value} {t t' : TypeId} (h : w.heap[b]? = some (.cells #[u0, u1, u2, u3, u4, u5] t (0, 0))) (h' : w.heap[b']? = some (.cells #[v0, v1, v2, v3, v4, v5] t' (0, 0))) :
    (w.cell? ⟨b, 0, none⟩ = some u0 ∧ w.cell? ⟨b, 1, none⟩ = some u1 ∧ w.cell? ⟨b, 2, none⟩ = some u2 ∧ w.cell? ⟨b, 3, none⟩ = some u3 ∧ w.cell? ⟨b, 4, none⟩ = some u4 ∧ w.cell? ⟨b, 5, none⟩ = some u5) ∧
    (w.cell? ⟨b', 0, none⟩ = some v0 ∧ w.cell? ⟨b', 1, none⟩ = some v1 ∧ w.cell? ⟨b', 2, none⟩ = some v2 ∧ w.cell? ⟨b', 3, none⟩ = some v3 ∧ w.cell? ⟨b', 4, none⟩ = some v4 ∧ w.cell? ⟨b', 5, none⟩ = some v5) ∧
    w.frozen? ⟨b, 1, none⟩ = false ∧ w.frozen? ⟨b', 0, none⟩ = false ∧ w.frozen? ⟨b', 1, none⟩ = false ∧ w.frozen? ⟨b', 2, none⟩ = false ∧ w.frozen? ⟨b', 3, none⟩ = false ∧ w.frozen? ⟨b', 4, none⟩ = false ∧ w.frozen? ⟨b', 5, none⟩ = false :=
  ⟨⟨obj_cell h 0 rfl, obj_cell h 1 rfl, obj_cell h 2 rfl, obj_cell h 3 rfl, obj_cell h 4 rfl, obj_cell h 5 rfl⟩, ⟨obj_cell h' 0 rfl, obj_cell h' 1 rfl, obj_cell h' 2 rfl, obj_cell h' 3 rfl, obj_cell h' 4 rfl, obj_cell h' 5 rfl⟩, obj_frozen h 1,
    obj_frozen h' 0, obj_frozen h' 1, obj_frozen h' 2, obj_frozen h' 3, obj_frozen h' 4, obj_frozen h' 5⟩

set_option maxRecDepth 100000 in
set_option maxHeartbeats 2000000 in
theorem lentProd_any (u : Value) (p : Prd) (w : World) (hu : IsPrd w u p) :
    Calls Try.prog 75 #[u] w fun e w' => ∃ a cap, e = .returned (.agg #[.int .i64 p.left, .slice a p.right.length cap, .int .i64 p.prec, .bool p.has, .string p.action, .int .i64 p.whr]) ∧ Lent w' w.heap.size (.slice a p.right.length cap) p.right ∧ Below w.heap.size w w' := by
  obtain ⟨_, ra, hra, rfl⟩ := hu
  have ha := hra
  obtain ⟨_, _, a, ac, rfl, _⟩ := hra
  obtain ⟨left, right, prec, has, action, whr⟩ := p
  simp only at ha
  unfold prdVal
  simp only
  have HL := Lib.hid fun (x : World) (hx : Fr nothing w x) => lentInts_any _ right x (ha.fr hx)
  clear ha
  go_enter Try.func75, Try.ntmps75
  have hx := two_boxes w (.cells #[.int .i64 left, .slice a right.length ac, .int .i64 prec, .bool has, .string action, .int .i64 whr] 46 (0, 0)) (.cells #[.int .i64 0, .slice none 0 0, .int .i64 0, .bool false, .string ⟨#[]⟩, .int .i64 0] 46 (0, 0))
  obtain ⟨w1, hw1⟩ : ∃ w1, w1 = (w.alloc (.cells #[.int .i64 left, .slice a right.length ac, .int .i64 prec, .bool has, .string action, .int .i64 whr] 46 (0, 0))).alloc (.cells #[.int .i64 0, .slice none 0 0, .int .i64 0, .bool false, .string ⟨#[]⟩, .int .i64 0] 46 (0, 0)) := ⟨_, rfl⟩
  rw [← hw1] at hx
  obtain ⟨o0, o1, hB1⟩ := hx
  have z1 : w1.cell? ⟨w.heap.size, 1, none⟩ = some (.slice a right.length ac) := obj_cell o0 1 rfl
  have HL1 := Lib.hid (HL.out w1 (Fr.new hB1))
  have HW := Lib.hid hw1
  have HO := Lib.hid (And.intro o0 (And.intro o1 hB1))
  clear HL hw1 hB1 o0 o1
  go_upto_region 1 with fail
  rw [← HW.out]
  go_wp2_with (go_at_call 21; refine HL1.out.mono ?_; rintro e w' ⟨b, bc, rfl, hl, hb⟩; obtain ⟨⟨c0, c1, c2, c3, c4, c5⟩, ⟨d0, d1, d2, d3, d4, d5⟩, f1, ⟨e0, e1, e2, e3, e4, e5⟩⟩ := prod_boxes ((Fr.new hb).obj HO.out.1 fun e => e) ((Fr.new hb).obj HO.out.2.1 fun e => e))
  refine at_world (Q := bodyPost _ _ _ _ _) (F := fun W => (W.cell? ⟨w.heap.size + 1, 0, none⟩ = some (.int .i64 left) ∧ W.cell? ⟨w.heap.size + 1, 1, none⟩ = some (.slice b right.length bc) ∧ W.cell? ⟨w.heap.size + 1, 2, none⟩ = some (.int .i64 prec) ∧
      W.cell? ⟨w.heap.size + 1, 3, none⟩ = some (.bool has) ∧ W.cell? ⟨w.heap.size + 1, 4, none⟩ = some (.string action) ∧ W.cell? ⟨w.heap.size + 1, 5, none⟩ = some (.int .i64 whr)) ∧ Fr (fun k => k = w.heap.size ∨ k = w.heap.size + 1) w' W) ?_ ?_
  · refine ⟨⟨?_, ?_, ?_, ?_, ?_, ?_⟩, ?_⟩
    · simp [go_sem, d0]
    · simp [go_sem, d1]
    · simp [go_sem, d2]
    · simp [go_sem, d3]
    · simp [go_sem, d4]
    · simp [go_sem, d5]
    · repeat (first | with_reducible exact Fr.refl _ _ | refine Fr.trans ?_ (Fr.setCell' _ _ (by first | exact .inl rfl | exact .inr rfl)))
  · rintro W ⟨⟨x0, x1, x2, x3, x4, x5⟩, hf⟩
    refine bodyPost_ret (by simp [results, Try.results75, go_sem, x0, x1, x2, x3, x4, x5]; try rfl) rfl ?_
    have hs := HO.out.2.2.size
    have hw1s : w.heap.size + 1 < w1.heap.size := (Array.getElem?_eq_some_iff.1 HO.out.2.1).1
    refine ⟨b, bc, rfl, (hl.fr hf fun g hg => by omega).mono hs, (HO.out.2.2.trans (hb.mono hs)).trans (hf.below (Nat.le_trans hs hb.size) fun k hk => by omega)⟩
end Go.Proofs.Ytpnihegmhalcfaa
