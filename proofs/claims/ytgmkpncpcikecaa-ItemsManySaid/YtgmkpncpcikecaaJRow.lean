/-
  Chapter 19: grammars whose sentences are rows, plain.
  Chapter 19: rows' kit: lists that a call has made are symbols, productions, numbers.
  Chapter 19: row, the walk.
  ItemsMany: the walk.
-/
import Derived.Test.YtgmkpncpcikecaaJtP
import Derived.Test.YtgmkpncpcikecaaItJ
import Derived.Laws.BytesArg
import Derived.Deep.AppendLies
import Derived.Test.YtgmkpncpcikecaaJnC
import Derived.Test.YtgmkpncpcikecaaJtT
namespace Go.Proofs.Ytgmkpncpcikecaa
set_option maxHeartbeats 400000

def chB (i : Nat) : ByteArray := ⟨#[UInt8.ofNat (97 + i)]⟩
def rowName (i : Nat) : ByteArray := ⟨#[114]⟩ ++ chB i
/-- The productions and symbols of a row's rules, from rule i on. -/
def rowGo : Nat → Nat → Nat → Nat → List Sym → List Prd → List Sym × List Prd
  | 0, _, _, _, ss, ps => (ss, ps)
  | f + 1, i, n, m, ss, ps =>
    if n = 0 ∧ m = 0 then (ss, ps) else
      let more := decide (9 < n) || decide (9 < m)
      let p := plP (4 + (i : Int)) (List.replicate (min 9 n) 1 ++ if more then [5 + (i : Int)] else [])
      let q := plP (4 + (i : Int)) (List.replicate (min 9 m) 2)
      rowGo f (i + 1) (n - 9) (m - 9) (if more then ss ++ [plS (rowName i)] else ss) (if m = 0 then ps ++ [p] else ps ++ [p, q])
def row0S : List Sym := [plS ⟨#[36, 101, 110, 100]⟩, plS ⟨#[97]⟩, plS ⟨#[98]⟩, plS ⟨#[36, 97, 99, 99, 101, 112, 116]⟩, plS ⟨#[114, 48]⟩]
def rowG (n m : Nat) : Gram := let r := rowGo (n + m) 0 n m row0S [plP 3 [4]]; ⟨3, r.1, r.2⟩
theorem row121_right : rightG (rowG 121 121) = true := by kernel_rfl
theorem row121_none : (colI (rowG 121 121)).isNone = true := by kernel_rfl
end Go.Proofs.Ytgmkpncpcikecaa
namespace Go.Proofs.Ytgmkpncpcikecaa
open Go.RowKit Go.MapKept Go.ChangeMaps
set_option maxHeartbeats 400000

theorem own_cells {w : World} {B : Nat} {e : TypeId} {size : Nat} {v : Value} {n : Nat} {xs : List Value} (h : w.ownsRow B e size v n xs) :
    ∃ a cap, v = .slice a n cap ∧ n ≤ cap ∧ cap ≤ maxLen ∧ (xs = [] ∨ ∃ g, a = some ⟨g, 0, none⟩ ∧ B ≤ g ∧ Cells w g 0 xs) := by
  obtain ⟨h1, h2⟩ := h
  rcases h2 with ⟨rfl, rfl⟩ | ⟨g, cap, cur, rfl, hb, hg, r1, r2, r3, r4⟩
  · exact ⟨none, 0, rfl, Nat.le_refl _, by unfold maxLen; omega, .inl (List.eq_nil_of_length_eq_zero (by simpa using h1))⟩
  · refine ⟨_, cap, rfl, r1, r2, .inr ⟨g, rfl, hb, fun i hi => ?_⟩⟩
    have e1 : xs[i]? = cur.toList[i]? := by rw [← r4, List.getElem?_take, if_pos (by omega)]
    simp only [World.cell?, hg, Nat.zero_add]
    rw [List.getElem?_eq_getElem hi] at e1
    simpa using e1.symm
theorem flat_len {α β : Type} (f : α → List β) (m : Nat) (hf : ∀ x, (f x).length = m) : ∀ l : List α, (l.flatMap f).length = l.length * m
  | [] => by simp
  | a :: l => by rw [List.flatMap_cons, List.length_append, hf, flat_len f m hf l, List.length_cons, Nat.add_mul]; omega
theorem flat_cells {α : Type} {w : World} {b o : Nat} {l : List α} {f : α → List Value} {m : Nat} (hf : ∀ x, (f x).length = m) (h : Cells w b o (l.flatMap f)) (i : Nat) (hi : i < l.length) : Cells w b (o + i * m) (f l[i]) := fun j hj => by
  have hj' : j < m := by rw [hf] at hj; exact hj
  have h2 := flat_get f m hf l i j hi hj'
  have hb : i * m + j < (l.flatMap f).length := by
    rw [flat_len f m hf]
    have : (i + 1) * m ≤ l.length * m := Nat.mul_le_mul_right m hi
    rw [Nat.add_mul] at this
    omega
  rw [List.getElem?_eq_getElem hb, List.getElem?_eq_getElem hj] at h2
  simp only [Option.some.injEq] at h2
  have h1 := h _ hb
  rw [h2] at h1
  rw [Nat.add_assoc]
  exact h1
theorem Try.infoSym : (Try.prog.info? 53).map (fun i => (i.zero, i.size, i.bytes)) = some (some (.agg #[.string ⟨#[]⟩, .string ⟨#[]⟩, .int .i64 0, .int .u8 0]), 4, 48) := by kernel_rfl
def cellsP (x : Prd × Value) : List Value := prdCells x.1 x.2
theorem obj_frozen {w : World} {b : Nat} {cs : Array Value} {t : TypeId} (h : w.heap[b]? = some (.cells cs t (0, 0))) (i : Nat) : w.frozen? ⟨b, i, none⟩ = false := by
  simp only [World.frozen?, h]
  simp
theorem cells_new (w : World) (vs : List Value) (cs : Array Value) (hcs : cs = vs.toArray) (t : TypeId) (z : Nat × Nat) : Cells (w.alloc (.cells cs t z)) w.heap.size 0 vs := fun i hi => by
  have := alloc_obj w (.cells cs t z)
  refine obj_cell this (0 + i) ?_
  rw [hcs]
  simp [hi]
theorem cells_new_at {w : World} {k : Nat} (h : w.heap.size = k) (vs : List Value) (cs : Array Value) (hcs : cs = vs.toArray) (t : TypeId) (z : Nat × Nat) : Cells (w.alloc (.cells cs t z)) k 0 vs := h ▸ cells_new w vs cs hcs t z
theorem Try.infoPrd : (Try.prog.info? 48).map (fun i => (i.zero, i.size, i.bytes)) = some (some (.agg #[.int .i64 0, .slice none 0 0, .int .i64 0, .bool false, .string ⟨#[]⟩, .int .i64 0]), 6, 72) := by kernel_rfl
theorem own_ints {w : World} {B : Nat} {v : Value} {xs : List Int} (h : w.ownsRow B 3 1 v xs.length (xs.map (Value.int .i64))) (hx : ∀ x ∈ xs, -9223372036854775808 ≤ x ∧ x ≤ 9223372036854775807) (hl : xs.length ≤ 17592186044416) : Ints w v xs := by
  obtain ⟨a, cap, rfl, h1, h2, h3⟩ := own_cells h
  refine ⟨hx, hl, a, cap, rfl, h1, h2, ?_⟩
  rcases h3 with h3 | ⟨g, rfl, _, hc⟩
  · exact .inl (List.map_eq_nil_iff.1 h3)
  · exact .inr ⟨g, 0, rfl, hc⟩
theorem own_syms {w : World} {B : Nat} {v : Value} {l : List Sym} (h : w.ownsRow B 53 4 v l.length (l.flatMap symCells)) (hx : ∀ x ∈ l, SymOk x) (hl : l.length ≤ 17592186044416) : IsSyms w v l := by
  obtain ⟨a, cap, rfl, h1, h2, h3⟩ := own_cells h
  refine ⟨hl, a, cap, rfl, h1, h2, ?_⟩
  rcases h3 with h3 | ⟨g, rfl, _, hc⟩
  · left
    have := flat_len symCells 4 (fun _ => rfl) l
    rw [h3] at this
    exact List.eq_nil_of_length_eq_zero (by simp at this; omega)
  · exact .inr ⟨g, 0, rfl, fun i hi => ⟨hx _ (List.getElem_mem hi), flat_cells (m := 4) (fun _ => rfl) hc i hi⟩⟩
theorem own_prds {w : World} {B : Nat} {v : Value} {xs : List (Prd × Value)} (h : w.ownsRow B 48 6 v xs.length (xs.flatMap cellsP)) (hx : ∀ x ∈ xs, PrdOk x.1 ∧ Ints w x.2 x.1.right) (hl : xs.length ≤ 17592186044416) : IsPrds w v (xs.map Prod.fst) := by
  obtain ⟨a, cap, rfl, h1, h2, h3⟩ := own_cells h
  refine ⟨by rw [List.length_map]; exact hl, a, cap, by rw [List.length_map], by rw [List.length_map]; exact h1, h2, ?_⟩
  rcases h3 with h3 | ⟨g, rfl, _, hc⟩
  · left
    have := flat_len cellsP 6 (fun _ => rfl) xs
    rw [h3] at this
    rw [List.map_eq_nil_iff]
    exact List.eq_nil_of_length_eq_zero (by simp at this; omega)
  · refine .inr ⟨g, 0, rfl, fun i hi => ?_⟩
    have hi' : i < xs.length := by simpa using hi
    have hc' := flat_cells (m := 6) (fun _ => rfl) hc i hi'
    have hx' := hx _ (List.getElem_mem hi')
    simp only [List.getElem_map]
    exact ⟨hx'.1, xs[i].2, hx'.2, hc'⟩
theorem own_ne {w : World} {B e size n b : Nat} {v : Value} {xs : List Value} {cs : Array Value} {t : TypeId} {f : Nat × Nat} (h : w.ownsRow B e size v n xs) (hb : w.heap[b]? = some (.cells cs t f)) (hne : e ≠ t) : v.ownBlock ≠ some b := fun hv => by
  obtain ⟨_, h2⟩ := h
  rcases h2 with ⟨rfl, _⟩ | ⟨g, cap, cur, rfl, _, hg, _⟩
  · cases hv
  · simp only [Value.ownBlock, Option.some.injEq] at hv
    subst hv
    rw [hb] at hg
    simp only [Option.some.injEq, Obj.cells.injEq] at hg
    exact hne hg.2.1.symm
theorem own_apart {w : World} {B e size n B' e' size' n' : Nat} {v v' : Value} {xs xs' : List Value} (h : w.ownsRow B e size v n xs) (h' : w.ownsRow B' e' size' v' n' xs') (hne : e ≠ e') : ∀ g, v.ownBlock = some g → v'.ownBlock = some g → False := fun g hv hv' => by
  obtain ⟨_, h2⟩ := h'
  rcases h2 with ⟨rfl, _⟩ | ⟨g', cap, cur, rfl, _, hg, _⟩
  · cases hv'
  · simp only [Value.ownBlock, Option.some.injEq] at hv'
    subst hv'
    exact own_ne h hg hne hv
theorem own_laid {w : World} {B e size g n : Nat} {cs : Array Value} (hg : w.heap[g]? = some (.cells cs e (0, 0))) (hb : B ≤ g) (hs : cs.size = n * size) (hn : n ≤ maxLen) : w.ownsRow B e size (.slice (some ⟨g, 0, none⟩) n n) n cs.toList :=
  ⟨by simpa using hs, .inr ⟨g, n, cs, rfl, hb, hg, Nat.le_refl _, hn, hs, by rw [List.take_of_length_le (by simp; omega)]⟩⟩

def zBoxR : Obj := .cells #[.int .i64 0, .slice none 0 0, .slice none 0 0] 25 (0, 0)
def gBoxR (s p : Value) : Obj := .cells #[.int .i64 3, s, p] 25 (0, 0)
def pBoxR (l : Int) (v : Value) : Obj := .cells #[.int .i64 l, v, .int .i64 (-1), .bool false, .string ⟨#[]⟩, .int .i64 0] 48 (0, 0)
/-- What stands while a row's grammar is made. -/
structure MkR (w wr : World) (sv pv : Value) (ss : List Sym) (xs : List (Prd × Value)) : Prop where
  z : wr.heap[w.heap.size]? = some zBoxR
  g : wr.heap[w.heap.size + 4]? = some (gBoxR sv pv)
  s : wr.ownsRow w.heap.size 53 4 sv ss.length (ss.flatMap symCells)
  p : wr.ownsRow w.heap.size 48 6 pv xs.length (xs.flatMap cellsP)
  r : ∀ x ∈ xs, wr.ownsRow w.heap.size 3 1 x.2 x.1.right.length (x.1.right.map (Value.int .i64))
  b : Below w.heap.size w wr
theorem MkR.fr {w wr wq : World} {sv pv : Value} {ss : List Sym} {xs : List (Prd × Value)} (h : MkR w wr sv pv ss xs) (k : Below wr.heap.size wr wq) : MkR w wq sv pv ss xs :=
  ⟨(Fr.new k).obj h.z id, (Fr.new k).obj h.g id, own_fr h.s (Fr.new k) fun _ _ => id, own_fr h.p (Fr.new k) fun _ _ => id, fun x hx => own_fr (h.r x hx) (Fr.new k) fun _ _ => id, h.b.trans (k.mono h.b.size)⟩
/-- A production has been laid behind the others. -/
theorem MkR.prod {w W w2 : World} {sv pv v2 : Value} {ss : List Sym} {xs : List (Prd × Value)} (h : MkR w W sv pv ss xs) {x : Prd × Value} (hr : W.ownsRow w.heap.size 3 1 x.2 x.1.right.length (x.1.right.map (Value.int .i64)))
    (hF : Fr (fun g => pv.ownBlock = some g) W w2) (hown : w2.ownsRow w.heap.size 48 6 v2 (xs.length + 1) (xs.flatMap cellsP ++ cellsP x)) :
    MkR w (w2.setCell ⟨w.heap.size + 4, 2, none⟩ v2) sv v2 ss (xs ++ [x]) ∧ Fr (fun g => pv.ownBlock = some g ∨ g = w.heap.size + 4) W (w2.setCell ⟨w.heap.size + 4, 2, none⟩ v2) := by
  have hg2 := hF.obj h.g fun e => own_ne h.p h.g (by decide) e
  have hz2 := hF.obj h.z fun e => own_ne h.p h.z (by decide) e
  have hS := Fr.setCell w2 ⟨w.heap.size + 4, 2, none⟩ v2
  have hFA : Fr (fun g => pv.ownBlock = some g ∨ g = w.heap.size + 4) W (w2.setCell ⟨w.heap.size + 4, 2, none⟩ v2) := (hF.mono fun _ _ e => .inl e).trans (hS.mono fun _ _ e => .inr e)
  have keep : ∀ {B' e size n : Nat} {v : Value} {vs : List Value}, W.ownsRow B' e size v n vs → e ≠ 48 → e ≠ 25 → (w2.setCell ⟨w.heap.size + 4, 2, none⟩ v2).ownsRow B' e size v n vs := fun hv h1 h2 => own_fr hv hFA fun q hq hc => by
    rcases hc with hc | hc
    · exact own_apart hv h.p h1 q hq hc
    · exact own_ne hv h.g h2 (hq.trans (congrArg some hc))
  refine ⟨⟨hS.obj hz2 (fun e => by have e' : w.heap.size = w.heap.size + 4 := e; omega), setCell_obj hg2 _, keep h.s (by decide) (by decide), ?_, fun y hy => ?_, ?_⟩, hFA⟩
  · rw [List.length_append, List.flatMap_append]
    have h1 := own_fr hown hS fun q hq e => own_ne hown hg2 (by decide) (hq.trans (congrArg some (show q = w.heap.size + 4 from e)))
    simpa using h1
  · rcases List.mem_append.1 hy with hy | hy
    · exact keep (h.r y hy) (by decide) (by decide)
    · rw [List.mem_singleton.1 hy]
      exact keep hr (by decide) (by decide)
  · exact h.b.trans (hFA.below h.b.size fun g e => by
      rcases e with e | e
      · exact (ownObj h.p g e).1
      · omega)
/-- A symbol has been laid behind the others. -/
theorem MkR.sym {w W w2 : World} {sv pv v2 : Value} {ss : List Sym} {xs : List (Prd × Value)} (h : MkR w W sv pv ss xs) {x : Sym}
    (hF : Fr (fun g => sv.ownBlock = some g) W w2) (hown : w2.ownsRow w.heap.size 53 4 v2 (ss.length + 1) (ss.flatMap symCells ++ symCells x)) :
    MkR w (w2.setCell ⟨w.heap.size + 4, 1, none⟩ v2) v2 pv (ss ++ [x]) xs ∧ Fr (fun g => sv.ownBlock = some g ∨ g = w.heap.size + 4) W (w2.setCell ⟨w.heap.size + 4, 1, none⟩ v2) := by
  have hg2 := hF.obj h.g fun e => own_ne h.s h.g (by decide) e
  have hz2 := hF.obj h.z fun e => own_ne h.s h.z (by decide) e
  have hS := Fr.setCell w2 ⟨w.heap.size + 4, 1, none⟩ v2
  have hFA : Fr (fun g => sv.ownBlock = some g ∨ g = w.heap.size + 4) W (w2.setCell ⟨w.heap.size + 4, 1, none⟩ v2) := (hF.mono fun _ _ e => .inl e).trans (hS.mono fun _ _ e => .inr e)
  have keep : ∀ {B' e size n : Nat} {v : Value} {vs : List Value}, W.ownsRow B' e size v n vs → e ≠ 53 → e ≠ 25 → (w2.setCell ⟨w.heap.size + 4, 1, none⟩ v2).ownsRow B' e size v n vs := fun hv h1 h2 => own_fr hv hFA fun q hq hc => by
    rcases hc with hc | hc
    · exact own_apart hv h.s h1 q hq hc
    · exact own_ne hv h.g h2 (hq.trans (congrArg some hc))
  refine ⟨⟨hS.obj hz2 (fun e => by have e' : w.heap.size = w.heap.size + 4 := e; omega), setCell_obj hg2 _, ?_, keep h.p (by decide) (by decide), fun y hy => keep (h.r y hy) (by decide) (by decide), ?_⟩, hFA⟩
  · rw [List.length_append, List.flatMap_append]
    have h1 := own_fr hown hS fun q hq e => own_ne hown hg2 (by decide) (hq.trans (congrArg some (show q = w.heap.size + 4 from e)))
    simpa using h1
  · exact h.b.trans (hFA.below h.b.size fun g e => by
      rcases e with e | e
      · exact (ownObj h.s g e).1
      · omega)
theorem one_conv (k : Nat) (hk : k ≤ 100) (w : World) : (convert 54 9 (.slice (some ⟨w.heap.size, 0, none⟩) 1 1)).run Try.prog (w.alloc (.cells #[.int .u8 (97 + (k : Int))] 5)) =
    .ok (.string (chB k)) (w.alloc (.cells #[.int .u8 (97 + (k : Int))] 5)) := by
  have h := run_convert_bytes_arg (P := Try.prog) (w.alloc (.cells #[.int .u8 (97 + (k : Int))] 5)) 54 5 Try.underlying54 Try.underlying5 w.heap.size 0 1 1 [97 + (k : Int)] rfl
    (fun i hi => by
      have ho := alloc_obj w (.cells #[.int .u8 (97 + (k : Int))] 5)
      rcases i with _ | i
      · exact obj_cell ho 0 rfl
      · omega) 9 Try.underlying9
  have e : strOfNums [97 + (k : Int)] = chB k := by
    have h1 : (97 + (k : Int)).toNat = 97 + k := by omega
    simp only [strOfNums, chB, List.map_cons, List.map_nil, h1]
  rw [e] at h
  exact h
end Go.Proofs.Ytgmkpncpcikecaa
namespace Go.Proofs.Ytgmkpncpcikecaa
open Go.RowKit Go.MapKept Go.ChangeMaps
set_option maxHeartbeats 400000

theorem Try.infoIntR : (Try.prog.info? 3).map (fun i => (i.zero, i.size, i.bytes)) = some (some (.int .i64 0), 1, 8) := by kernel_rfl
theorem at_world19 {Q : World → Prop} {w : World} (F : World → Prop) (hF : F w) (h : ∀ W, F W → Q W) : Q w := h w hF
def row0P : Prd := plP 3 [4]
theorem rowGo_zero (f i : Nat) (ss : List Sym) (ps : List Prd) : rowGo f i 0 0 ss ps = (ss, ps) := by
  cases f <;> simp [rowGo]
theorem rowGo_step {f i n : Nat} (hn : 0 < n) (ss : List Sym) (ps : List Prd) : rowGo (f + 1) i n n ss ps = rowGo f (i + 1) (n - 9) (n - 9) (if 9 < n then ss ++ [plS (rowName i)] else ss) (ps ++ [plP (4 + (i : Int)) (List.replicate (min 9 n) 1 ++ if 9 < n then [5 + (i : Int)] else []), plP (4 + (i : Int)) (List.replicate (min 9 n) 2)]) := by
  conv => lhs; unfold rowGo
  have h0 : ¬ (n = 0 ∧ n = 0) := by omega
  have h1 : ¬ n = 0 := by omega
  rw [if_neg h0]
  by_cases h : 9 < n <;> simp [h, h1]
theorem rep_snoc (k : Nat) (x : Int) : (List.replicate (k + 1) x).map (Value.int .i64) = (List.replicate k x).map (Value.int .i64) ++ [.int .i64 x] := by
  rw [List.replicate_succ', List.map_append]
  rfl

set_option maxRecDepth 100000 in
set_option maxHeartbeats 8000000 in
theorem row_any (n : Nat) (hn : n ≤ 130) (w : World) :
    Calls Try.prog 6 #[.int .i64 n, .int .i64 n] w fun e w' => ∃ v, e = .returned v ∧ IsGram w' v (rowG n n) ∧ Below w.heap.size w w' := by
  obtain ⟨i0, hi, hz0, hz1, hz2⟩ := info_parts Try.infoSym
  obtain ⟨j0, hj, jz0, jz1, jz2⟩ := info_parts Try.infoPrd
  obtain ⟨q0, hq, qz0, qz1, qz2⟩ := info_parts Try.infoIntR
  have hsz : ∀ (w : World) o, (w.alloc o).heap.size = w.heap.size + 1 := fun _ _ => by simp
  go_enter Try.func6, Try.ntmps6
  go_upto_region 2 with fail
  refine wp_at (F := fun W => MkR w W (.slice (some ⟨w.heap.size + 1, 0, none⟩) 5 5) (.slice (some ⟨w.heap.size + 3, 0, none⟩) 1 1) row0S [(row0P, .slice (some ⟨w.heap.size + 2, 0, none⟩) 1 1)]) ?_ ?_
  · refine ⟨alloc_older (alloc_older (alloc_older (alloc_older (alloc_obj _ _)))), ?_, ?_, ?_, fun x hx => ?_, ?_⟩
    · exact alloc_at (by simp)
    · exact own_laid (n := 5) (alloc_older (alloc_older (alloc_older (alloc_at (by simp))))) (by omega) rfl (by unfold maxLen; omega)
    · exact own_laid (n := 1) (alloc_older (alloc_at (by simp))) (by omega) rfl (by unfold maxLen; omega)
    · rw [List.mem_singleton.1 hx]
      exact own_laid (n := 1) (alloc_older (alloc_older (alloc_at (by simp)))) (by omega) rfl (by unfold maxLen; omega)
    · repeat (first | exact Below.refl _ _ | refine below_alloc ?_)
  intro W0 hM0
  have HM0 := Lib.hid hM0
  clear hM0
  obtain ⟨R, hR⟩ : ∃ R, rowGo (n + n) 0 n n row0S [row0P] = R := ⟨_, rfl⟩
  have HR := Lib.hid hR
  clear hR
  go_wp2
  go_loopw [0, 1, 6, 7, 8, 9, 10] (fun a b i _ _ _ _ wr => ∃ (n' i' f : Nat) (sv pv : Value) (ss : List Sym) (xs : List (Prd × Value)), a = .int .i64 (n' : Int) ∧ b = .int .i64 (n' : Int) ∧ i = .int .i64 (i' : Int) ∧ n' + 9 * i' ≤ 139 ∧ (0 < n' → n' + 9 * i' ≤ 130) ∧ n' + n' ≤ f ∧ rowGo f i' n' n' ss (xs.map Prod.fst) = R ∧ ss.length ≤ 5 + i' ∧ xs.length ≤ 1 + 2 * i' ∧ (∀ s ∈ ss, SymOk s) ∧ (∀ x ∈ xs, PrdOk x.1 ∧ x.1.right.length ≤ 10 ∧ ∀ y ∈ x.1.right, 0 ≤ y ∧ y ≤ 1000) ∧ MkR w wr sv pv ss xs) (fun a _ _ _ _ _ _ _ => (intOf a).toNat)
  case atStart => exact ⟨n, 0, n + n, _, _, row0S, [(row0P, .slice (some ⟨w.heap.size + 2, 0, none⟩) 1 1)], rfl, rfl, rfl, by omega, fun _ => by omega, Nat.le_refl _, HR.out, Nat.le_refl _, Nat.le_refl _, fun s hs => by
    simp only [row0S, List.mem_cons, List.not_mem_nil, or_false] at hs
    rcases hs with rfl | rfl | rfl | rfl | rfl <;> exact plS_ok _, fun x hx => by
    rw [List.mem_singleton.1 hx]
    exact ⟨plP_ok (by unfold i64; decide), Nat.le_of_ble_eq_true rfl, fun y hy => by simp only [row0P, plP, List.mem_singleton] at hy; omega⟩, HM0.out⟩
  case round =>
    obtain ⟨n', i, f, sv, pv, ss, xs, rfl, rfl, rfl, hni, hni0, hf, hgo, hsl, hxl, hso, hxo, hM⟩ := hrel
    have HM := Lib.hid (And.intro hM (And.intro hgo (And.intro hso hxo)))
    by_cases hend : n' = 0
    · subst hend
      rw [rowGo_zero] at hgo
      have hG : rowG n n = ⟨3, ss, xs.map Prod.fst⟩ := by
        have h := HR.out
        rw [← hgo] at h
        unfold rowG
        simp only
        rw [show [plP 3 [4]] = [row0P] from rfl, h]
      have HG := Lib.hid hG
      obtain ⟨sa, sc, rfl, -⟩ := own_cells hM.s
      obtain ⟨pa, pc, rfl, -⟩ := own_cells hM.p
      have g0 := obj_cell hM.g 0 (v := .int .i64 3) rfl
      have g1 := obj_cell hM.g 1 (v := .slice sa ss.length sc) rfl
      have g2 := obj_cell hM.g 2 (v := .slice pa xs.length pc) rfl
      have z0 := obj_cell hM.z 0 (v := .int .i64 0) rfl
      have z1 := obj_cell hM.z 1 (v := .slice none 0 0) rfl
      have z2 := obj_cell hM.z 2 (v := .slice none 0 0) rfl
      have fz0 := obj_frozen hM.z 0
      have fz1 := obj_frozen hM.z 1
      have fz2 := obj_frozen hM.z 2
      have hzz := hM.z
      have hMb := hM.b
      have hi15 : i ≤ 15 := by omega
      clear hM hgo hso hxo hG hni hni0
      go_wp2
      refine at_world19 (Q := bodyPost _ _ _ _ _) (F := fun Y => (Y.cell? ⟨w.heap.size, 0, none⟩ = some (.int .i64 3) ∧ Y.cell? ⟨w.heap.size, 1, none⟩ = some (.slice sa ss.length sc) ∧ Y.cell? ⟨w.heap.size, 2, none⟩ = some (.slice pa xs.length pc)) ∧ Fr (only w.heap.size) wr Y) ?_ ?_
      · refine ⟨⟨?_, ?_, ?_⟩, ?_⟩
        · simp [go_sem, z0]
        · simp [go_sem, z1]
        · simp [go_sem, z2]
        · repeat (first | with_reducible exact Fr.refl _ _ | refine Fr.trans ?_ (Fr.setCell' _ _ rfl))
      · rintro Y ⟨⟨r0, r1, r2⟩, hF⟩
        refine bodyPost_ret (by simp [results, Try.results6, go_sem, r0, r1, r2]; try rfl) rfl ?_
        obtain ⟨hM, hgo, hso, hxo⟩ := HM.out
        have hno : ∀ {B' e size n : Nat} {v : Value} {vs : List Value}, wr.ownsRow B' e size v n vs → e ≠ 25 → Y.ownsRow B' e size v n vs := fun hv h1 => own_fr hv hF fun q hq hc => own_ne hv hM.z h1 (hq.trans (congrArg some hc))
        refine ⟨_, rfl, ⟨show i64 (rowG n n).terms from ?_, .slice sa ss.length sc, .slice pa xs.length pc, ?_, ?_, ?_⟩, hM.b.trans (hF.below hM.b.size fun g e => Nat.le_of_eq (show g = w.heap.size from e).symm)⟩
        · rw [HG.out]; show i64 3; unfold i64; decide
        · rw [HG.out]
        · rw [HG.out]
          exact own_syms (hno hM.s (by decide)) hso (by show ss.length ≤ _; omega)
        · rw [HG.out]
          refine own_prds (hno hM.p (by decide)) (fun x hx => ⟨(hxo x hx).1, own_ints (hno (hM.r x hx) (by decide)) (fun y hy => by have := (hxo x hx).2.2 y hy; omega) (by have := (hxo x hx).2.1; omega)⟩) (by omega)
    · have hn0 : 0 < n' := by omega
      have hi15 : i ≤ 15 := by have := hni0 hn0; omega
      have hn13 : n' ≤ 130 := by have := hni0 hn0; omega
      have hni1 := hni0 hn0
      have hxl2 := hxl
      have hbs := hM.b.size
      have hBA : w.heap.size + 4 < wr.heap.size := (Array.getElem?_eq_some_iff.1 hM.g).1
      obtain ⟨sa, sc, rfl, -⟩ := own_cells hM.s
      obtain ⟨pa, pc, rfl, -⟩ := own_cells hM.p
      have HF := Lib.hid (And.intro hf hni)
      clear hM hgo hso hxo hni hni0 hf hend
      generalize wr = WA at *
      go_upto_region 7 with fail
      refine wp_at (F := fun W => W.heap[WA.heap.size]? = some (pBoxR (4 + (i : Int)) (.slice none 0 0)) ∧ W.heap[WA.heap.size + 1]? = some (pBoxR (4 + (i : Int)) (.slice none 0 0)) ∧ Below WA.heap.size WA W) ⟨alloc_older (alloc_obj _ _), alloc_at (by simp), by repeat (first | exact Below.refl _ _ | refine below_alloc ?_)⟩ ?_
      intro W1 ⟨hp1, hp2, hb1⟩
      have H1 := Lib.hid (And.intro hp1 (And.intro hp2 hb1))
      clear hp1 hp2 hb1
      generalize hA : WA.heap.size = A at *
      have HA := Lib.hid hA
      clear hA
      obtain ⟨l, hl⟩ : ∃ l, l = 4 + (i : Int) := ⟨_, rfl⟩
      rw [← hl] at H1
      have HL := Lib.hid hl
      clear hl
      by_cases h9 : 9 ≤ n'
      · go_wp2
        go_loopw [0, 9] (fun a kk wq => ∃ (k r : Nat) (v : Value), k ≤ 9 ∧ k + r = n' ∧ a = .int .i64 (r : Int) ∧ kk = .int .i64 (k : Int) ∧ wq.heap[A]? = some (pBoxR l v) ∧ wq.ownsRow A 3 1 v k ((List.replicate k (1 : Int)).map (Value.int .i64)) ∧ wq.heap[A + 1]? = some (pBoxR l (.slice none 0 0)) ∧ Below A WA wq) (fun _ kk _ => 9 - (intOf kk).toNat)
        case atStart => exact ⟨0, n', _, by omega, by omega, rfl, rfl, H1.out.1, World.ownsRow_nil _ _ _ _, H1.out.2.1, H1.out.2.2⟩
        case round =>
          obtain ⟨k, r, v, hk9, hkr, rfl, rfl, hpb, hown, hqb, hb⟩ := hrel
          obtain ⟨va, vc, rfl, -⟩ := own_cells hown
          by_cases hgo : k < 9 ∧ 0 < r
          · obtain ⟨hk, hr⟩ := hgo
            have c1 := obj_cell hpb 1 (v := .slice va k vc) rfl
            have fp := obj_frozen hpb 1
            have hsB : A ≤ wr.heap.size := by have := hb.size; rw [HA.out] at this; exact this
            have HP := Lib.hid (And.intro hpb (And.intro hown (And.intro hqb hb)))
            clear hpb hown hqb hb
            have t1 : decide (k < 9) = true := decide_eq_true hk
            have t2 : decide (0 < r) = true := decide_eq_true hr
            go_wp2_with (at_builtin; refine wpList_append_any rfl _ _ 46 rfl A 3 q0 _ 1 8 Try.underlying46 hq qz0 qz1 qz2 (by rfl) (by decide) (.slice va k vc) k _ (by rfl) (HP.out.2.1.alloc _) (some ⟨wr.heap.size, 0, none⟩) 1 1 [.int .i64 1] (by rfl) (by rfl) (.inr ⟨_, rfl, cells_add (cells_new _ _ _ rfl _ _)⟩) (by simp [Value.oneCell']) (by unfold maxLen; omega) (by omega) (by simp; omega) ?_
                         intro v2 w2 hown2 hgrow2
                         obtain ⟨v2a, v2c, rfl, -⟩ := own_cells hown2
                         have hF2 : Fr (fun g => (Value.slice va k vc).ownBlock = some g) wr w2 := (Fr.alloc _ _).trans (Fr.grown hgrow2)
                         have hp2 := hF2.obj HP.out.1 (fun e => own_ne HP.out.2.1 HP.out.1 (by decide) e)
                         have d1 := obj_cell hp2 1 (v := .slice va k vc) rfl
                         have fp2 := obj_frozen hp2 1
                         have HF2 := Lib.hid (And.intro hF2 hp2)
                         clear hF2 hp2)
            go_roundw
            case rel =>
              have hS := Fr.setCell w2 ⟨A, 1, none⟩ (.slice v2a (k + 1) v2c)
              have hF : Fr (from_ A) wr (w2.setCell ⟨A, 1, none⟩ (.slice v2a (k + 1) v2c)) := (HF2.out.1.mono fun g _ e => (ownObj HP.out.2.1 g e).1).trans (hS.mono fun g _ e => Nat.le_of_eq (show g = A from e).symm)
              refine ⟨k + 1, r - 1, .slice v2a (k + 1) v2c, by omega, by omega, by rw [show ((r - 1 : Nat) : Int) = (r : Int) - 1 by omega], by simp, setCell_obj HF2.out.2 _, ?_, ?_, HP.out.2.2.2.trans (hF.below hsB fun g e => e)⟩
              · rw [rep_snoc]
                exact own_fr hown2 hS fun g e e2 => own_ne hown2 HF2.out.2 (by decide) (e.trans (congrArg some (show g = A from e2)))
              · exact hS.obj (HF2.out.1.obj HP.out.2.2.1 fun e => own_ne HP.out.2.1 HP.out.2.2.1 (by decide) e) (fun e => by have e' : A + 1 = A := e; omega)
            case measure => simp [intOf]; omega
          · obtain rfl : k = 9 := by omega
            have hr121 : r ≤ 121 := by omega
            generalize r = r1 at *
            have HP := Lib.hid (And.intro hpb (And.intro hown (And.intro hqb hb)))
            have hsB : A ≤ wr.heap.size := by have := hb.size; rw [HA.out] at this; exact this
            have hblt : A + 1 < wr.heap.size := (Array.getElem?_eq_some_iff.1 hqb).1
            clear hpb hown hqb hb hgo H1
            generalize wr = WB at *
            have e1 : decide (9 < 9) = false := rfl
            have hn9 : ((9 : Nat) : Int) = 9 := rfl
            simp only [hn9]
            go_wp2
            go_loopw [1, 10] (fun a kk wq => ∃ (k r : Nat) (v : Value), k ≤ 9 ∧ k + r = n' ∧ a = .int .i64 (r : Int) ∧ kk = .int .i64 (k : Int) ∧ wq.heap[A + 1]? = some (pBoxR l v) ∧ wq.ownsRow WB.heap.size 3 1 v k ((List.replicate k (2 : Int)).map (Value.int .i64)) ∧ Fr (fun g => g = A + 1 ∨ WB.heap.size ≤ g) WB wq) (fun _ kk _ => 9 - (intOf kk).toNat)
            case atStart => exact ⟨0, n', _, by omega, by omega, rfl, rfl, HP.out.2.2.1, World.ownsRow_nil _ _ _ _, Fr.refl _ _⟩
            case round =>
              obtain ⟨k, r, v, hk9, hkr, rfl, rfl, hqb, hown, hb⟩ := hrel
              obtain ⟨wa, wc, rfl, -⟩ := own_cells hown
              by_cases hgo : k < 9 ∧ 0 < r
              · obtain ⟨hk, hr⟩ := hgo
                have c1 := obj_cell hqb 1 (v := .slice wa k wc) rfl
                have fp := obj_frozen hqb 1
                have hsB2 : WB.heap.size ≤ wr.heap.size := hb.size
                have HQ := Lib.hid (And.intro hqb (And.intro hown hb))
                clear hqb hown hb
                have t1 : decide (k < 9) = true := decide_eq_true hk
                have t2 : decide (0 < r) = true := decide_eq_true hr
                go_wp2_with (at_builtin; refine wpList_append_any rfl _ _ 46 rfl WB.heap.size 3 q0 _ 1 8 Try.underlying46 hq qz0 qz1 qz2 (by rfl) (by decide) (.slice wa k wc) k _ (by rfl) (HQ.out.2.1.alloc _) (some ⟨wr.heap.size, 0, none⟩) 1 1 [.int .i64 2] (by rfl) (by rfl) (.inr ⟨_, rfl, cells_add (cells_new _ _ _ rfl _ _)⟩) (by simp [Value.oneCell']) (by unfold maxLen; omega) (by omega) (by simp; omega) ?_
                             intro v2 w2 hown2 hgrow2
                             obtain ⟨v2a, v2c, rfl, -⟩ := own_cells hown2
                             have hF2 : Fr (fun g => (Value.slice wa k wc).ownBlock = some g) wr w2 := (Fr.alloc _ _).trans (Fr.grown hgrow2)
                             have hp2 := hF2.obj HQ.out.1 (fun e => own_ne HQ.out.2.1 HQ.out.1 (by decide) e)
                             have d1 := obj_cell hp2 1 (v := .slice wa k wc) rfl
                             have fp2 := obj_frozen hp2 1
                             have HF2 := Lib.hid (And.intro hF2 hp2)
                             clear hF2 hp2)
                go_roundw
                case rel =>
                  have hS := Fr.setCell w2 ⟨A + 1, 1, none⟩ (.slice v2a (k + 1) v2c)
                  have hF : Fr (fun g => g = A + 1 ∨ WB.heap.size ≤ g) wr (w2.setCell ⟨A + 1, 1, none⟩ (.slice v2a (k + 1) v2c)) := (HF2.out.1.mono fun g _ e => .inr (ownObj HQ.out.2.1 g e).1).trans (hS.mono fun g _ e => .inl e)
                  refine ⟨k + 1, r - 1, .slice v2a (k + 1) v2c, by omega, by omega, by rw [show ((r - 1 : Nat) : Int) = (r : Int) - 1 by omega], by simp, setCell_obj HF2.out.2 _, ?_, HQ.out.2.2.trans hF⟩
                  rw [rep_snoc]
                  exact own_fr hown2 hS fun g e e2 => own_ne hown2 HF2.out.2 (by decide) (e.trans (congrArg some (show g = A + 1 from e2)))
                case measure => simp [intOf]; omega
              · obtain rfl : k = 9 := by omega
                have hrr : r = r1 := by omega
                subst hrr
                by_cases hr0 : 0 < r
                · simp only [hn9]
                  have er : decide (0 < r) = true := decide_eq_true hr0
                  have hpC := hb.obj HP.out.1 (fun e => by rcases e with e | e <;> omega)
                  have hoC := own_fr HP.out.2.1 hb (fun g hg e => by
                    rcases e with e | e
                    · exact own_ne HP.out.2.1 HP.out.2.2.1 (by decide) (hg.trans (congrArg some e))
                    · obtain ⟨_, cs, hc⟩ := ownObj HP.out.2.1 g hg
                      have := (Array.getElem?_eq_some_iff.1 hc).1
                      omega)
                  have hv12 : ∀ g, (Value.slice va 9 vc).ownBlock = some g → (Value.slice wa 9 wc).ownBlock ≠ some g := fun g hg e => by
                    obtain ⟨_, cs, hc⟩ := ownObj HP.out.2.1 g hg
                    have h1 := (Array.getElem?_eq_some_iff.1 hc).1
                    have h2 := (ownObj hown g e).1
                    omega
                  have hbC : Below A WA wr := HP.out.2.2.2.trans (hb.below hsB fun g e => by rcases e with e | e <;> omega)
                  have hMC := HM.out.1.fr (show Below WA.heap.size WA wr from by rw [HA.out]; exact hbC)
                  have hoQ := ownDown hown hsB
                  have hAw : w.heap.size + 4 < A := by omega
                  have hpvA : ∀ g, (Value.slice pa xs.length pc).ownBlock = some g → g < A := fun g hg => by
                    obtain ⟨_, cs, hc⟩ := ownObj HM.out.1.p g hg
                    have := (Array.getElem?_eq_some_iff.1 hc).1
                    rw [HA.out] at this
                    exact this
                  have hAr : A + 1 < wr.heap.size := (Array.getElem?_eq_some_iff.1 hqb).1
                  have hKp : 0 < 9 := by omega
                  have HC := Lib.hid (And.intro hpC (And.intro hoC (And.intro hqb (And.intro hoQ (And.intro hv12 (And.intro hMC (And.intro hpvA hbC)))))))
                  clear hpC hoC hv12 hMC hoQ hpvA hown hqb hb HP hgo hbC
                  generalize wr = WC at *
                  have p1 := obj_cell HC.out.1 1 (v := .slice va 9 vc) rfl
                  have fp := obj_frozen HC.out.1 1
                  go_upto_region 19 with (at_builtin; refine wpList_append_any rfl _ _ 46 rfl A 3 q0 _ 1 8 Try.underlying46 hq qz0 qz1 qz2 (by rfl) (by decide) (.slice va 9 vc) 9 _ (by rfl) (HC.out.2.1.alloc _) (some ⟨WC.heap.size, 0, none⟩) 1 1 [.int .i64 (5 + (i : Int))] (by rfl) (by rfl) (.inr ⟨_, rfl, cells_add (cells_new _ _ _ rfl _ _)⟩) (by simp [Value.oneCell']) (by unfold maxLen; omega) (by omega) (by simp; omega) ?_
                                          intro v4 w4 hown4 hgrow4
                                          obtain ⟨v4a, v4c, rfl, -⟩ := own_cells hown4
                                          have hF4 : Fr (fun g => (Value.slice va 9 vc).ownBlock = some g) WC w4 := (Fr.alloc _ _).trans (Fr.grown hgrow4)
                                          have hp4 := hF4.obj HC.out.1 (fun e => own_ne HC.out.2.1 HC.out.1 (by decide) e)
                                          have d1 := obj_cell hp4 1 (v := .slice va 9 vc) rfl
                                          have fp4 := obj_frozen hp4 1
                                          have HF4 := Lib.hid (And.intro hF4 hp4)
                                          clear hF4 hp4)
                  refine wp_at (F := fun W => W.heap[A]? = some (pBoxR l (.slice v4a (9 + 1) v4c)) ∧ W.ownsRow A 3 1 (.slice v4a (9 + 1) v4c) (9 + 1) ((List.replicate 9 (1 : Int) ++ [5 + (i : Int)]).map (Value.int .i64)) ∧ W.heap[A + 1]? = some (pBoxR l (.slice wa 9 wc)) ∧ W.ownsRow A 3 1 (.slice wa 9 wc) 9 ((List.replicate 9 (2 : Int)).map (Value.int .i64)) ∧ Below A WA W) ?_ ?_
                  · have hS := Fr.setCell w4 ⟨A, 1, none⟩ (.slice v4a (9 + 1) v4c)
                    have hFS : Fr (fun g => (Value.slice va 9 vc).ownBlock = some g ∨ g = A) WC (w4.setCell ⟨A, 1, none⟩ (.slice v4a (9 + 1) v4c)) := (HF4.out.1.mono fun _ _ e => .inl e).trans (hS.mono fun _ _ e => .inr e)
                    refine ⟨setCell_obj HF4.out.2 _, ?_, ?_, ?_, ?_⟩
                    · rw [List.map_append]
                      exact own_fr hown4 hS fun g e e2 => own_ne hown4 HF4.out.2 (by decide) (e.trans (congrArg some (show g = A from e2)))
                    · exact hFS.obj HC.out.2.2.1 fun e => by
                        rcases e with e | e
                        · exact own_ne HC.out.2.1 HC.out.2.2.1 (by decide) e
                        · omega
                    · exact own_fr HC.out.2.2.2.1 hFS fun g hg e => by
                        rcases e with e | e
                        · exact HC.out.2.2.2.2.1 g e hg
                        · exact own_ne HC.out.2.2.2.1 HC.out.1 (by decide) (hg.trans (congrArg some e))
                    · exact HC.out.2.2.2.2.2.2.2.trans (hFS.below (by omega) fun g e => by
                        rcases e with e | e
                        · exact (ownObj HC.out.2.1 g e).1
                        · omega)
                  intro WD ⟨hpD, hoD, hqD, ho2D, hbD⟩
                  have hMD := HM.out.1.fr (show Below WA.heap.size WA WD from by rw [HA.out]; exact hbD)
                  have HD := Lib.hid (And.intro hpD (And.intro hoD (And.intro hqD (And.intro ho2D (And.intro hMD HC.out.2.2.2.2.2.2.1)))))
                  have hAD : A + 1 < WD.heap.size := (Array.getElem?_eq_some_iff.1 hqD).1
                  clear hpD hoD hqD ho2D hbD hMD p1 fp d1 fp4 hown4 hgrow4 HF4 HC hAr
                  have g1 := obj_cell HD.out.2.2.2.2.1.g 1 (v := .slice sa ss.length sc) rfl
                  have hconv := one_conv i (by omega) WD
                  have hnl : ¬ 9223372036854775807 < 1 + (chB i).size := by rw [show (chB i).size = 1 from rfl]; omega
                  go_upto_region 20 with (at_builtin; refine wpList_append_any rfl _ _ 22 rfl w.heap.size 53 i0 _ 4 48 Try.underlying22 hi hz0 hz1 hz2 (by rfl) (by decide) (.slice sa ss.length sc) ss.length _ (by rfl) ((HD.out.2.2.2.2.1.s.alloc _).alloc _) _ 1 1 (symCells (plS (rowName i))) rfl rfl (.inr ⟨_, rfl, cells_add (cells_new_at (by simp) _ _ rfl _ _)⟩) (by simp [symCells, Value.oneCell']) (by unfold maxLen; omega) (by omega) (by simp; omega) ?_
                                          intro v5 w5 hown5 hgrow5
                                          obtain ⟨v5a, v5c, rfl, -⟩ := own_cells hown5
                                          have hF5 : Fr (fun g => (Value.slice sa ss.length sc).ownBlock = some g) WD w5 := ((Fr.alloc _ _).trans (Fr.alloc _ _)).trans (Fr.grown hgrow5)
                                          have hg5 := hF5.obj HD.out.2.2.2.2.1.g (fun e => own_ne HD.out.2.2.2.2.1.s HD.out.2.2.2.2.1.g (by decide) e)
                                          have d5 := obj_cell hg5 1 (v := .slice sa ss.length sc) rfl
                                          have f5 := obj_frozen hg5 1
                                          have HF5 := Lib.hid hF5
                                          clear hF5 hg5)
                  obtain ⟨hM5, hFM5⟩ := HD.out.2.2.2.2.1.sym (x := plS (rowName i)) HF5.out hown5
                  have hkeep5 : ∀ {B' e size n : Nat} {v : Value} {vs : List Value}, WD.ownsRow B' e size v n vs → e ≠ 53 → e ≠ 25 → (w5.setCell ⟨w.heap.size + 4, 1, none⟩ (.slice v5a (ss.length + 1) v5c)).ownsRow B' e size v n vs := fun hv h1 h2 => own_fr hv hFM5 fun q hq hc => by
                    rcases hc with hc | hc
                    · exact own_apart hv HD.out.2.2.2.2.1.s h1 q hq hc
                    · exact own_ne hv HD.out.2.2.2.2.1.g h2 (hq.trans (congrArg some hc))
                  have hbox5 : ∀ {b : Nat} {u : Value}, WD.heap[b]? = some (pBoxR l u) → (w5.setCell ⟨w.heap.size + 4, 1, none⟩ (.slice v5a (ss.length + 1) v5c)).heap[b]? = some (pBoxR l u) := fun hb => hFM5.obj hb fun e => by
                    rcases e with e | e
                    · exact own_ne HD.out.2.2.2.2.1.s hb (by decide) e
                    · have h1 := HD.out.2.2.2.2.1.g
                      rw [← e, hb] at h1
                      simp only [pBoxR, gBoxR, Option.some.injEq, Obj.cells.injEq] at h1
                      exact absurd h1.2.1 (by decide)
                  have hx5 : (ss ++ [plS (rowName i)]).length = ss.length + 1 := by simp
                  refine wp_at (F := fun W => W.heap[A]? = some (pBoxR l (.slice v4a (9 + 1) v4c)) ∧ W.ownsRow A 3 1 (.slice v4a (9 + 1) v4c) (9 + 1) ((List.replicate 9 (1 : Int) ++ [5 + (i : Int)]).map (Value.int .i64)) ∧ W.heap[A + 1]? = some (pBoxR l (.slice wa 9 wc)) ∧ W.ownsRow A 3 1 (.slice wa 9 wc) 9 ((List.replicate 9 (2 : Int)).map (Value.int .i64)) ∧ True ∧ MkR w W (.slice v5a (ss.length + 1) v5c) (.slice pa xs.length pc) (ss ++ [plS (rowName i)]) xs ∧ ∀ g, (Value.slice pa xs.length pc).ownBlock = some g → g < A)
                    ⟨hbox5 HD.out.1, hkeep5 HD.out.2.1 (by decide) (by decide), hbox5 HD.out.2.2.1, hkeep5 HD.out.2.2.2.1 (by decide) (by decide), trivial, hM5, HD.out.2.2.2.2.2⟩ ?_
                  intro WC2 hC2
                  have hAr : A + 1 < WC2.heap.size := (Array.getElem?_eq_some_iff.1 hC2.2.2.1).1
                  have HC := Lib.hid hC2
                  clear hC2 hM5 hFM5 hkeep5 hbox5 hx5 hown5 hgrow5 HF5 d5 f5 g1 HD hconv hnl hAD
                  generalize WC2 = WC at *
                  have hgB := HC.out.2.2.2.2.2.1.g
                  have g2 := obj_cell hgB 2 (v := .slice pa xs.length pc) rfl
                  have p0 := obj_cell HC.out.1 0 (v := .int .i64 l) rfl
                  have p1 := obj_cell HC.out.1 1 (v := .slice v4a (9 + 1) v4c) rfl
                  have p2 := obj_cell HC.out.1 2 (v := .int .i64 (-1)) rfl
                  have p3 := obj_cell HC.out.1 3 (v := .bool false) rfl
                  have p4 := obj_cell HC.out.1 4 (v := .string ⟨#[]⟩) rfl
                  have p5 := obj_cell HC.out.1 5 (v := .int .i64 0) rfl
                  clear hgB
                  go_upto_region 21 with (at_builtin; refine wpList_append_any rfl _ _ 23 rfl w.heap.size 48 j0 _ 6 72 Try.underlying23 hj jz0 jz1 jz2 (by rfl) (by decide) (.slice pa xs.length pc) xs.length _ (by rfl) (HC.out.2.2.2.2.2.1.p.alloc _) (some ⟨WC.heap.size, 0, none⟩) 1 1 (cellsP (plP l (List.replicate 9 1 ++ [5 + (i : Int)]), .slice v4a (9 + 1) v4c)) (by rfl) (by rfl) (.inr ⟨_, rfl, cells_add (cells_new _ _ _ rfl _ _)⟩) (by simp [cellsP, prdCells, Value.oneCell']) (by unfold maxLen; omega) (by omega) (by simp; omega) ?_
                                          intro v2 w2 hown2 hgrow2
                                          obtain ⟨v2a, v2c, rfl, -⟩ := own_cells hown2
                                          have hF2 : Fr (fun g => (Value.slice pa xs.length pc).ownBlock = some g) WC w2 := (Fr.alloc _ _).trans (Fr.grown hgrow2)
                                          have hgw := hF2.obj HC.out.2.2.2.2.2.1.g (fun e => own_ne HC.out.2.2.2.2.2.1.p HC.out.2.2.2.2.2.1.g (by decide) e)
                                          have d2 := obj_cell hgw 2 (v := .slice pa xs.length pc) rfl
                                          have fg := obj_frozen hgw 2
                                          have HF2 := Lib.hid hF2
                                          clear hF2 hgw)
                  obtain ⟨hM2, hFM⟩ := HC.out.2.2.2.2.2.1.prod (x := (plP l (List.replicate 9 1 ++ [5 + (i : Int)]), .slice v4a (9 + 1) v4c)) (by have := ownDown HC.out.2.1 (show w.heap.size ≤ A by omega); show WC.ownsRow _ _ _ _ (List.replicate 9 (1 : Int) ++ [5 + (i : Int)]).length _; rw [show (List.replicate 9 (1 : Int) ++ [5 + (i : Int)]).length = 9 + 1 by simp]; exact this) HF2.out hown2
                  have hq2 := hFM.obj HC.out.2.2.1 (fun e => by
                    rcases e with e | e
                    · have := HC.out.2.2.2.2.2.2 _ e; omega
                    · omega)
                  have ho2 := own_fr HC.out.2.2.2.1 hFM (fun g hg e => by
                    rcases e with e | e
                    · exact own_apart HC.out.2.2.2.1 HC.out.2.2.2.2.2.1.p (by decide) g hg e
                    · exact own_ne HC.out.2.2.2.1 HC.out.2.2.2.2.2.1.g (by decide) (hg.trans (congrArg some e)))
                  have hx1 : (xs ++ [((plP l (List.replicate 9 1 ++ [5 + (i : Int)]) : Prd), Value.slice v4a (9 + 1) v4c)]).length = xs.length + 1 := by simp
                  refine wp_at (F := fun W => MkR w W (.slice v5a (ss.length + 1) v5c) (.slice v2a (xs.length + 1) v2c) (ss ++ [plS (rowName i)]) (xs ++ [(plP l (List.replicate 9 1 ++ [5 + (i : Int)]), .slice v4a (9 + 1) v4c)]) ∧ W.heap[A + 1]? = some (pBoxR l (.slice wa 9 wc)) ∧ W.ownsRow A 3 1 (.slice wa 9 wc) 9 ((List.replicate 9 (2 : Int)).map (Value.int .i64)) ∧ A + 1 < W.heap.size) ⟨hM2, hq2, ho2, (Array.getElem?_eq_some_iff.1 hq2).1⟩ ?_
                  intro W2 ⟨hM2', hq2', ho2', hlt2⟩
                  clear hM2 hFM hq2 ho2 p0 p1 p2 p3 p4 p5 g2 d2 fg hown2 hgrow2 HF2
                  have H2 := Lib.hid (And.intro hM2' (And.intro hq2' (And.intro ho2' hx1)))
                  have g2 := obj_cell hM2'.g 2 (v := .slice v2a (xs.length + 1) v2c) rfl
                  have p0 := obj_cell hq2' 0 (v := .int .i64 l) rfl
                  have p1 := obj_cell hq2' 1 (v := .slice wa 9 wc) rfl
                  have p2 := obj_cell hq2' 2 (v := .int .i64 (-1)) rfl
                  have p3 := obj_cell hq2' 3 (v := .bool false) rfl
                  have p4 := obj_cell hq2' 4 (v := .string ⟨#[]⟩) rfl
                  have p5 := obj_cell hq2' 5 (v := .int .i64 0) rfl
                  have hpow := hM2'.p
                  rw [hx1] at hpow
                  have HPW := Lib.hid hpow
                  clear hM2' hq2' ho2' hpow hx1
                  have tk : decide (0 < 9) = true := decide_eq_true hKp
                  go_wp2_with (at_builtin; refine wpList_append_any rfl _ _ 23 rfl w.heap.size 48 j0 _ 6 72 Try.underlying23 hj jz0 jz1 jz2 (by rfl) (by decide) (.slice v2a (xs.length + 1) v2c) (xs.length + 1) _ (by rfl) (HPW.out.alloc _) (some ⟨W2.heap.size, 0, none⟩) 1 1 (cellsP (plP l (List.replicate 9 2), .slice wa 9 wc)) (by rfl) (by rfl) (.inr ⟨_, rfl, cells_add (cells_new _ _ _ rfl _ _)⟩) (by simp [cellsP, prdCells, Value.oneCell']) (by unfold maxLen; omega) (by omega) (by simp; omega) ?_
                               intro v3 w3 hown3 hgrow3
                               obtain ⟨v3a, v3c, rfl, -⟩ := own_cells hown3
                               have hF3 : Fr (fun g => (Value.slice v2a (xs.length + 1) v2c).ownBlock = some g) W2 w3 := (Fr.alloc _ _).trans (Fr.grown hgrow3)
                               have hgw := hF3.obj H2.out.1.g (fun e => own_ne H2.out.1.p H2.out.1.g (by decide) e)
                               have d2 := obj_cell hgw 2 (v := .slice v2a (xs.length + 1) v2c) rfl
                               have fg := obj_frozen hgw 2
                               have HF3 := Lib.hid hF3
                               clear hF3 hgw)
                  go_roundw
                  case rel =>
                    obtain ⟨hM3, -⟩ := H2.out.1.prod (x := (plP l (List.replicate 9 2), .slice wa 9 wc)) (by have := ownDown H2.out.2.2.1 (show w.heap.size ≤ A by omega); show W2.ownsRow _ _ _ _ (List.replicate 9 (2 : Int)).length _; rw [List.length_replicate]; exact this) HF3.out (by rw [H2.out.2.2.2]; exact hown3)
                    obtain ⟨f', rfl⟩ : ∃ f', f = f' + 1 := ⟨f - 1, by have := HF.out.1; omega⟩
                    obtain ⟨-, hgo, hso, hxo⟩ := HM.out
                    have hstep := rowGo_step (f := f') (i := i) hn0 ss (xs.map Prod.fst)
                    rw [hgo] at hstep
                    rw [if_pos (show 9 < n' by omega), if_pos (show 9 < n' by omega), show min 9 n' = 9 by omega, ← HL.out] at hstep
                    refine ⟨r, i + 1, f', _, _, ss ++ [plS (rowName i)], _, rfl, rfl, by simp, by omega, fun _ => by omega, by have := HF.out.1; omega, ?_, by simp; omega, by simp; omega, fun y hy => ?_, fun x hx => ?_, hM3⟩
                    · rw [show n' - 9 = r by omega] at hstep
                      rw [hstep]
                      simp
                    · rcases List.mem_append.1 hy with hy | hy
                      · exact hso y hy
                      · rw [List.mem_singleton.1 hy]
                        exact plS_ok _
                    · rcases List.mem_append.1 hx with hx | hx
                      · rcases List.mem_append.1 hx with hx | hx
                        · exact hxo x hx
                        · rw [List.mem_singleton.1 hx]
                          refine ⟨plP_ok (by rw [HL.out]; unfold i64; omega), by show (List.replicate 9 (1 : Int) ++ [5 + (i : Int)]).length ≤ 10; simp, fun y hy => ?_⟩
                          rcases List.mem_append.1 hy with hy | hy
                          · have := (List.mem_replicate.1 hy).2; omega
                          · have := List.mem_singleton.1 hy; omega
                      · rw [List.mem_singleton.1 hx]
                        exact ⟨plP_ok (by rw [HL.out]; unfold i64; omega), by show (List.replicate 9 (2 : Int)).length ≤ 10; rw [List.length_replicate]; omega, fun y hy => by have := (List.mem_replicate.1 hy).2; omega⟩
                  case measure => simp [intOf]; omega
                · obtain rfl : r = 0 := by omega
                  simp only [hn9]
                  have hn0' : ((0 : Nat) : Int) = 0 := rfl
                  simp only [hn0']
                  have e2 : decide (0 < 0) = false := rfl
                  have hpC := hb.obj HP.out.1 (fun e => by rcases e with e | e <;> omega)
                  have hoC := own_fr HP.out.2.1 hb (fun g hg e => by
                    rcases e with e | e
                    · exact own_ne HP.out.2.1 HP.out.2.2.1 (by decide) (hg.trans (congrArg some e))
                    · obtain ⟨_, cs, hc⟩ := ownObj HP.out.2.1 g hg
                      have := (Array.getElem?_eq_some_iff.1 hc).1
                      omega)
                  have hv12 : ∀ g, (Value.slice va 9 vc).ownBlock = some g → (Value.slice wa 9 wc).ownBlock ≠ some g := fun g hg e => by
                    obtain ⟨_, cs, hc⟩ := ownObj HP.out.2.1 g hg
                    have h1 := (Array.getElem?_eq_some_iff.1 hc).1
                    have h2 := (ownObj hown g e).1
                    omega
                  have hbC : Below A WA wr := HP.out.2.2.2.trans (hb.below hsB fun g e => by rcases e with e | e <;> omega)
                  have hMC := HM.out.1.fr (show Below WA.heap.size WA wr from by rw [HA.out]; exact hbC)
                  have hoQ := ownDown hown hsB
                  have hAw : w.heap.size + 4 < A := by omega
                  have hpvA : ∀ g, (Value.slice pa xs.length pc).ownBlock = some g → g < A := fun g hg => by
                    obtain ⟨_, cs, hc⟩ := ownObj HM.out.1.p g hg
                    have := (Array.getElem?_eq_some_iff.1 hc).1
                    rw [HA.out] at this
                    exact this
                  have hAr : A + 1 < wr.heap.size := (Array.getElem?_eq_some_iff.1 hqb).1
                  have hKp : 0 < 9 := by omega
                  have HC := Lib.hid (And.intro hpC (And.intro hoC (And.intro hqb (And.intro hoQ (And.intro hv12 (And.intro hMC (And.intro hpvA hbC)))))))
                  clear hpC hoC hv12 hMC hoQ hpvA hown hqb hb HP hgo hbC
                  generalize wr = WC at *
                  have hgB := HC.out.2.2.2.2.2.1.g
                  have g2 := obj_cell hgB 2 (v := .slice pa xs.length pc) rfl
                  have p0 := obj_cell HC.out.1 0 (v := .int .i64 l) rfl
                  have p1 := obj_cell HC.out.1 1 (v := .slice va 9 vc) rfl
                  have p2 := obj_cell HC.out.1 2 (v := .int .i64 (-1)) rfl
                  have p3 := obj_cell HC.out.1 3 (v := .bool false) rfl
                  have p4 := obj_cell HC.out.1 4 (v := .string ⟨#[]⟩) rfl
                  have p5 := obj_cell HC.out.1 5 (v := .int .i64 0) rfl
                  clear hgB
                  go_upto_region 21 with (at_builtin; refine wpList_append_any rfl _ _ 23 rfl w.heap.size 48 j0 _ 6 72 Try.underlying23 hj jz0 jz1 jz2 (by rfl) (by decide) (.slice pa xs.length pc) xs.length _ (by rfl) (HC.out.2.2.2.2.2.1.p.alloc _) (some ⟨WC.heap.size, 0, none⟩) 1 1 (cellsP (plP l (List.replicate 9 1), .slice va 9 vc)) (by rfl) (by rfl) (.inr ⟨_, rfl, cells_add (cells_new _ _ _ rfl _ _)⟩) (by simp [cellsP, prdCells, Value.oneCell']) (by unfold maxLen; omega) (by omega) (by simp; omega) ?_
                                          intro v2 w2 hown2 hgrow2
                                          obtain ⟨v2a, v2c, rfl, -⟩ := own_cells hown2
                                          have hF2 : Fr (fun g => (Value.slice pa xs.length pc).ownBlock = some g) WC w2 := (Fr.alloc _ _).trans (Fr.grown hgrow2)
                                          have hgw := hF2.obj HC.out.2.2.2.2.2.1.g (fun e => own_ne HC.out.2.2.2.2.2.1.p HC.out.2.2.2.2.2.1.g (by decide) e)
                                          have d2 := obj_cell hgw 2 (v := .slice pa xs.length pc) rfl
                                          have fg := obj_frozen hgw 2
                                          have HF2 := Lib.hid hF2
                                          clear hF2 hgw)
                  obtain ⟨hM2, hFM⟩ := HC.out.2.2.2.2.2.1.prod (x := (plP l (List.replicate 9 1), .slice va 9 vc)) (by have := ownDown HC.out.2.1 (show w.heap.size ≤ A by omega); show WC.ownsRow _ _ _ _ (List.replicate 9 (1 : Int)).length _; rw [List.length_replicate]; exact this) HF2.out hown2
                  have hq2 := hFM.obj HC.out.2.2.1 (fun e => by
                    rcases e with e | e
                    · have := HC.out.2.2.2.2.2.2.1 _ e; omega
                    · omega)
                  have ho2 := own_fr HC.out.2.2.2.1 hFM (fun g hg e => by
                    rcases e with e | e
                    · exact own_apart HC.out.2.2.2.1 HC.out.2.2.2.2.2.1.p (by decide) g hg e
                    · exact own_ne HC.out.2.2.2.1 HC.out.2.2.2.2.2.1.g (by decide) (hg.trans (congrArg some e)))
                  have hx1 : (xs ++ [((plP l (List.replicate 9 1) : Prd), Value.slice va 9 vc)]).length = xs.length + 1 := by simp
                  refine wp_at (F := fun W => MkR w W (.slice sa ss.length sc) (.slice v2a (xs.length + 1) v2c) ss (xs ++ [(plP l (List.replicate 9 1), .slice va 9 vc)]) ∧ W.heap[A + 1]? = some (pBoxR l (.slice wa 9 wc)) ∧ W.ownsRow A 3 1 (.slice wa 9 wc) 9 ((List.replicate 9 (2 : Int)).map (Value.int .i64)) ∧ A + 1 < W.heap.size) ⟨hM2, hq2, ho2, (Array.getElem?_eq_some_iff.1 hq2).1⟩ ?_
                  intro W2 ⟨hM2', hq2', ho2', hlt2⟩
                  clear hM2 hFM hq2 ho2 p0 p1 p2 p3 p4 p5 g2 d2 fg hown2 hgrow2 HF2
                  have H2 := Lib.hid (And.intro hM2' (And.intro hq2' (And.intro ho2' hx1)))
                  have g2 := obj_cell hM2'.g 2 (v := .slice v2a (xs.length + 1) v2c) rfl
                  have p0 := obj_cell hq2' 0 (v := .int .i64 l) rfl
                  have p1 := obj_cell hq2' 1 (v := .slice wa 9 wc) rfl
                  have p2 := obj_cell hq2' 2 (v := .int .i64 (-1)) rfl
                  have p3 := obj_cell hq2' 3 (v := .bool false) rfl
                  have p4 := obj_cell hq2' 4 (v := .string ⟨#[]⟩) rfl
                  have p5 := obj_cell hq2' 5 (v := .int .i64 0) rfl
                  have hpow := hM2'.p
                  rw [hx1] at hpow
                  have HPW := Lib.hid hpow
                  clear hM2' hq2' ho2' hpow hx1
                  have tk : decide (0 < 9) = true := decide_eq_true hKp
                  go_wp2_with (at_builtin; refine wpList_append_any rfl _ _ 23 rfl w.heap.size 48 j0 _ 6 72 Try.underlying23 hj jz0 jz1 jz2 (by rfl) (by decide) (.slice v2a (xs.length + 1) v2c) (xs.length + 1) _ (by rfl) (HPW.out.alloc _) (some ⟨W2.heap.size, 0, none⟩) 1 1 (cellsP (plP l (List.replicate 9 2), .slice wa 9 wc)) (by rfl) (by rfl) (.inr ⟨_, rfl, cells_add (cells_new _ _ _ rfl _ _)⟩) (by simp [cellsP, prdCells, Value.oneCell']) (by unfold maxLen; omega) (by omega) (by simp; omega) ?_
                               intro v3 w3 hown3 hgrow3
                               obtain ⟨v3a, v3c, rfl, -⟩ := own_cells hown3
                               have hF3 : Fr (fun g => (Value.slice v2a (xs.length + 1) v2c).ownBlock = some g) W2 w3 := (Fr.alloc _ _).trans (Fr.grown hgrow3)
                               have hgw := hF3.obj H2.out.1.g (fun e => own_ne H2.out.1.p H2.out.1.g (by decide) e)
                               have d2 := obj_cell hgw 2 (v := .slice v2a (xs.length + 1) v2c) rfl
                               have fg := obj_frozen hgw 2
                               have HF3 := Lib.hid hF3
                               clear hF3 hgw)
                  go_roundw
                  case rel =>
                    obtain ⟨hM3, -⟩ := H2.out.1.prod (x := (plP l (List.replicate 9 2), .slice wa 9 wc)) (by have := ownDown H2.out.2.2.1 (show w.heap.size ≤ A by omega); show W2.ownsRow _ _ _ _ (List.replicate 9 (2 : Int)).length _; rw [List.length_replicate]; exact this) HF3.out (by rw [H2.out.2.2.2]; exact hown3)
                    obtain ⟨f', rfl⟩ : ∃ f', f = f' + 1 := ⟨f - 1, by have := HF.out.1; omega⟩
                    obtain ⟨-, hgo, hso, hxo⟩ := HM.out
                    have hstep := rowGo_step (f := f') (i := i) hn0 ss (xs.map Prod.fst)
                    rw [hgo] at hstep
                    rw [if_neg (by omega), if_neg (by omega), show min 9 n' = 9 by omega, List.append_nil, ← HL.out] at hstep
                    refine ⟨0, i + 1, f', _, _, ss, _, rfl, rfl, by simp, by have := HF.out.2; omega, fun h => absurd h (by omega), by omega, ?_, by omega, by simp; omega, hso, fun x hx => ?_, hM3⟩
                    · rw [show n' - 9 = 0 by omega] at hstep
                      rw [hstep]
                      simp
                    · rcases List.mem_append.1 hx with hx | hx
                      · rcases List.mem_append.1 hx with hx | hx
                        · exact hxo x hx
                        · rw [List.mem_singleton.1 hx]
                          exact ⟨plP_ok (by rw [HL.out]; unfold i64; omega), by show (List.replicate 9 (1 : Int)).length ≤ 10; rw [List.length_replicate]; omega, fun y hy => by have := (List.mem_replicate.1 hy).2; omega⟩
                      · rw [List.mem_singleton.1 hx]
                        exact ⟨plP_ok (by rw [HL.out]; unfold i64; omega), by show (List.replicate 9 (2 : Int)).length ≤ 10; rw [List.length_replicate]; omega, fun y hy => by have := (List.mem_replicate.1 hy).2; omega⟩
                  case measure => simp [intOf]; omega
      · go_wp2
        go_loopw [0, 9] (fun a kk wq => ∃ (k r : Nat) (v : Value), k ≤ 9 ∧ k + r = n' ∧ a = .int .i64 (r : Int) ∧ kk = .int .i64 (k : Int) ∧ wq.heap[A]? = some (pBoxR l v) ∧ wq.ownsRow A 3 1 v k ((List.replicate k (1 : Int)).map (Value.int .i64)) ∧ wq.heap[A + 1]? = some (pBoxR l (.slice none 0 0)) ∧ Below A WA wq) (fun _ kk _ => 9 - (intOf kk).toNat)
        case atStart => exact ⟨0, n', _, by omega, by omega, rfl, rfl, H1.out.1, World.ownsRow_nil _ _ _ _, H1.out.2.1, H1.out.2.2⟩
        case round =>
          obtain ⟨k, r, v, hk9, hkr, rfl, rfl, hpb, hown, hqb, hb⟩ := hrel
          obtain ⟨va, vc, rfl, -⟩ := own_cells hown
          by_cases hgo : k < 9 ∧ 0 < r
          · obtain ⟨hk, hr⟩ := hgo
            have c1 := obj_cell hpb 1 (v := .slice va k vc) rfl
            have fp := obj_frozen hpb 1
            have hsB : A ≤ wr.heap.size := by have := hb.size; rw [HA.out] at this; exact this
            have HP := Lib.hid (And.intro hpb (And.intro hown (And.intro hqb hb)))
            clear hpb hown hqb hb
            have t1 : decide (k < 9) = true := decide_eq_true hk
            have t2 : decide (0 < r) = true := decide_eq_true hr
            go_wp2_with (at_builtin; refine wpList_append_any rfl _ _ 46 rfl A 3 q0 _ 1 8 Try.underlying46 hq qz0 qz1 qz2 (by rfl) (by decide) (.slice va k vc) k _ (by rfl) (HP.out.2.1.alloc _) (some ⟨wr.heap.size, 0, none⟩) 1 1 [.int .i64 1] (by rfl) (by rfl) (.inr ⟨_, rfl, cells_add (cells_new _ _ _ rfl _ _)⟩) (by simp [Value.oneCell']) (by unfold maxLen; omega) (by omega) (by simp; omega) ?_
                         intro v2 w2 hown2 hgrow2
                         obtain ⟨v2a, v2c, rfl, -⟩ := own_cells hown2
                         have hF2 : Fr (fun g => (Value.slice va k vc).ownBlock = some g) wr w2 := (Fr.alloc _ _).trans (Fr.grown hgrow2)
                         have hp2 := hF2.obj HP.out.1 (fun e => own_ne HP.out.2.1 HP.out.1 (by decide) e)
                         have d1 := obj_cell hp2 1 (v := .slice va k vc) rfl
                         have fp2 := obj_frozen hp2 1
                         have HF2 := Lib.hid (And.intro hF2 hp2)
                         clear hF2 hp2)
            go_roundw
            case rel =>
              have hS := Fr.setCell w2 ⟨A, 1, none⟩ (.slice v2a (k + 1) v2c)
              have hF : Fr (from_ A) wr (w2.setCell ⟨A, 1, none⟩ (.slice v2a (k + 1) v2c)) := (HF2.out.1.mono fun g _ e => (ownObj HP.out.2.1 g e).1).trans (hS.mono fun g _ e => Nat.le_of_eq (show g = A from e).symm)
              refine ⟨k + 1, r - 1, .slice v2a (k + 1) v2c, by omega, by omega, by rw [show ((r - 1 : Nat) : Int) = (r : Int) - 1 by omega], by simp, setCell_obj HF2.out.2 _, ?_, ?_, HP.out.2.2.2.trans (hF.below hsB fun g e => e)⟩
              · rw [rep_snoc]
                exact own_fr hown2 hS fun g e e2 => own_ne hown2 HF2.out.2 (by decide) (e.trans (congrArg some (show g = A from e2)))
              · exact hS.obj (HF2.out.1.obj HP.out.2.2.1 fun e => own_ne HP.out.2.1 HP.out.2.2.1 (by decide) e) (fun e => by have e' : A + 1 = A := e; omega)
            case measure => simp [intOf]; omega
          · obtain rfl : r = 0 := by omega
            have hk' : n' = k := by omega
            subst hk'
            have hk8 : n' < 9 := by omega
            have HP := Lib.hid (And.intro hpb (And.intro hown (And.intro hqb hb)))
            have hsB : A ≤ wr.heap.size := by have := hb.size; rw [HA.out] at this; exact this
            have hblt : A + 1 < wr.heap.size := (Array.getElem?_eq_some_iff.1 hqb).1
            clear hpb hown hqb hb hgo H1
            generalize wr = WB at *
            have e1 : decide (n' < 9) = true := decide_eq_true hk8
            have e2 : decide (0 < 0) = false := rfl
            have hn0' : ((0 : Nat) : Int) = 0 := rfl
            simp only [hn0']
            go_wp2
            go_loopw [1, 10] (fun a kk wq => ∃ (k r : Nat) (v : Value), k ≤ 9 ∧ k + r = n' ∧ a = .int .i64 (r : Int) ∧ kk = .int .i64 (k : Int) ∧ wq.heap[A + 1]? = some (pBoxR l v) ∧ wq.ownsRow WB.heap.size 3 1 v k ((List.replicate k (2 : Int)).map (Value.int .i64)) ∧ Fr (fun g => g = A + 1 ∨ WB.heap.size ≤ g) WB wq) (fun _ kk _ => 9 - (intOf kk).toNat)
            case atStart => exact ⟨0, n', _, by omega, by omega, rfl, rfl, HP.out.2.2.1, World.ownsRow_nil _ _ _ _, Fr.refl _ _⟩
            case round =>
              obtain ⟨k, r, v, hk9, hkr, rfl, rfl, hqb, hown, hb⟩ := hrel
              obtain ⟨wa, wc, rfl, -⟩ := own_cells hown
              by_cases hgo : k < 9 ∧ 0 < r
              · obtain ⟨hk, hr⟩ := hgo
                have c1 := obj_cell hqb 1 (v := .slice wa k wc) rfl
                have fp := obj_frozen hqb 1
                have hsB2 : WB.heap.size ≤ wr.heap.size := hb.size
                have HQ := Lib.hid (And.intro hqb (And.intro hown hb))
                clear hqb hown hb
                have t1 : decide (k < 9) = true := decide_eq_true hk
                have t2 : decide (0 < r) = true := decide_eq_true hr
                go_wp2_with (at_builtin; refine wpList_append_any rfl _ _ 46 rfl WB.heap.size 3 q0 _ 1 8 Try.underlying46 hq qz0 qz1 qz2 (by rfl) (by decide) (.slice wa k wc) k _ (by rfl) (HQ.out.2.1.alloc _) (some ⟨wr.heap.size, 0, none⟩) 1 1 [.int .i64 2] (by rfl) (by rfl) (.inr ⟨_, rfl, cells_add (cells_new _ _ _ rfl _ _)⟩) (by simp [Value.oneCell']) (by unfold maxLen; omega) (by omega) (by simp; omega) ?_
                             intro v2 w2 hown2 hgrow2
                             obtain ⟨v2a, v2c, rfl, -⟩ := own_cells hown2
                             have hF2 : Fr (fun g => (Value.slice wa k wc).ownBlock = some g) wr w2 := (Fr.alloc _ _).trans (Fr.grown hgrow2)
                             have hp2 := hF2.obj HQ.out.1 (fun e => own_ne HQ.out.2.1 HQ.out.1 (by decide) e)
                             have d1 := obj_cell hp2 1 (v := .slice wa k wc) rfl
                             have fp2 := obj_frozen hp2 1
                             have HF2 := Lib.hid (And.intro hF2 hp2)
                             clear hF2 hp2)
                go_roundw
                case rel =>
                  have hS := Fr.setCell w2 ⟨A + 1, 1, none⟩ (.slice v2a (k + 1) v2c)
                  have hF : Fr (fun g => g = A + 1 ∨ WB.heap.size ≤ g) wr (w2.setCell ⟨A + 1, 1, none⟩ (.slice v2a (k + 1) v2c)) := (HF2.out.1.mono fun g _ e => .inr (ownObj HQ.out.2.1 g e).1).trans (hS.mono fun g _ e => .inl e)
                  refine ⟨k + 1, r - 1, .slice v2a (k + 1) v2c, by omega, by omega, by rw [show ((r - 1 : Nat) : Int) = (r : Int) - 1 by omega], by simp, setCell_obj HF2.out.2 _, ?_, HQ.out.2.2.trans hF⟩
                  rw [rep_snoc]
                  exact own_fr hown2 hS fun g e e2 => own_ne hown2 HF2.out.2 (by decide) (e.trans (congrArg some (show g = A + 1 from e2)))
                case measure => simp [intOf]; omega
              · have hkk : n' = k := by omega
                subst hkk
                obtain rfl : r = 0 := by omega
                simp only [hn0']
                have e2 : decide (0 < 0) = false := rfl
                have hpC := hb.obj HP.out.1 (fun e => by rcases e with e | e <;> omega)
                have hoC := own_fr HP.out.2.1 hb (fun g hg e => by
                  rcases e with e | e
                  · exact own_ne HP.out.2.1 HP.out.2.2.1 (by decide) (hg.trans (congrArg some e))
                  · obtain ⟨_, cs, hc⟩ := ownObj HP.out.2.1 g hg
                    have := (Array.getElem?_eq_some_iff.1 hc).1
                    omega)
                have hv12 : ∀ g, (Value.slice va n' vc).ownBlock = some g → (Value.slice wa n' wc).ownBlock ≠ some g := fun g hg e => by
                  obtain ⟨_, cs, hc⟩ := ownObj HP.out.2.1 g hg
                  have h1 := (Array.getElem?_eq_some_iff.1 hc).1
                  have h2 := (ownObj hown g e).1
                  omega
                have hbC : Below A WA wr := HP.out.2.2.2.trans (hb.below hsB fun g e => by rcases e with e | e <;> omega)
                have hMC := HM.out.1.fr (show Below WA.heap.size WA wr from by rw [HA.out]; exact hbC)
                have hoQ := ownDown hown hsB
                have hAw : w.heap.size + 4 < A := by omega
                have hpvA : ∀ g, (Value.slice pa xs.length pc).ownBlock = some g → g < A := fun g hg => by
                  obtain ⟨_, cs, hc⟩ := ownObj HM.out.1.p g hg
                  have := (Array.getElem?_eq_some_iff.1 hc).1
                  rw [HA.out] at this
                  exact this
                have hAr : A + 1 < wr.heap.size := (Array.getElem?_eq_some_iff.1 hqb).1
                have hKp : 0 < n' := by omega
                have HC := Lib.hid (And.intro hpC (And.intro hoC (And.intro hqb (And.intro hoQ (And.intro hv12 (And.intro hMC (And.intro hpvA hbC)))))))
                clear hpC hoC hv12 hMC hoQ hpvA hown hqb hb HP hgo hbC
                generalize wr = WC at *
                have hgB := HC.out.2.2.2.2.2.1.g
                have g2 := obj_cell hgB 2 (v := .slice pa xs.length pc) rfl
                have p0 := obj_cell HC.out.1 0 (v := .int .i64 l) rfl
                have p1 := obj_cell HC.out.1 1 (v := .slice va n' vc) rfl
                have p2 := obj_cell HC.out.1 2 (v := .int .i64 (-1)) rfl
                have p3 := obj_cell HC.out.1 3 (v := .bool false) rfl
                have p4 := obj_cell HC.out.1 4 (v := .string ⟨#[]⟩) rfl
                have p5 := obj_cell HC.out.1 5 (v := .int .i64 0) rfl
                clear hgB
                go_upto_region 21 with (at_builtin; refine wpList_append_any rfl _ _ 23 rfl w.heap.size 48 j0 _ 6 72 Try.underlying23 hj jz0 jz1 jz2 (by rfl) (by decide) (.slice pa xs.length pc) xs.length _ (by rfl) (HC.out.2.2.2.2.2.1.p.alloc _) (some ⟨WC.heap.size, 0, none⟩) 1 1 (cellsP (plP l (List.replicate n' 1), .slice va n' vc)) (by rfl) (by rfl) (.inr ⟨_, rfl, cells_add (cells_new _ _ _ rfl _ _)⟩) (by simp [cellsP, prdCells, Value.oneCell']) (by unfold maxLen; omega) (by omega) (by simp; omega) ?_
                                        intro v2 w2 hown2 hgrow2
                                        obtain ⟨v2a, v2c, rfl, -⟩ := own_cells hown2
                                        have hF2 : Fr (fun g => (Value.slice pa xs.length pc).ownBlock = some g) WC w2 := (Fr.alloc _ _).trans (Fr.grown hgrow2)
                                        have hgw := hF2.obj HC.out.2.2.2.2.2.1.g (fun e => own_ne HC.out.2.2.2.2.2.1.p HC.out.2.2.2.2.2.1.g (by decide) e)
                                        have d2 := obj_cell hgw 2 (v := .slice pa xs.length pc) rfl
                                        have fg := obj_frozen hgw 2
                                        have HF2 := Lib.hid hF2
                                        clear hF2 hgw)
                obtain ⟨hM2, hFM⟩ := HC.out.2.2.2.2.2.1.prod (x := (plP l (List.replicate n' 1), .slice va n' vc)) (by have := ownDown HC.out.2.1 (show w.heap.size ≤ A by omega); show WC.ownsRow _ _ _ _ (List.replicate n' (1 : Int)).length _; rw [List.length_replicate]; exact this) HF2.out hown2
                have hq2 := hFM.obj HC.out.2.2.1 (fun e => by
                  rcases e with e | e
                  · have := HC.out.2.2.2.2.2.2.1 _ e; omega
                  · omega)
                have ho2 := own_fr HC.out.2.2.2.1 hFM (fun g hg e => by
                  rcases e with e | e
                  · exact own_apart HC.out.2.2.2.1 HC.out.2.2.2.2.2.1.p (by decide) g hg e
                  · exact own_ne HC.out.2.2.2.1 HC.out.2.2.2.2.2.1.g (by decide) (hg.trans (congrArg some e)))
                have hx1 : (xs ++ [((plP l (List.replicate n' 1) : Prd), Value.slice va n' vc)]).length = xs.length + 1 := by simp
                refine wp_at (F := fun W => MkR w W (.slice sa ss.length sc) (.slice v2a (xs.length + 1) v2c) ss (xs ++ [(plP l (List.replicate n' 1), .slice va n' vc)]) ∧ W.heap[A + 1]? = some (pBoxR l (.slice wa n' wc)) ∧ W.ownsRow A 3 1 (.slice wa n' wc) n' ((List.replicate n' (2 : Int)).map (Value.int .i64)) ∧ A + 1 < W.heap.size) ⟨hM2, hq2, ho2, (Array.getElem?_eq_some_iff.1 hq2).1⟩ ?_
                intro W2 ⟨hM2', hq2', ho2', hlt2⟩
                clear hM2 hFM hq2 ho2 p0 p1 p2 p3 p4 p5 g2 d2 fg hown2 hgrow2 HF2
                have H2 := Lib.hid (And.intro hM2' (And.intro hq2' (And.intro ho2' hx1)))
                have g2 := obj_cell hM2'.g 2 (v := .slice v2a (xs.length + 1) v2c) rfl
                have p0 := obj_cell hq2' 0 (v := .int .i64 l) rfl
                have p1 := obj_cell hq2' 1 (v := .slice wa n' wc) rfl
                have p2 := obj_cell hq2' 2 (v := .int .i64 (-1)) rfl
                have p3 := obj_cell hq2' 3 (v := .bool false) rfl
                have p4 := obj_cell hq2' 4 (v := .string ⟨#[]⟩) rfl
                have p5 := obj_cell hq2' 5 (v := .int .i64 0) rfl
                have hpow := hM2'.p
                rw [hx1] at hpow
                have HPW := Lib.hid hpow
                clear hM2' hq2' ho2' hpow hx1
                have tk : decide (0 < n') = true := decide_eq_true hKp
                go_wp2_with (at_builtin; refine wpList_append_any rfl _ _ 23 rfl w.heap.size 48 j0 _ 6 72 Try.underlying23 hj jz0 jz1 jz2 (by rfl) (by decide) (.slice v2a (xs.length + 1) v2c) (xs.length + 1) _ (by rfl) (HPW.out.alloc _) (some ⟨W2.heap.size, 0, none⟩) 1 1 (cellsP (plP l (List.replicate n' 2), .slice wa n' wc)) (by rfl) (by rfl) (.inr ⟨_, rfl, cells_add (cells_new _ _ _ rfl _ _)⟩) (by simp [cellsP, prdCells, Value.oneCell']) (by unfold maxLen; omega) (by omega) (by simp; omega) ?_
                             intro v3 w3 hown3 hgrow3
                             obtain ⟨v3a, v3c, rfl, -⟩ := own_cells hown3
                             have hF3 : Fr (fun g => (Value.slice v2a (xs.length + 1) v2c).ownBlock = some g) W2 w3 := (Fr.alloc _ _).trans (Fr.grown hgrow3)
                             have hgw := hF3.obj H2.out.1.g (fun e => own_ne H2.out.1.p H2.out.1.g (by decide) e)
                             have d2 := obj_cell hgw 2 (v := .slice v2a (xs.length + 1) v2c) rfl
                             have fg := obj_frozen hgw 2
                             have HF3 := Lib.hid hF3
                             clear hF3 hgw)
                go_roundw
                case rel =>
                  obtain ⟨hM3, -⟩ := H2.out.1.prod (x := (plP l (List.replicate n' 2), .slice wa n' wc)) (by have := ownDown H2.out.2.2.1 (show w.heap.size ≤ A by omega); show W2.ownsRow _ _ _ _ (List.replicate n' (2 : Int)).length _; rw [List.length_replicate]; exact this) HF3.out (by rw [H2.out.2.2.2]; exact hown3)
                  obtain ⟨f', rfl⟩ : ∃ f', f = f' + 1 := ⟨f - 1, by have := HF.out.1; omega⟩
                  obtain ⟨-, hgo, hso, hxo⟩ := HM.out
                  have hstep := rowGo_step (f := f') (i := i) hn0 ss (xs.map Prod.fst)
                  rw [hgo] at hstep
                  rw [if_neg (by omega), if_neg (by omega), show min 9 n' = n' by omega, List.append_nil, ← HL.out] at hstep
                  refine ⟨0, i + 1, f', _, _, ss, _, rfl, rfl, by simp, by have := HF.out.2; omega, fun h => absurd h (by omega), by omega, ?_, by omega, by simp; omega, hso, fun x hx => ?_, hM3⟩
                  · rw [show n' - 9 = 0 by omega] at hstep
                    rw [hstep]
                    simp
                  · rcases List.mem_append.1 hx with hx | hx
                    · rcases List.mem_append.1 hx with hx | hx
                      · exact hxo x hx
                      · rw [List.mem_singleton.1 hx]
                        exact ⟨plP_ok (by rw [HL.out]; unfold i64; omega), by show (List.replicate n' (1 : Int)).length ≤ 10; rw [List.length_replicate]; omega, fun y hy => by have := (List.mem_replicate.1 hy).2; omega⟩
                    · rw [List.mem_singleton.1 hx]
                      exact ⟨plP_ok (by rw [HL.out]; unfold i64; omega), by show (List.replicate n' (2 : Int)).length ≤ 10; rw [List.length_replicate]; omega, fun y hy => by have := (List.mem_replicate.1 hy).2; omega⟩
                case measure => simp [intOf]; omega
end Go.Proofs.Ytgmkpncpcikecaa
namespace Go.Proofs.Ytgmkpncpcikecaa
open Go.RowKit Go.MapKept Go.ChangeMaps
set_option maxHeartbeats 400000

theorem isStates_nil (w : World) : IsStates w (.slice none 0 0) [] := ⟨by simp, none, 0, rfl, Nat.le_refl _, by unfold maxLen; omega, .inl rfl⟩
theorem col19_states {G : Gram} (hr : rightG G = true) {w : World} {B : Nat} {lv : Value} {vs : List (Value × Value)} {ks : List (List It)} {gs : List (List (Int × Int))} (h : StsR w B lv vs ks gs) (hc : colI G = some (ks, gs)) : IsStates w lv (ks.zip gs) := by
  have ho := colI_ok hc
  have hk := colI_kok hr hc
  have hle := ho.le
  have hg := (rightG_parts hr).1
  refine h.states (by have := h.lk; omega) (fun k hk' => ?_) fun e he => ?_
  · obtain ⟨j, hj, rfl⟩ := List.getElem_of_mem hk'
    have := (hk j hj).1
    omega
  · obtain ⟨j, hj, rfl⟩ := List.getElem_of_mem he
    obtain ⟨k, _, hE⟩ := ho.edges j hj
    obtain ⟨h1, h2⟩ := edgesIs_in hE
    have h3 : (symsI G).length = G.syms.length := by simp [symsI]
    refine ⟨by omega, fun x hx => ?_⟩
    obtain ⟨h4, h5, h6⟩ := h2 x hx
    unfold symsI at h4
    obtain ⟨q, hq, hqx⟩ := List.mem_map.1 h4
    have hq := List.mem_range.1 hq
    unfold i64
    omega
theorem col19_bad {G : Gram} (hr : rightG G = false) (v : Value) (w : World) (h : IsGram w v G) : Calls Try.prog 8 #[v] w fun e w' => e = .returned (.tuple #[.slice none 0 0, .int .i64 2]) ∧ Below w.heap.size w w' := by
  refine (col19_any G v w h).mono ?_
  rintro e w' ⟨hb, hc⟩
  rw [if_pos hr] at hc
  exact ⟨hc, hb⟩
theorem col19_many {G : Gram} (hr : rightG G = true) (hn : colI G = none) (v : Value) (w : World) (h : IsGram w v G) : Calls Try.prog 8 #[v] w fun e w' => e = .returned (.tuple #[.slice none 0 0, .int .i64 104]) ∧ Below w.heap.size w w' := by
  refine (col19_any G v w h).mono ?_
  rintro e w' ⟨hb, hc⟩
  rw [if_neg (by rw [hr]; decide), hn] at hc
  exact ⟨hc, hb⟩
theorem col19_good {G : Gram} {ks : List (List It)} {gs : List (List (Int × Int))} (hr : rightG G = true) (hn : colI G = some (ks, gs)) (v : Value) (w : World) (h : IsGram w v G) :
    Calls Try.prog 8 #[v] w fun e w' => ∃ a c, e = .returned (.tuple #[.slice a ks.length c, .int .i64 0]) ∧ IsStates w' (.slice a ks.length c) (ks.zip gs) ∧ Below w.heap.size w w' := by
  refine (col19_any G v w h).mono ?_
  rintro e w' ⟨hb, hc⟩
  rw [if_neg (by rw [hr]; decide), hn] at hc
  obtain ⟨B, lv, vs, rfl, hst, -⟩ := hc
  have hs := col19_states hr hst hn
  have hl : (ks.zip gs).length = ks.length := by rw [List.length_zip, (colI_ok hn).len]; omega
  obtain ⟨a, c, e, -, -, -⟩ := hs.parts
  rw [hl] at e
  have e' : lv = .slice a ks.length c := e
  subst e'
  exact ⟨a, c, rfl, hs, hb⟩
theorem same19_one (u v : Value) (K : List Stt) (w : World) (hu : IsStates w u K) (hv : IsStates w v K) :
    Calls Try.prog 9 #[u, v] w fun e w' => e = .returned (.bool true) ∧ Below w.heap.size w w' := by
  have := same19_any u v K K w hu hv
  rwa [decide_eq_true rfl] at this
set_option maxRecDepth 100000 in
set_option maxHeartbeats 8000000 in
theorem many_any (w : World) :
    Calls Try.prog 3 #[] w fun e w' => e = .returned (.bool true) ∧ Below w.heap.size w w' := by
  go_enter Try.func3, Try.ntmps3
  go_wp2
  go_loopw [1, 2, 3, 4, 5, 6, 7] (fun mv nv _ _ _ _ _ wr => ∃ (k : Nat) (mb : Bool), 110 ≤ k ∧ k ≤ 124 ∧ nv = .int .i64 (k : Int) ∧ mv = .bool mb ∧ (122 ≤ k → mb = true) ∧ Below w.heap.size w wr) (fun _ nv _ _ _ _ _ _ => 124 - (intOf nv).toNat)
  case atStart => exact ⟨110, false, by omega, by omega, rfl, rfl, fun h => by omega, Below.refl _ _⟩
  case round =>
    obtain ⟨k, mb, hk0, hk1, rfl, rfl, hmb, hB⟩ := hrel
    by_cases hlt : k < 124
    · have ht : decide (k < 124) = true := decide_eq_true hlt
      have HRW := Lib.hid (row_any k (by omega) wr)
      go_upto_region 6 with (go_at_call 6; refine HRW.out.mono ?_; rintro e w1 ⟨gv, rfl, hg, hb1⟩; obtain ⟨-, gs0, gp0, rfl, hgs, hgp⟩ := id hg; obtain ⟨-, ga, gac, rfl, -⟩ := id hgs; obtain ⟨-, gb, gbc, rfl, -⟩ := id hgp; clear hgs hgp)
      have hob := alloc_obj w1 (Obj.cells #[.int .i64 (rowG k k).terms, (.slice ga (rowG k k).syms.length gac), (.slice gb (rowG k k).prods.length gbc)] 25 (0, 0))
      have hg2 := hg.fr (Fr.alloc (ch := nothing) w1 (Obj.cells #[.int .i64 (rowG k k).terms, (.slice ga (rowG k k).syms.length gac), (.slice gb (rowG k k).prods.length gbc)] 25 (0, 0)))
      have hb2 : Below w.heap.size w (w1.alloc (Obj.cells #[.int .i64 (rowG k k).terms, (.slice ga (rowG k k).syms.length gac), (.slice gb (rowG k k).prods.length gbc)] 25 (0, 0))) := (hB.trans (hb1.mono hB.size)).alloc (Nat.le_trans hB.size hb1.size) _
      have HG2 := Lib.hid hg2
      have c0 := obj_cell hob 0 (v := .int .i64 (rowG k k).terms) rfl
      have c1 := obj_cell hob 1 (v := (.slice ga (rowG k k).syms.length gac)) rfl
      have c2 := obj_cell hob 2 (v := (.slice gb (rowG k k).prods.length gbc)) rfl
      have HB2 := Lib.hid hb2
      have HMB := Lib.hid hmb
      have hR := row121_right
      have hN := row121_none
      have HRN := Lib.hid (And.intro hR hN)
      have hk121 : rightG (rowG k k) = false ∨ (∃ q, colI (rowG k k) = some q) → k ≠ 121 := fun h e => by
        subst e
        rcases h with h | ⟨q, h⟩
        · rw [HRN.out.1] at h; cases h
        · have := HRN.out.2; rw [h] at this; cases this
      have HK := Lib.hid hk121
      clear hB hb1 hg hob hg2 hb2 hmb HRW hR hN hk121
      generalize w1.alloc (Obj.cells #[.int .i64 (rowG k k).terms, (.slice ga (rowG k k).syms.length gac), (.slice gb (rowG k k).prods.length gbc)] 25 (0, 0)) = W2 at *
      cases hr : rightG (rowG k k) with
      | false =>
        have HRR := Lib.hid hr
        have HC1 := Lib.hid (col_bad hr _ W2 HG2.out)
        have hg2' := HG2.out
        clear hr
        cases mb
        · go_wp2_with (first
            | (go_at_call 7; refine HC1.out.mono ?_; rintro e w3 ⟨rfl, hb3⟩; have d0 := (Fr.new hb3).cell c0 id; have d1 := (Fr.new hb3).cell c1 id; have d2 := (Fr.new hb3).cell c2 id; have HC2 := Lib.hid (col19_bad HRR.out _ w3 (hg2'.fr (Fr.new hb3))); have HB3 := Lib.hid hb3; clear hb3)
            | (go_at_call 8; refine HC2.out.mono ?_; rintro e w4 ⟨rfl, hb4⟩; have HSM := Lib.hid (same19_one (.slice none 0 0) (.slice none 0 0) [] w4 (isStates_nil _) (isStates_nil _)); have HB4 := Lib.hid hb4; clear hb4)
            | (go_at_call 9; refine HSM.out.mono ?_; rintro e w5 ⟨rfl, hb5⟩))
          go_roundw
          case rel => exact ⟨k + 1, false, by omega, by omega, by simp, rfl, (fun h => by have h1 := HK.out (.inl HRR.out); have h2 := HMB.out (by omega); cases h2), by
            have h1 := HB2.out.trans (HB3.out.mono HB2.out.size)
            have h2 := h1.trans (HB4.out.mono h1.size)
            exact h2.trans (hb5.mono h2.size)⟩
          case measure => simp [intOf]; omega
        · go_wp2_with (first
            | (go_at_call 7; refine HC1.out.mono ?_; rintro e w3 ⟨rfl, hb3⟩; have d0 := (Fr.new hb3).cell c0 id; have d1 := (Fr.new hb3).cell c1 id; have d2 := (Fr.new hb3).cell c2 id; have HC2 := Lib.hid (col19_bad HRR.out _ w3 (hg2'.fr (Fr.new hb3))); have HB3 := Lib.hid hb3; clear hb3)
            | (go_at_call 8; refine HC2.out.mono ?_; rintro e w4 ⟨rfl, hb4⟩; have HSM := Lib.hid (same19_one (.slice none 0 0) (.slice none 0 0) [] w4 (isStates_nil _) (isStates_nil _)); have HB4 := Lib.hid hb4; clear hb4)
            | (go_at_call 9; refine HSM.out.mono ?_; rintro e w5 ⟨rfl, hb5⟩))
          go_roundw
          case rel => exact ⟨k + 1, true, by omega, by omega, by simp, rfl, (fun _ => rfl), by
            have h1 := HB2.out.trans (HB3.out.mono HB2.out.size)
            have h2 := h1.trans (HB4.out.mono h1.size)
            exact h2.trans (hb5.mono h2.size)⟩
          case measure => simp [intOf]; omega
      | true =>
        have HRR := Lib.hid hr
        cases hc : colI (rowG k k) with
        | none =>
          have HCI := Lib.hid hc
          have HC1 := Lib.hid (col_many hr hc _ W2 HG2.out)
          have hg2' := HG2.out
          clear hr hc
          cases mb
          · go_wp2_with (first
              | (go_at_call 7; refine HC1.out.mono ?_; rintro e w3 ⟨rfl, hb3⟩; have d0 := (Fr.new hb3).cell c0 id; have d1 := (Fr.new hb3).cell c1 id; have d2 := (Fr.new hb3).cell c2 id; have HC2 := Lib.hid (col19_many HRR.out HCI.out _ w3 (hg2'.fr (Fr.new hb3))); have HB3 := Lib.hid hb3; clear hb3)
              | (go_at_call 8; refine HC2.out.mono ?_; rintro e w4 ⟨rfl, hb4⟩; have HSM := Lib.hid (same19_one (.slice none 0 0) (.slice none 0 0) [] w4 (isStates_nil _) (isStates_nil _)); have HB4 := Lib.hid hb4; clear hb4)
              | (go_at_call 9; refine HSM.out.mono ?_; rintro e w5 ⟨rfl, hb5⟩))
            go_roundw
            case rel => exact ⟨k + 1, true, by omega, by omega, by simp, rfl, (fun _ => rfl), by
              have h1 := HB2.out.trans (HB3.out.mono HB2.out.size)
              have h2 := h1.trans (HB4.out.mono h1.size)
              exact h2.trans (hb5.mono h2.size)⟩
            case measure => simp [intOf]; omega
          · go_wp2_with (first
              | (go_at_call 7; refine HC1.out.mono ?_; rintro e w3 ⟨rfl, hb3⟩; have d0 := (Fr.new hb3).cell c0 id; have d1 := (Fr.new hb3).cell c1 id; have d2 := (Fr.new hb3).cell c2 id; have HC2 := Lib.hid (col19_many HRR.out HCI.out _ w3 (hg2'.fr (Fr.new hb3))); have HB3 := Lib.hid hb3; clear hb3)
              | (go_at_call 8; refine HC2.out.mono ?_; rintro e w4 ⟨rfl, hb4⟩; have HSM := Lib.hid (same19_one (.slice none 0 0) (.slice none 0 0) [] w4 (isStates_nil _) (isStates_nil _)); have HB4 := Lib.hid hb4; clear hb4)
              | (go_at_call 9; refine HSM.out.mono ?_; rintro e w5 ⟨rfl, hb5⟩))
            go_roundw
            case rel => exact ⟨k + 1, true, by omega, by omega, by simp, rfl, (fun _ => rfl), by
              have h1 := HB2.out.trans (HB3.out.mono HB2.out.size)
              have h2 := h1.trans (HB4.out.mono h1.size)
              exact h2.trans (hb5.mono h2.size)⟩
            case measure => simp [intOf]; omega
        | some q =>
          obtain ⟨ks, gs⟩ := q
          have HCI := Lib.hid hc
          have HC1 := Lib.hid (col_good hr hc _ W2 HG2.out)
          have hg2' := HG2.out
          clear hr hc
          generalize hnl : ks.length = nl at *
          have HNL := Lib.hid hnl
          clear hnl
          cases mb
          · go_wp2_with (first
              | (go_at_call 7; refine HC1.out.mono ?_; rintro e w3 ⟨a1, b1, rfl, hs3, hb3⟩; have d0 := (Fr.new hb3).cell c0 id; have d1 := (Fr.new hb3).cell c1 id; have d2 := (Fr.new hb3).cell c2 id; have HC2 := Lib.hid (col19_good HRR.out HCI.out _ w3 (hg2'.fr (Fr.new hb3))); have HB3 := Lib.hid hb3; have HS3 := Lib.hid hs3; clear hb3 hs3)
              | (go_at_call 8; refine HC2.out.mono ?_; rintro e w4 ⟨a2, b2, rfl, hs4, hb4⟩; have HSM := Lib.hid (same19_one _ _ _ w4 (HS3.out.fr (Fr.new hb4)) hs4); have HB4 := Lib.hid hb4; clear hb4)
              | (go_at_call 9; refine HSM.out.mono ?_; rintro e w5 ⟨rfl, hb5⟩))
            go_roundw
            case rel => exact ⟨k + 1, false, by omega, by omega, by simp, rfl, (fun h => by have h1 := HK.out (.inr ⟨_, HCI.out⟩); have h2 := HMB.out (by omega); cases h2), by
              have h1 := HB2.out.trans (HB3.out.mono HB2.out.size)
              have h2 := h1.trans (HB4.out.mono h1.size)
              exact h2.trans (hb5.mono h2.size)⟩
            case measure => simp [intOf]; omega
          · go_wp2_with (first
              | (go_at_call 7; refine HC1.out.mono ?_; rintro e w3 ⟨a1, b1, rfl, hs3, hb3⟩; have d0 := (Fr.new hb3).cell c0 id; have d1 := (Fr.new hb3).cell c1 id; have d2 := (Fr.new hb3).cell c2 id; have HC2 := Lib.hid (col19_good HRR.out HCI.out _ w3 (hg2'.fr (Fr.new hb3))); have HB3 := Lib.hid hb3; have HS3 := Lib.hid hs3; clear hb3 hs3)
              | (go_at_call 8; refine HC2.out.mono ?_; rintro e w4 ⟨a2, b2, rfl, hs4, hb4⟩; have HSM := Lib.hid (same19_one _ _ _ w4 (HS3.out.fr (Fr.new hb4)) hs4); have HB4 := Lib.hid hb4; clear hb4)
              | (go_at_call 9; refine HSM.out.mono ?_; rintro e w5 ⟨rfl, hb5⟩))
            go_roundw
            case rel => exact ⟨k + 1, true, by omega, by omega, by simp, rfl, (fun _ => rfl), by
              have h1 := HB2.out.trans (HB3.out.mono HB2.out.size)
              have h2 := h1.trans (HB4.out.mono h1.size)
              exact h2.trans (hb5.mono h2.size)⟩
            case measure => simp [intOf]; omega
    · obtain rfl : k = 124 := by omega
      have hm := hmb (by omega)
      subst hm
      have HAW := Lib.hid (awake19_any wr)
      have HB := Lib.hid hB
      clear hB hmb
      go_wp2_with (go_at_call 10; refine HAW.out.mono ?_; rintro e w2 ⟨rfl, hb2⟩)
      go_ret
      exact ⟨rfl, HB.out.trans (hb2.mono HB.out.size)⟩
end Go.Proofs.Ytgmkpncpcikecaa
