/-
  gristmillref19: Items (of items that may be), Closure.
  gristmillref21: Aheads in plain Lean; a state's items laid one by one; lookaheads in memory.
-/
import Derived.Test.YtpnihegmhalcfaaRunG23
import Derived.Test.YtpnihegmhalcfaaRunG14
import Derived.Test.YtpnihegmhalcfaaRunG11
namespace Go.Proofs.Ytpnihegmhalcfaa
open Go.RowKit Go.MapKept Go.ChangeMaps
set_option maxHeartbeats 400000

set_option maxRecDepth 100000 in
set_option maxHeartbeats 4000000 in
theorem items19_any (G : Gram) (v kv : Value) (K : List It) (w : World) (h : IsGram w v G) (hk : IsItems w kv K) (hin : ∀ x ∈ K, InI G x) :
    Calls Try.prog 90 #[v, kv] w fun e w' => e = .returned (.bool true) ∧ Below w.heap.size w w' := by
  have hG := h
  obtain ⟨hterms, vs, vp, rfl, hs, hp⟩ := h
  obtain ⟨-, sa, sc, rfl, -, -, -⟩ := id hs
  obtain ⟨-, pa, pc, rfl, -, -, -⟩ := id hp
  obtain ⟨ka, kc, rfl, -, -, hkl⟩ := id hk.parts
  have hS0 : Stands w.heap.size w G sa pa sc pc (w.alloc (grO G sa pa sc pc)) := ⟨alloc_obj _ _, hG.fr (Fr.alloc _ _), (Below.refl _ w).alloc (Nat.le_refl _) _⟩
  have HS0 := Lib.hid hS0
  have HK := Lib.hid hk
  have HG := Lib.hid hG
  have HIN := Lib.hid hin
  obtain ⟨n, hn⟩ : ∃ n, K.length = n := ⟨_, rfl⟩
  rw [hn] at hkl HK ⊢
  have HN := Lib.hid hn
  clear hS0 hs hp hG hk hin hn
  go_enter Try.func90, Try.ntmps90
  go_upto_region 1 with fail
  unfold grO at HS0
  generalize hw1 : w.alloc (Obj.cells #[.int .i64 G.terms, .slice sa G.syms.length sc, .slice pa G.prods.length pc] 25 (0, 0)) = W1 at *
  clear hw1
  have d2 := HS0.out.d2
  go_wp2
  go_loopw [5] (fun i wr => ∃ k : Nat, k ≤ n ∧ i = .int .i64 (k : Int) ∧ ∃ q, wr = W1.drewN q) (fun i _ => n - (intOf i).toNat)
  case atStart => exact ⟨0, Nat.zero_le _, rfl, 0, rfl⟩
  case round =>
    obtain ⟨k, hk, rfl, q, hq⟩ := hrel
    have hfr : Fr nothing W1 wr := by rw [hq]; exact Fr.drewN _ _
    have HQ := Lib.hid (And.intro hq hfr)
    have d2 := hfr.cell d2 id
    clear hq
    by_cases hlt : k < n
    · have hkr : k < K.length := by rw [HN.out]; exact hlt
      have hbw := HS0.out.below.trans (hfr.below_new.mono HS0.out.below.size)
      obtain ⟨b, o, rfl, c0, c1, -, -⟩ := (HK.out.fr (Fr.new hbw)).at hkr
      obtain ⟨x0, x1, x2, x3⟩ := HIN.out _ (List.getElem_mem hkr)
      generalize K[k] = x at *
      obtain ⟨xa, xb⟩ := x
      simp only at x0 x1 x2 x3 c0 c1
      obtain ⟨p, rfl⟩ : ∃ p : Nat, xa = p := ⟨xa.toNat, by omega⟩
      obtain ⟨d, rfl⟩ : ∃ d : Nat, xb = d := ⟨xb.toNat, by omega⟩
      have hp : p < G.prods.length := by omega
      have hro : rightOf G (p : Int) = G.prods[p].right := by
        unfold rightOf
        rw [Int.toNat_natCast, List.getElem?_eq_getElem hp]
        rfl
      rw [hro] at x3
      obtain ⟨pb, po, ra, rc, rfl, hri, -, hcx⟩ := IsGram.prd (HG.out.fr (Fr.new hbw)) p hp
      have y1 := hcx 1 (by simp [prdCells])
      simp only [prdCells, List.getElem_cons_zero, List.getElem_cons_succ] at y1
      have hrl := hri.2.1
      generalize G.prods[p].right.length = rl at *
      have q1 : ¬ (p : Int) < 0 := by omega
      have q2 : ¬ G.prods.length ≤ p := by omega
      have q3 : ¬ (d : Int) < 0 := by omega
      have q4 : ¬ rl < d := by omega
      have q1' : decide ((p : Int) < 0) = false := decide_eq_false q1
      have q2' : decide (G.prods.length ≤ p) = false := decide_eq_false q2
      have q3' : decide ((d : Int) < 0) = false := decide_eq_false q3
      have q4' : decide (rl < d) = false := decide_eq_false q4
      clear hcx hri hro x0 x1 x2 x3 hkr hfr hbw
      go_upto_region 4 with fail
      go_quiet (fail)
      go_wp2
      go_roundw
      case rel => exact ⟨k + 1, by omega, by simp, _, by rw [HQ.out.1, World.drewN_drewN]⟩
      case measure => simp [intOf]; omega
    · have hbw := HS0.out.below.trans (hfr.below_new.mono HS0.out.below.size)
      have HE := Lib.hid hbw
      clear hbw hfr
      go_wp2
      go_ret
      exact ⟨rfl, HE.out⟩
set_option maxRecDepth 100000 in
set_option maxHeartbeats 4000000 in
theorem closure19_any (G : Gram) (v kv : Value) (K : List It) (w : World) (h : IsGram w v G) (hr : rightG G = true) (hk : IsItems w kv K) (hin : ∀ x ∈ K, InI G x) (hl : K.length ≤ 90000) :
    Calls Try.prog 54 #[v, kv] w fun e w' => ∃ u, e = .returned u ∧ OwnI w' w.heap.size u (cloL G K) ∧ Below w.heap.size w w' := by
  have hG := h
  obtain ⟨hterms, vs, vp, rfl, hs, hp⟩ := h
  obtain ⟨-, sa, sc, rfl, -, -, -⟩ := id hs
  obtain ⟨-, pa, pc, rfl, -, -, -⟩ := id hp
  have hS0 : Stands w.heap.size w G sa pa sc pc (w.alloc (grO G sa pa sc pc)) := ⟨alloc_obj _ _, hG.fr (Fr.alloc _ _), (Below.refl _ w).alloc (Nat.le_refl _) _⟩
  have HS0 := Lib.hid hS0
  have HK := Lib.hid hk
  have HIN := Lib.hid hin
  have HR := Lib.hid hr
  have HL := Lib.hid hl
  clear hS0 hs hp hG hk hin hr hl
  go_enter Try.func54, Try.ntmps54
  go_upto_region 1 with fail
  unfold grO at HS0
  generalize hw1 : w.alloc (Obj.cells #[.int .i64 G.terms, .slice sa G.syms.length sc, .slice pa G.prods.length pc] 25 (0, 0)) = W1 at *
  clear hw1
  have HRT := Lib.hid (right14_gram G _ W1 HS0.out.gram)
  unfold grV at HRT
  rw [HR.out] at HRT
  have d0 := HS0.out.d0
  have d1 := HS0.out.d1
  have d2 := HS0.out.d2
  have HIT := Lib.hid fun (W : World) (hb : Below W1.heap.size W1 W) => items19_any G _ kv K W (HS0.out.keep hb).gram (HK.out.fr (Fr.new (HS0.out.keep hb).below)) HIN.out
  have HOF := Lib.hid fun (W : World) (hb : Below W1.heap.size W1 W) => of19_any G _ kv K W (HS0.out.keep hb).gram HR.out (HK.out.fr (Fr.new (HS0.out.keep hb).below)) HIN.out HL.out
  unfold grV at HIT HOF
  go_wp2_with (first
    | (go_at_call 48; refine HRT.out.mono ?_; rintro e w2 ⟨rfl, hb2⟩; have hS2 := HS0.out.keep hb2; have d0 := hS2.d0; have d1 := hS2.d1; have d2 := hS2.d2; have hb2 := Lib.hid hb2; clear hS2)
    | (go_at_call 90; with_reducible refine (HIT.out _ hb2.out).mono ?_; rintro e w3 ⟨rfl, hb3⟩; have hb13 := hb2.out.trans (hb3.mono hb2.out.size); have hS3 := HS0.out.keep hb13; have d0 := hS3.d0; have d1 := hS3.d1; have d2 := hS3.d2; have HB3 := Lib.hid hb13; clear hb3 hb13 hS3)
    | (go_at_call 49; refine (HOF.out _ HB3.out).mono ?_; rintro e w4 ⟨u, rfl, -, hown, hb4⟩))
  go_ret
  have h1 := (HS0.out.keep HB3.out).below
  exact ⟨_, rfl, own_base hown h1.size, h1.trans (hb4.mono h1.size)⟩
end Go.Proofs.Ytpnihegmhalcfaa
namespace Go.Proofs.Ytpnihegmhalcfaa
open Go.RowKit Go.MapKept Go.ChangeMaps
set_option maxHeartbeats 400000

theorem isStates_nil (w : World) : IsStates w (.slice none 0 0) [] := ⟨by simp, none, 0, rfl, Nat.le_refl _, by unfold maxLen; omega, .inl rfl⟩
theorem col19_states {G : Gram} (hr : rightG G = true) {w : World} {B : Nat} {lv : Value} {vs : List (Value × Value)} {ks : List (List It)} {gs : List (List (Int × Int))} (h : StsR w B lv vs ks gs) (hc : colI G = some (ks, gs)) : IsStates w lv (ks.zip gs) := by
  have ho := colI_ok hc
  have hk := colI_kok hr hc
  have hle := ho.le
  have hg := (rightG_parts hr).1
  refine h.states (by have := h.lk; omega) (fun k hk' => ?_) fun e he => ?_
  · obtain ⟨j, hj, rfl⟩ := List.getElem_of_mem hk'
    have := (hk j hj).1
    omega
  · obtain ⟨j, hj, rfl⟩ := List.getElem_of_mem he
    obtain ⟨k, _, hE⟩ := ho.edges j hj
    obtain ⟨h1, h2⟩ := edgesIs_in hE
    have h3 : (symsI G).length = G.syms.length := by simp [symsI]
    refine ⟨by omega, fun x hx => ?_⟩
    obtain ⟨h4, h5, h6⟩ := h2 x hx
    unfold symsI at h4
    obtain ⟨q, hq, hqx⟩ := List.mem_map.1 h4
    have hq := List.mem_range.1 hq
    unfold i64
    omega
theorem col19_bad {G : Gram} (hr : rightG G = false) (v : Value) (w : World) (h : IsGram w v G) : Calls Try.prog 27 #[v] w fun e w' => e = .returned (.tuple #[.slice none 0 0, .int .i64 2]) ∧ Below w.heap.size w w' := by
  refine (col19_any G v w h).mono ?_
  rintro e w' ⟨hb, hc⟩
  rw [if_pos hr] at hc
  exact ⟨hc, hb⟩
theorem col19_many {G : Gram} (hr : rightG G = true) (hn : colI G = none) (v : Value) (w : World) (h : IsGram w v G) : Calls Try.prog 27 #[v] w fun e w' => e = .returned (.tuple #[.slice none 0 0, .int .i64 104]) ∧ Below w.heap.size w w' := by
  refine (col19_any G v w h).mono ?_
  rintro e w' ⟨hb, hc⟩
  rw [if_neg (by rw [hr]; decide), hn] at hc
  exact ⟨hc, hb⟩
theorem col19_good {G : Gram} {ks : List (List It)} {gs : List (List (Int × Int))} (hr : rightG G = true) (hn : colI G = some (ks, gs)) (v : Value) (w : World) (h : IsGram w v G) :
    Calls Try.prog 27 #[v] w fun e w' => ∃ a c, e = .returned (.tuple #[.slice a ks.length c, .int .i64 0]) ∧ IsStates w' (.slice a ks.length c) (ks.zip gs) ∧ Below w.heap.size w w' := by
  refine (col19_any G v w h).mono ?_
  rintro e w' ⟨hb, hc⟩
  rw [if_neg (by rw [hr]; decide), hn] at hc
  obtain ⟨B, lv, vs, rfl, hst, -⟩ := hc
  have hs := col19_states hr hst hn
  have hl : (ks.zip gs).length = ks.length := by rw [List.length_zip, (colI_ok hn).len]; omega
  obtain ⟨a, c, e, -, -, -⟩ := hs.parts
  rw [hl] at e
  have e' : lv = .slice a ks.length c := e
  subst e'
  exact ⟨a, c, rfl, hs, hb⟩

abbrev Ah := Int × Int × List Int
def rowAtI (T : List (List Bool)) (n : Nat) : Option Nat → List Int
  | none => []
  | some k => trueIx (T.getD k []) n
def placeRow (G : Gram) (Ls : List (List It)) (A : Tabs) (s p : Nat) : List Int := rowAtI (tabAt A s) G.terms.toNat (placeI (itsAt Ls s) ((p : Int), ((rightOf G (p : Int)).length : Int)))
def outStep (G : Gram) (Ls : List (List It)) (A : Tabs) (s : Nat) (o : List Ah) (p : Nat) : List Ah :=
  if p = 0 then o else if (placeRow G Ls A s p).isEmpty then o else o ++ [((s : Int), (p : Int), placeRow G Ls A s p)]
def outP (G : Gram) (Ls : List (List It)) (A : Tabs) (s n : Nat) (o : List Ah) : List Ah := (List.range n).foldl (outStep G Ls A s) o
def outA (G : Gram) (Ls : List (List It)) (A : Tabs) (n : Nat) : List Ah := (List.range n).foldl (fun o s => outP G Ls A s G.prods.length o) []
theorem outP_succ (G : Gram) (Ls : List (List It)) (A : Tabs) (s n : Nat) (o : List Ah) : outP G Ls A s (n + 1) o = outStep G Ls A s (outP G Ls A s n o) n := by
  unfold outP
  rw [List.range_succ, List.foldl_append]
  rfl
theorem outA_succ (G : Gram) (Ls : List (List It)) (A : Tabs) (n : Nat) : outA G Ls A (n + 1) = outP G Ls A n G.prods.length (outA G Ls A n) := by
  unfold outA
  rw [List.range_succ, List.foldl_append]
  rfl
theorem growT_succ (G : Gram) (Ls : List (List It)) (gs : List (List (Int × Int))) (s i n : Nat) (z : Bool × Tabs) : growT G Ls gs s i (n + 1) z = growO G Ls gs s i (growT G Ls gs s i n z) n := by
  unfold growT
  rw [List.range_succ, List.foldl_append]
  rfl
theorem growI_succ (G : Gram) (Ls : List (List It)) (gs : List (List (Int × Int))) (s n : Nat) (z : Bool × Tabs) : growI G Ls gs s (n + 1) z = growT G Ls gs s n G.terms.toNat (growI G Ls gs s n z) := by
  unfold growI
  rw [List.range_succ, List.foldl_append]
  rfl
theorem growS_succ (G : Gram) (Ls : List (List It)) (gs : List (List (Int × Int))) (n : Nat) (z : Bool × Tabs) : growS G Ls gs (n + 1) z = growI G Ls gs n (itsAt Ls n).length (growS G Ls gs n z) := by
  unfold growS
  rw [List.range_succ, List.foldl_append]
  rfl
def noTab (m : Nat) (L : List It) : List (List Bool) := List.replicate L.length (List.replicate m false)
def closeL (G : Gram) (ks : List (List It)) : List (List It) := ks.map (cloL G)
def startA (G : Gram) (ks : List (List It)) : Tabs := (putA (closeL G ks) 0 (0, 0) 0 (false, (closeL G ks).map (noTab G.terms.toNat))).2
/-- The lookaheads that the document tells. -/
def aheadL (G : Gram) (ks : List (List It)) (gs : List (List (Int × Int))) : List Ah :=
  outA G (closeL G ks) (untilF (fun A => growS G (closeL G ks) gs ks.length (false, A)) (missA (startA G ks) + 1) (startA G ks)) ks.length
theorem noTab_fits (m : Nat) (L : List It) : fitsT L.length m (noTab m L) := ⟨by simp [noTab], fun r hr => by
  unfold noTab at hr
  rw [(List.mem_replicate.1 hr).2]
  simp⟩

/-! In memory. -/
theorem AllM.nil (w : World) (B m : Nat) : AllM w B (.slice none 0 0) m [] [] [] := ⟨World.ownsRow_nil _ _ _ _, rfl, rfl, fun _ h => by simp at h, fun _ _ h => by simp at h⟩
/-- A state's items have been appended. -/
theorem AllM.snoc {w w' : World} {B : Nat} {v v' : Value} {m : Nat} {ps : List ItP} {Ls : List (List It)} {A : Tabs} {q : ItP} {L : List It} {T : List (List Bool)} (h : AllM w B v m ps Ls A) (hq : OneM w B m q L T) (hap : ∀ b, inB ps b → b ∉ q.bs)
    (hown : w'.ownsRow B 114 1 v' (ps.length + 1) (ps.map ptrP ++ [ptrP q])) (k : Fr (fun b => v.ownBlock = some b) w w') : AllM w' B v' m (ps ++ [q]) (Ls ++ [L]) (A ++ [T]) := by
  have offRow : ∀ {B' e size n : Nat} {u : Value} {xs : List Value}, w.ownsRow B' e size u n xs → e ≠ 114 → w'.ownsRow B' e size u n xs := fun ho he => own_fr ho k fun g hg hc => by
    obtain ⟨_, cs, hcs⟩ := ownObj ho g hg
    exact own_ne h.own hcs (Ne.symm he) hc
  have offObj : ∀ {g : Nat} {cs : Array Value} {e : TypeId} {f : Nat × Nat}, w.heap[g]? = some (.cells cs e f) → e ≠ 114 → w'.heap[g]? = some (.cells cs e f) := fun ho he => k.obj ho fun hc => own_ne h.own ho (Ne.symm he) hc
  have one : ∀ {q L T}, OneM w B m q L T → OneM w' B m q L T := fun hq => ⟨offObj hq.obj (by decide), offRow hq.its (by decide), ⟨offRow hq.tab.own (by decide), hq.tab.fits, fun i hi => offObj (hq.tab.row i hi) (by decide), hq.tab.apart, hq.tab.low⟩, hq.len, hq.low⟩
  have hL := h.lenL
  have hA := h.lenA
  refine ⟨by simpa using hown, by simp [hL], by simp [hA], fun i hi => ?_, fun i j hi hj hij b hb => ?_⟩
  · simp only [List.length_append, List.length_singleton] at hi
    by_cases e : i < ps.length
    · rw [List.getElem_append_left e]
      have h1 := one (h.one i e)
      unfold itsAt tabAt at h1 ⊢
      rw [List.getD_eq_getElem?_getD, List.getElem?_append_left (by omega), ← List.getD_eq_getElem?_getD, List.getD_eq_getElem?_getD (l := A ++ [T]), List.getElem?_append_left (by omega), ← List.getD_eq_getElem?_getD]
      exact h1
    · have : i = ps.length := by omega
      subst this
      rw [List.getElem_concat_length rfl]
      have h1 := one hq
      unfold itsAt tabAt
      rw [List.getD_eq_getElem?_getD, ← hL, List.getElem?_concat_length, List.getD_eq_getElem?_getD (l := A ++ [T]), show Ls.length = A.length by omega, List.getElem?_concat_length]
      exact h1
  · simp only [List.length_append, List.length_singleton] at hi hj
    by_cases e : i < ps.length
    · rw [List.getElem_append_left e] at hb
      by_cases e' : j < ps.length
      · rw [List.getElem_append_left e']
        exact h.apart i j e e' hij b hb
      · have : j = ps.length := by omega
        subst this
        rw [List.getElem_concat_length rfl]
        exact hap b ⟨ps[i], List.getElem_mem e, hb⟩
    · have : i = ps.length := by omega
      subst this
      rw [List.getElem_concat_length rfl] at hb
      by_cases e' : j < ps.length
      · rw [List.getElem_append_left e']
        exact fun hc => hap b ⟨ps[j], List.getElem_mem e', hc⟩ hb
      · omega
/-- How many truths of all tables are out. -/
def outW2 (w : World) (ps : List ItP) : Nat := (ps.map fun q => outT w q.bs).sum
theorem AllM.out {w : World} {B : Nat} {v : Value} {m : Nat} {ps : List ItP} {Ls : List (List It)} {A : Tabs} (h : AllM w B v m ps Ls A) : outW2 w ps = missA A := by
  unfold outW2 missA
  have : ps.map (fun q => outT w q.bs) = A.map missT := by
    refine List.ext_getElem (by simp [h.lenA]) fun i h1 h2 => ?_
    rw [List.getElem_map, List.getElem_map]
    have hi : i < ps.length := by simpa using h1
    have := (h.one i hi).tab.out
    have hiA : i < A.length := by rw [h.lenA]; exact hi
    unfold tabAt at this
    rw [List.getD_eq_getElem?_getD, List.getElem?_eq_getElem hiA] at this
    exact this
  rw [this]

def ahV (s p : Nat) (r : Value) : List Value := [.int .i64 (s : Int), .int .i64 (p : Int), r]
/-- Lookaheads in memory: the values of their rows are vs. -/
structure AhM (w : World) (B : Nat) (v : Value) (vs : List Value) (l : List Ah) : Prop where
  len : l.length = vs.length
  own : w.ownsRow B 123 3 v vs.length ((l.zip vs).flatMap fun x => [.int .i64 x.1.1, .int .i64 x.1.2.1, x.2])
  row : ∀ i (h : i < vs.length), w.ownsRow B 3 1 vs[i] (l[i]'(by rw [len]; exact h)).2.2.length ((l[i]'(by rw [len]; exact h)).2.2.map (Value.int .i64))
theorem AhM.nil (w : World) (B : Nat) : AhM w B (.slice none 0 0) [] [] := ⟨rfl, World.ownsRow_nil _ _ _ _, fun _ h => by simp at h⟩
theorem AhM.fr {ch : Nat → Prop} {w w' : World} {B : Nat} {v : Value} {vs : List Value} {l : List Ah} (h : AhM w B v vs l) (k : Fr ch w w') (hc : ∀ g, B ≤ g → ¬ ch g) : AhM w' B v vs l :=
  ⟨h.len, own_fr h.own k fun g hg => hc g (ownObj h.own g hg).1, fun i hi => own_fr (h.row i hi) k fun g hg => hc g (ownObj (h.row i hi) g hg).1⟩
theorem AhM.snoc {w w' : World} {B : Nat} {v v' rv : Value} {vs : List Value} {l : List Ah} {x : Ah} (h : AhM w B v vs l) (hr : w.ownsRow B 3 1 rv x.2.2.length (x.2.2.map (Value.int .i64)))
    (hown : w'.ownsRow B 123 3 v' (vs.length + 1) (((l.zip vs).flatMap fun x => [.int .i64 x.1.1, .int .i64 x.1.2.1, x.2]) ++ [.int .i64 x.1, .int .i64 x.2.1, rv])) (k : Fr (fun b => v.ownBlock = some b) w w') : AhM w' B v' (vs ++ [rv]) (l ++ [x]) := by
  have off : ∀ {B' e size n : Nat} {u : Value} {xs : List Value}, w.ownsRow B' e size u n xs → e ≠ 123 → w'.ownsRow B' e size u n xs := fun ho he => own_fr ho k fun g hg hc => by
    obtain ⟨_, cs, hcs⟩ := ownObj ho g hg
    exact own_ne h.own hcs (Ne.symm he) hc
  have hlen := h.len
  refine ⟨by simp [hlen], ?_, fun i hi => ?_⟩
  · rw [List.length_append, List.zip_append hlen, List.flatMap_append]
    simpa using hown
  · simp only [List.length_append, List.length_singleton] at hi
    by_cases e : i < vs.length
    · have e' : i < l.length := by rw [hlen]; exact e
      simp only [List.getElem_append_left e, List.getElem_append_left e']
      exact off (h.row i e) (by decide)
    · have : i = vs.length := by omega
      subst this
      have h2 : (l ++ [x])[vs.length]'(by simp [hlen]) = x := by
        exact List.getElem_concat_length (l := l) (a := x) hlen.symm (by simp [hlen])
      simp only [List.getElem_concat_length rfl, h2]
      exact off hr (by decide)
theorem wpOp_want {P : Program} {ops : Array Oper} {Q : Exit → Act → World → Prop} {j : Nat} {o : Oper} {a : Act} {w : World} {K : Act → World → Prop} (hj : ops[j]? = some o) (hg : Region.wanted o (yielded ops a.tmps) = true) (h : Oper.wp P o a w K Q) : wpOp P ops Q j K a w := by
  unfold wpOp
  simp only [hj, hg, if_true]
  exact .inl h
theorem Try.infoAhead : (Try.prog.info? 123).map (fun i => (i.zero, i.size, i.bytes)) = some (some (.agg #[.int .i64 0, .int .i64 0, .slice none 0 0]), 3, 40) := by kernel_rfl
theorem Try.infoItP : (Try.prog.info? 114).map (fun i => (i.zero, i.size, i.bytes)) = some (some (.pointer none), 1, 8) := by kernel_rfl
end Go.Proofs.Ytpnihegmhalcfaa
