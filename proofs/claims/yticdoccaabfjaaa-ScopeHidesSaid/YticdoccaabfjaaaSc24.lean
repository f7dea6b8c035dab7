/-
  Chapter 06's statements: ScopeHides: what stands at each step within the block.
-/
import Derived.Test.YticdoccaabfjaaaSc23
namespace Go.Proofs.Yticdoccaabfjaaa
open Go.RowKit Go.MapKept Go.ChangeMaps
set_option maxHeartbeats 400000

/-! What a step leaves of names and types. -/
def tyB (l : List Nm) : List (ByteArray × Ty) := l.map fun n => (n.s, n.t)
def tysS (σ : List (List Nm)) : List (List (ByteArray × Ty)) := σ.map tyB
theorem tyIn_tyB {l l' : List Nm} (h : tyB l = tyB l') (s : ByteArray) : tyIn l s = tyIn l' s := by
  have : ∀ l : List Nm, tyIn l s = ((tyB l).find? fun x => decide (x.1 = s)).map Prod.snd := by
    intro l
    unfold tyIn tyB
    rw [List.find?_map]
    cases hf : l.find? fun n => decide (n.s = s) with
    | none => simp [Function.comp_def, hf]
    | some x => simp [Function.comp_def, hf]
  rw [this, this, h]
theorem findS_tysS {σ σ' : List (List Nm)} (h : tysS σ = tysS σ') (s : ByteArray) : findS σ s = findS σ' s := by
  have : ∀ R R' : List (List Nm), R.map tyB = R'.map tyB → (R.findSome? fun l => tyIn l s) = R'.findSome? fun l => tyIn l s := by
    intro R
    induction R with
    | nil => intro R' e; cases R' with
      | nil => rfl
      | cons _ _ => simp at e
    | cons l R ih => intro R' e; cases R' with
      | nil => simp at e
      | cons l' R' =>
        simp only [List.map_cons, List.cons.injEq] at e
        rw [List.findSome?_cons, List.findSome?_cons, tyIn_tyB e.1, ih R' e.2]
  unfold findS
  refine this _ _ ?_
  unfold tysS at h
  rw [List.map_reverse, List.map_reverse, h]
theorem tyB_use (l : List Nm) (s : ByteArray) : tyB (useBlk l s) = tyB l := by
  unfold tyB useBlk
  rw [List.map_map]
  refine List.map_congr_left fun n _ => ?_
  simp only [Function.comp]
  split <;> rfl
theorem tysS_use (σ : List (List Nm)) (s : ByteArray) : tysS (useS σ s) = tysS σ := by
  have : ∀ R : List (List Nm), (useR s R).map tyB = R.map tyB := by
    intro R
    induction R with
    | nil => rfl
    | cons l R ih =>
      unfold useR
      split
      · simp [tyB_use]
      · simp [ih]
  unfold tysS useS
  rw [List.map_reverse, this, List.map_reverse, List.reverse_reverse]
theorem tysS_len {σ σ' : List (List Nm)} (h : tysS σ = tysS σ') : σ.length = σ'.length := by
  have := congrArg List.length h
  simpa [tysS] using this

/-- What a name's flag is, where the map may lag behind at one name. -/
def flagOk (f : Value → Option Value) (hole : Option (ByteArray × Bool)) (n : Nm) : Prop :=
  match hole with
  | some (s, u) => if n.s = s then n.used = u else f (.string n.s) = some (.bool n.used)
  | none => f (.string n.s) = some (.bool n.used)
structure Side (wr : World) (ub B : Nat) (S6 : Nat → Prop) (r : Value) (ts : List Ty) (v : Value) (rn : List ByteArray) (f : Value → Option Value) : Prop where
  map : MapIs wr .string ub f
  row : wr.ownsRow B 9 1 v rn.length (strs rn)
  ty : TyRow wr S6 r ts
def Off (n0 ub : Nat) (S6 : Nat → Prop) (v : Value) (F : Nat → Prop) : Prop := ∀ g, F g → n0 ≤ g ∧ g ≠ ub ∧ v.ownBlock ≠ some g ∧ ¬ S6 g
theorem Side.keep {wr w' : World} {n0 ub B : Nat} {S6 ch : Nat → Prop} {r v : Value} {ts : List Ty} {rn : List ByteArray} {f : Value → Option Value} (h : Side wr ub B S6 r ts v rn f) (k : Fr ch wr w') (hc : Off n0 ub S6 v ch) : Side w' ub B S6 r ts v rn f :=
  ⟨h.map.fr k fun e => (hc _ e).2.1 rfl, own_fr h.row k fun g hg e => (hc g e).2.2.1 hg, h.ty.keep k fun g hg e => (hc g e).2.2.2 hg⟩
/-- What stands within the block, with further blocks in it. -/
structure St2 (w : World) (n0 p ub B : Nat) (S6 : Nat → Prop) (r : Value) (ts : List Ty) (σ0 : List (List Nm)) (n : Nat) (ex : List (List Nm)) (rn iN : List ByteArray) (hole : Option (ByteArray × Bool)) (F : Nat → Prop) (v : Value) (wr : World) : Prop where
  st : ∃ σ inner f, Sc wr F p (σ ++ [inner] ++ ex) ∧ tysS σ = tysS σ0 ∧ FitN (σ ++ [inner] ++ ex) n ∧ Off n0 ub S6 v F ∧ (∀ g, F g → g < wr.heap.size) ∧ Side wr ub B S6 r ts v rn f ∧ (∀ x ∈ inner, flagOk f hole x) ∧ inner.map Nm.s = iN
  below : Below n0 w wr
  hB : B ≤ wr.heap.size
/-- Where all that lies. -/
structure Lay (w : World) (n0 ub B : Nat) (S6 : Nat → Prop) : Prop where
  hn : n0 ≤ w.heap.size
  nB : n0 ≤ B
  uB : ub < B
  s6 : ∀ g, S6 g → g < B
  nu : n0 ≤ ub
  uS : ¬ S6 ub
theorem Off.grow {w wa wb : World} {n0 ub B : Nat} {S6 F : Nat → Prop} {v : Value} {m : Nat} {xs : List Value} (hl : Lay w n0 ub B S6) (h : Off n0 ub S6 v F) (hB : B ≤ wa.heap.size) (hv : wa.ownsRow B 9 1 v m xs) : Off n0 ub S6 v (grow F wa wb) := fun g hg => by
  rcases hg with hg | hg
  · exact h g hg
  · refine ⟨?_, ?_, fun e => ?_, fun e => ?_⟩
    · have := hl.nB; omega
    · have := hl.uB; omega
    · have := (hv.lt g e).2; omega
    · have := hl.s6 g e; omega
theorem grow_lt {F : Nat → Prop} {wa wb : World} (h : ∀ g, F g → g < wa.heap.size) (hs : wa.heap.size ≤ wb.heap.size) : ∀ g, grow F wa wb g → g < wb.heap.size := fun g hg => by
  rcases hg with hg | hg
  · have := h g hg; omega
  · exact hg.2
section
variable {w wr w' : World} {n0 p ub B n n' : Nat} {S6 : Nat → Prop} {r v : Value} {ts : List Ty} {σ0 ex : List (List Nm)} {rn iN : List ByteArray} {hole : Option (ByteArray × Bool)} {F : Nat → Prop}
theorem St2.new (hl : Lay w n0 ub B S6) (h : St2 w n0 p ub B S6 r ts σ0 n ex rn iN hole F v wr) (k : Below wr.heap.size wr w') : St2 w n0 p ub B S6 r ts σ0 n ex rn iN hole F v w' := by
  obtain ⟨⟨σ, inner, f, h1, h2, h3, h4, h8, h5, h6, h7⟩, hb, hB⟩ := h
  exact ⟨⟨σ, inner, f, h1.new (Fr.new k), h2, h3, h4, fun g hg => Nat.lt_of_lt_of_le (h8 g hg) k.size, h5.keep (n0 := n0) (Fr.new k) (fun g e => e.elim), h6, h7⟩, hb.trans (k.mono (by have := hl.nB; omega)), Nat.le_trans hB k.size⟩
theorem St2.mono (h : St2 w n0 p ub B S6 r ts σ0 n ex rn iN hole F v wr) (hn : n ≤ n') : St2 w n0 p ub B S6 r ts σ0 n' ex rn iN hole F v wr := by
  obtain ⟨⟨σ, inner, f, h1, h2, h3, h4⟩, hb, hB⟩ := h
  exact ⟨⟨σ, inner, f, h1, h2, h3.mono hn, h4⟩, hb, hB⟩
end
section
variable {w wr : World} {n0 p ub B n : Nat} {S6 : Nat → Prop} {r v : Value} {ts : List Ty} {σ0 : List (List Nm)} {rn iN : List ByteArray} {F : Nat → Prop}
/-- A step of the scope's: which blocks are its own behind it; what it may have turned. -/
def Step (F : Nat → Prop) (wr : World) (F' : Nat → Prop) (w' : World) : Prop := (∀ g, F' g → F g ∨ wr.heap.size ≤ g) ∧ Fr F wr w'
theorem step_grow {wr w' : World} (h : Fr F wr w') : Step F wr (grow F wr w') w' := ⟨fun _ hg => hg.imp id And.left, h⟩
theorem step_same {wr w' : World} (h : Fr F wr w') : Step F wr F w' := ⟨fun _ hg => .inl hg, h⟩
/-- What do answers within the block. -/
inductive DoAns (k : Nat) (s : ByteArray) (iN : List ByteArray) : Int → List ByteArray → Option (ByteArray × Bool) → Prop
  | new (hk : k = 3 ∨ k = 4) : DoAns k s iN 0 (iN ++ [s]) (some (s, false))
  | old (hk : k = 3 ∨ k = 4) : DoAns k s iN 110 iN none
  | use (hk : k = 5) : DoAns k s iN 0 iN (some (s, true))
  | look (hk : k = 6 ∨ k = 7) : DoAns k s iN 0 iN none
theorem flag_hole {f : Value → Option Value} {x : Nm} {s : ByteArray} {u : Bool} (h : flagOk f none x) (hs : x.s = s → x.used = u) : flagOk f (some (s, u)) x := by
  unfold flagOk at h ⊢
  simp only
  split
  · exact hs ‹_›
  · exact h
theorem useBlk_s (l : List Nm) (s : ByteArray) : (useBlk l s).map Nm.s = l.map Nm.s := by
  unfold useBlk
  rw [List.map_map]
  refine List.map_congr_left fun n _ => ?_
  simp only [Function.comp]
  split <;> rfl
theorem has_false {l : List Nm} {s : ByteArray} (h : hasS l s = false) : ∀ x ∈ l, x.s ≠ s := fun x hx e => by
  unfold hasS at h
  rw [List.any_eq_false] at h
  exact absurd (decide_eq_true e) (h x hx)
theorem st2_do (hl : Lay w n0 ub B S6) (h : St2 w n0 p ub B S6 r ts σ0 n [] rn iN none F v wr) (hn : n ≤ 1000) {op : Int} (hop : -9223372036854775808 ≤ op ∧ op ≤ 9223372036854775807) (hk : 3 ≤ pickN 8 op) (s : ByteArray) {t : Ty} {k : Int} {l c : Nat} {nn : ByteArray} {a : Option Addr} (ht : IsTy wr (fun g => g < n0) t (.agg #[.int .u8 k, .string nn, .slice a l c])) :
    Calls Try.prog 16 #[.pointer (some ⟨p, 0, none⟩), .agg #[.int .i64 op, .string s, .int .u8 k, .string nn, .slice a l c]] wr fun e w' => ∃ z iN' hole F', e = .returned (.int .i64 z) ∧ DoAns (pickN 8 op) s iN z iN' hole ∧ Step F wr F' w' ∧ St2 w n0 p ub B S6 r ts σ0 (n + 1) [] rn iN' hole F' v w' := by
  obtain ⟨⟨σ, inner, f, h1, h2, h3, h4, h8, h5, h6, h7⟩, hb, hB⟩ := h
  rw [List.append_nil] at h1 h3
  refine (do_any h1 (h3.fit (by omega)) op hop s ht fun g hg e => by have := (h4 g e).1; omega).mono ?_
  rintro e w' ⟨he, hs, hf⟩
  have hlt := pickN_lt 8 op (by omega)
  have hfit := h3.step (pickN 8 op) s t
  have h5' := h5.keep (n0 := n0) hf h4
  have h4' : Off n0 ub S6 v (grow F wr w') := h4.grow hl hB h5.row
  have hb' : Below n0 w w' := hb.trans (hf.below (by have := hl.nB; omega) fun g hg => (h4 g hg).1)
  have hB' : B ≤ w'.heap.size := Nat.le_trans hB hf.size
  have h8' := grow_lt h8 hf.size
  generalize pickN 8 op = q at *
  have hq : q = 3 ∨ q = 4 ∨ q = 5 ∨ q = 6 ∨ q = 7 := by omega
  have hdecl : q = 3 ∨ q = 4 → doS (σ ++ [inner]) q s t = declS (σ ++ [inner]) s t := by rintro (rfl | rfl) <;> rfl
  have hlook : q = 6 ∨ q = 7 → doS (σ ++ [inner]) q s t = (σ ++ [inner], 0) := by rintro (rfl | rfl) <;> rfl
  by_cases hq3 : q = 3 ∨ q = 4
  · rw [hdecl hq3, declS_snoc] at hs he hfit
    cases hh : hasS inner s with
    | true =>
      rw [hh] at hs he hfit
      exact ⟨_, _, _, _, he, .old hq3, step_grow hf, ⟨σ, inner, f, by rw [List.append_nil]; exact hs, h2, by rw [List.append_nil]; exact hfit, h4', h8', h5', h6, h7⟩, hb', hB'⟩
    | false =>
      rw [hh] at hs he hfit
      refine ⟨_, _, _, _, he, .new hq3, step_grow hf, ⟨σ, _, f, by rw [List.append_nil]; exact hs, h2, by rw [List.append_nil]; exact hfit, h4', h8', h5', fun x hx => ?_, by simp [h7]⟩, hb', hB'⟩
      rcases List.mem_append.1 hx with hx | hx
      · exact flag_hole (h6 x hx) fun e => absurd e (has_false hh x hx)
      · simp only [List.mem_singleton] at hx
        subst hx
        simp [flagOk]
  · by_cases hq5 : q = 5
    · subst hq5
      have hd : doS (σ ++ [inner]) 5 s t = (useS (σ ++ [inner]) s, 0) := rfl
      rw [hd, useS_snoc] at hs hfit
      rw [hd] at he
      cases hh : hasS inner s with
      | true =>
        rw [hh] at hs hfit
        refine ⟨_, _, _, _, he, .use rfl, step_grow hf, ⟨σ, _, f, by rw [List.append_nil]; exact hs, h2, by rw [List.append_nil]; exact hfit, h4', h8', h5', fun x hx => ?_, by rw [useBlk_s, h7]⟩, hb', hB'⟩
        unfold useBlk at hx
        obtain ⟨y, hy, rfl⟩ := List.mem_map.1 hx
        have hfy := h6 y hy
        unfold flagOk at hfy ⊢
        simp only at hfy ⊢
        by_cases e : y.s = s
        · simp [e]
        · simp [e, hfy]
      | false =>
        rw [hh] at hs hfit
        exact ⟨_, _, _, _, he, .use rfl, step_grow hf, ⟨_, inner, f, by rw [List.append_nil]; exact hs, by rw [tysS_use, h2], by rw [List.append_nil]; exact hfit, h4', h8', h5', fun x hx => flag_hole (h6 x hx) fun e => absurd e (has_false hh x hx), h7⟩, hb', hB'⟩
    · have hq6 : q = 6 ∨ q = 7 := by omega
      rw [hlook hq6] at hs he hfit
      exact ⟨_, _, _, _, he, .look hq6, step_grow hf, ⟨σ, inner, f, by rw [List.append_nil]; exact hs, h2, by rw [List.append_nil]; exact hfit, h4', h8', h5', h6, h7⟩, hb', hB'⟩
theorem st2_open (hl : Lay w n0 ub B S6) (h : St2 w n0 p ub B S6 r ts σ0 n [] rn iN none F v wr) (hn : n ≤ 1000) :
    Calls Try.prog 6 #[.pointer (some ⟨p, 0, none⟩)] wr fun e w' => e = .returned (.tuple #[]) ∧ ∃ F', Step F wr F' w' ∧ St2 w n0 p ub B S6 r ts σ0 (n + 1) [[]] rn iN none F' v w' := by
  obtain ⟨⟨σ, inner, f, h1, h2, h3, h4, h8, h5, h6, h7⟩, hb, hB⟩ := h
  rw [List.append_nil] at h1 h3
  refine (sOpen h1 (h3.fit (by omega))).mono ?_
  rintro e w' ⟨he, hs, hf⟩
  exact ⟨he, _, step_grow hf, ⟨σ, inner, f, hs, h2, fitN_snoc (by have := h3.1; omega) (fun l hl => (h3.mono (Nat.le_succ _)).2 l hl) (by simp), h4.grow hl hB h5.row, grow_lt h8 hf.size, h5.keep (n0 := n0) hf h4, h6, h7⟩,
    hb.trans (hf.below (by have := hl.nB; omega) fun g hg => (h4 g hg).1), Nat.le_trans hB hf.size⟩
theorem st2_decl (hl : Lay w n0 ub B S6) (h : St2 w n0 p ub B S6 r ts σ0 n [[]] rn iN none F v wr) (hn : 1 ≤ n ∧ n ≤ 1000) (s : ByteArray) {t : Ty} {tv : Value} (ht : IsTy wr (fun g => g < n0) t tv) :
    Calls Try.prog 12 #[.pointer (some ⟨p, 0, none⟩), .string s, tv] wr fun e w' => e = .returned (.int .i64 0) ∧ ∃ F', Step F wr F' w' ∧ St2 w n0 p ub B S6 r ts σ0 n [[⟨s, t, false⟩]] rn iN none F' v w' := by
  obtain ⟨⟨σ, inner, f, h1, h2, h3, h4, h8, h5, h6, h7⟩, hb, hB⟩ := h
  refine (sDeclare_ok h1 (h3.fit (by omega)) s rfl ht fun g hg e => by have := (h4 g e).1; omega).mono ?_
  rintro e w' ⟨he, hs, hf⟩
  exact ⟨he, _, step_grow hf, ⟨σ, inner, f, hs, h2, fitN_snoc (by have := h3.1; simpa using this) (fun l hl => h3.2 l (List.mem_append_left _ hl)) (by simpa using hn.1), h4.grow hl hB h5.row, grow_lt h8 hf.size, h5.keep (n0 := n0) hf h4, h6, h7⟩,
    hb.trans (hf.below (by have := hl.nB; omega) fun g hg => (h4 g hg).1), Nat.le_trans hB hf.size⟩
theorem st2_use (hl : Lay w n0 ub B S6) (s : ByteArray) (t : Ty) (h : St2 w n0 p ub B S6 r ts σ0 n [[⟨s, t, false⟩]] rn iN none F v wr) :
    Calls Try.prog 9 #[.pointer (some ⟨p, 0, none⟩), .string s] wr fun e w' => (∃ x, e = .returned x) ∧ ∃ F', Step F wr F' w' ∧ St2 w n0 p ub B S6 r ts σ0 n [[⟨s, t, true⟩]] rn iN none F' v w' := by
  obtain ⟨⟨σ, inner, f, h1, h2, h3, h4, h8, h5, h6, h7⟩, hb, hB⟩ := h
  refine (sUse h1 s).mono ?_
  rintro e w' ⟨⟨x, he, _⟩, hs, hf⟩
  rw [useS_snoc] at hs
  have hh : hasS [⟨s, t, false⟩] s = true := by simp [hasS]
  have hu : useBlk [⟨s, t, false⟩] s = [⟨s, t, true⟩] := by simp [useBlk]
  rw [hh, hu] at hs
  exact ⟨⟨x, he⟩, _, step_same hf, ⟨σ, inner, f, hs, h2, fitN_snoc (by have := h3.1; simpa using this) (fun l hl => h3.2 l (List.mem_append_left _ hl)) (by have := h3.2 _ (List.mem_append_right _ (List.mem_singleton.2 rfl)); simpa using this), h4, fun g hg => Nat.lt_of_lt_of_le (h8 g hg) hf.size, h5.keep (n0 := n0) hf h4, h6, h7⟩,
    hb.trans (hf.below (by have := hl.nB; omega) fun g hg => (h4 g hg).1), Nat.le_trans hB hf.size⟩
theorem st2_close (hl : Lay w n0 ub B S6) (s : ByteArray) (t : Ty) (h : St2 w n0 p ub B S6 r ts σ0 n [[⟨s, t, true⟩]] rn iN none F v wr) (hn : n ≤ 1000) :
    Calls Try.prog 7 #[.pointer (some ⟨p, 0, none⟩)] wr fun e w' => (∃ a c, e = .returned (.tuple #[.slice a 0 c, .int .i64 0])) ∧ ∃ F', Step F wr F' w' ∧ St2 w n0 p ub B S6 r ts σ0 n [] rn iN none F' v w' := by
  obtain ⟨⟨σ, inner, f, h1, h2, h3, h4, h8, h5, h6, h7⟩, hb, hB⟩ := h
  refine (sClose h1 (h3.fit (by omega))).mono ?_
  rintro e w' ⟨⟨x, he, a, c, rfl, _⟩, hs, hf⟩
  refine ⟨⟨a, c, he⟩, _, step_same hf, ⟨σ, inner, f, by rw [List.append_nil]; exact hs, h2, ⟨?_, fun l hl => ?_⟩, h4, fun g hg => Nat.lt_of_lt_of_le (h8 g hg) hf.size, h5.keep (n0 := n0) hf h4, h6, h7⟩,
    hb.trans (hf.below (by have := hl.nB; omega) fun g hg => (h4 g hg).1), Nat.le_trans hB hf.size⟩
  · have := h3.1
    simp at this ⊢
    omega
  · rw [List.append_nil] at hl
    exact h3.2 l (List.mem_append_left _ hl)
/-- The map is told of the name at which it lagged behind. -/
theorem st2_mark (hl : Lay w n0 ub B S6) {s : ByteArray} {u : Bool} (h : St2 w n0 p ub B S6 r ts σ0 n [] rn iN (some (s, u)) F v wr) :
    ∃ w', (Instr.mapUpdate 52 (.map (some ub)) (.string s) (.bool u)).run Try.prog wr = .ok () w' ∧ Fr (only ub) wr w' ∧ St2 w n0 p ub B S6 r ts σ0 n [] rn iN none F v w' := by
  obtain ⟨⟨σ, inner, f, h1, h2, h3, h4, h8, h5, h6, h7⟩, hb, hB⟩ := h
  obtain ⟨w', q1, q2, q3⟩ := h5.map.store (P := Try.prog) (t := 52) (kt := 9) (et := 4) (k := .string s) (by kernel_rfl) (by kernel_rfl) trivial (.bool u)
    (f' := fun k => match k with | .string s' => if s' = s then some (.bool u) else f (.string s') | k => f k) (by simp) (fun k' hk' hne => by
      cases k' with
      | string s' =>
        have : ¬ s' = s := fun e => hne (by rw [e])
        simp [this]
      | _ => rfl)
  have hub : ub < wr.heap.size := by have := hl.uB; omega
  obtain ⟨es, mc, hmo⟩ := h5.map.obj
  refine ⟨w', q1, q3, ⟨σ, inner, _, h1.fr q3 fun g hg => ⟨(h4 g hg).2.1, hg⟩, h2, h3, h4, fun g hg => Nat.lt_of_lt_of_le (h8 g hg) q3.size, ⟨q2, own_fr h5.row q3 fun g hg e => ?_, ?_⟩, fun x hx => ?_, h7⟩, hb.trans (q3.below (by have := hl.nB; omega) fun g hg => ?_), Nat.le_trans hB q3.size⟩
  · obtain ⟨cs, ho⟩ := own_obj h5.row g hg
    exact obj_ne_map ho hmo e
  · exact h5.ty.keep q3 fun g hg e => by have e' : g = ub := e; subst e'; exact hl.uS hg
  · have := h6 x hx
    unfold flagOk at this ⊢
    simp only at this ⊢
    by_cases e : x.s = s
    · rw [if_pos e] at this
      simp [e, this]
    · rw [if_neg e] at this
      simp [e, this]
  · have e' : g = ub := hg
    have := hl.nu
    omega
theorem St2.row {ex : List (List Nm)} {hole : Option (ByteArray × Bool)} (h : St2 w n0 p ub B S6 r ts σ0 n ex rn iN hole F v wr) : wr.ownsRow B 9 1 v rn.length (strs rn) := by
  obtain ⟨⟨σ, inner, f, h1, h2, h3, h4, h8, h5, h6, h7⟩, hb, hB⟩ := h
  exact h5.row
theorem St2.iNle {ex : List (List Nm)} {hole : Option (ByteArray × Bool)} (h : St2 w n0 p ub B S6 r ts σ0 n ex rn iN hole F v wr) : iN.length ≤ n := by
  obtain ⟨⟨σ, inner, f, h1, h2, h3, h4, h8, h5, h6, h7⟩, hb, hB⟩ := h
  rw [← h7, List.length_map]
  exact h3.2 inner (by simp)
theorem St2.lt {ex : List (List Nm)} {hole : Option (ByteArray × Bool)} (h : St2 w n0 p ub B S6 r ts σ0 n ex rn iN hole F v wr) : ∀ g, F g → g < wr.heap.size := by
  obtain ⟨⟨σ, inner, f, h1, h2, h3, h4, h8, h5, h6, h7⟩, hb, hB⟩ := h
  exact h8
theorem St2.ge {ex : List (List Nm)} {hole : Option (ByteArray × Bool)} (h : St2 w n0 p ub B S6 r ts σ0 n ex rn iN hole F v wr) : ∀ g, F g → n0 ≤ g := by
  obtain ⟨⟨σ, inner, f, h1, h2, h3, h4, h8, h5, h6, h7⟩, hb, hB⟩ := h
  exact fun g hg => (h4 g hg).1
theorem Step.box {wr w' : World} {F F' : Nat → Prop} (h : Step F wr F' w') {b : Nat} {o : Obj} (hb : wr.heap[b]? = some o) (hn : ¬ F b) : w'.heap[b]? = some o ∧ ¬ F' b :=
  ⟨h.2.obj hb hn, fun e => (h.1 b e).elim hn fun e => by have := obj_lt hb; omega⟩
/-- A name is put into the row. -/
theorem st2_app (hl : Lay w n0 ub B S6) {ex : List (List Nm)} {hole : Option (ByteArray × Bool)} {s : ByteArray} (h : St2 w n0 p ub B S6 r ts σ0 n ex rn iN hole F v wr) {w1 w2 : World} {v' : Value} (hf1 : Fr nothing wr w1) (hown2 : w2.ownsRow B 9 1 v' (rn.length + 1) (strs rn ++ [.string s]))
    (hg2 : Fr (fun g => v.ownBlock = some g) w1 w2) (hv' : ∀ g, v'.ownBlock = some g → v.ownBlock = some g ∨ wr.heap.size ≤ g) : St2 w n0 p ub B S6 r ts σ0 n ex (rn ++ [s]) iN hole F v' w2 := by
  obtain ⟨⟨σ, inner, f, h1, h2, h3, h4, h8, h5, h6, h7⟩, hb, hB⟩ := h
  have hf : Fr (fun g => v.ownBlock = some g) wr w2 := hf1.wide.trans hg2
  obtain ⟨es, mc, hmo⟩ := h5.map.obj
  have hvB : ∀ g, v.ownBlock = some g → B ≤ g := fun g hg => (h5.row.lt g hg).1
  refine ⟨⟨σ, inner, f, h1.fr hf fun g hg => ⟨(h4 g hg).2.2.1, hg⟩, h2, h3, fun g hg => ⟨(h4 g hg).1, (h4 g hg).2.1, fun e => ?_, (h4 g hg).2.2.2⟩, fun g hg => Nat.lt_of_lt_of_le (h8 g hg) hf.size, ⟨h5.map.fr hf fun e => ?_, by simpa [strs] using hown2, h5.ty.keep hf fun g hg e => ?_⟩, h6, h7⟩, hb.trans (hf.below (by have := hl.nB; omega) fun g hg => ?_), Nat.le_trans hB hf.size⟩
  · rcases hv' g e with e2 | e2
    · exact (h4 g hg).2.2.1 e2
    · have := h8 g hg
      omega
  · obtain ⟨cs, ho⟩ := own_obj h5.row ub e
    exact obj_ne_map ho hmo rfl
  · have := hl.s6 g hg
    have := hvB g e
    omega
  · have := hvB g hg
    have := hl.nB
    omega
/-- What stands behind the block. -/
structure St4 (w : World) (n0 p ub B : Nat) (S6 : Nat → Prop) (r : Value) (ts : List Ty) (σ0 σ : List (List Nm)) (inner : List Nm) (F : Nat → Prop) (f : Value → Option Value) (n : Nat) (rn : List ByteArray) (lv v : Value) (wr : World) : Prop where
  sc : Sc wr F p σ
  ty : tysS σ = tysS σ0
  fit : FitN σ n
  off : Off n0 ub S6 v F
  lt : ∀ g, F g → g < wr.heap.size
  side : Side wr ub B S6 r ts v rn f
  flags : ∀ x ∈ inner, flagOk f none x
  names : inner.map Nm.s = rn
  left : Texts wr lv (unusedS inner)
  below : Below n0 w wr
  hB : B ≤ wr.heap.size
theorem st2_last (hl : Lay w n0 ub B S6) (h : St2 w n0 p ub B S6 r ts σ0 n [] rn rn none F v wr) (hn : n ≤ 1000) :
    Calls Try.prog 7 #[.pointer (some ⟨p, 0, none⟩)] wr fun e w' => ∃ a nn c σ inner f, e = .returned (.tuple #[.slice a nn c, .int .i64 0]) ∧ St4 w n0 p ub B S6 r ts σ0 σ inner F f n rn (.slice a nn c) v w' := by
  obtain ⟨⟨σ, inner, f, h1, h2, h3, h4, h8, h5, h6, h7⟩, hb, hB⟩ := h
  rw [List.append_nil] at h1 h3
  refine (sClose h1 (h3.fit (by omega))).mono ?_
  rintro e w' ⟨⟨x, he, ht⟩, hs, hf⟩
  obtain ⟨a, c, rfl, ht'⟩ := id ht
  exact ⟨_, _, _, σ, inner, f, he, ⟨hs, h2, ⟨by have := h3.1; simp at this; omega, fun l hl => h3.2 l (List.mem_append_left _ hl)⟩, h4, fun g hg => Nat.lt_of_lt_of_le (h8 g hg) hf.size, h5.keep (n0 := n0) hf h4, h6, h7, ht,
    hb.trans (hf.below (by have := hl.nB; omega) fun g hg => (h4 g hg).1), Nat.le_trans hB hf.size⟩⟩
end
def wantTo (inner : List Nm) (k : Nat) : List ByteArray := unusedS (inner.take k)
theorem wantTo_next {inner : List Nm} {k : Nat} (h : k < inner.length) : wantTo inner (k + 1) = if inner[k].used then wantTo inner k else wantTo inner k ++ [inner[k].s] := by
  unfold wantTo unusedS
  rw [List.take_add_one, List.getElem?_eq_getElem h]
  simp only [Option.toList_some, List.filter_append, List.map_append]
  cases hu : inner[k].used <;> simp [hu]
theorem wantTo_le (inner : List Nm) (k : Nat) : (wantTo inner k).length ≤ k := by
  unfold wantTo unusedS
  rw [List.length_map]
  exact Nat.le_trans (List.length_filter_le _ _) (List.length_take_le _ _)
theorem wantTo_all (inner : List Nm) {k : Nat} (h : inner.length ≤ k) : wantTo inner k = unusedS inner := by
  unfold wantTo
  rw [List.take_of_length_le h]
theorem own_texts {w : World} {B : Nat} {v : Value} {xs : List ByteArray} (h : w.ownsRow B 9 1 v xs.length (strs xs)) : Texts w v xs := by
  obtain ⟨a, cap, rfl, h1, h2, h3⟩ := own_cells h
  refine ⟨a, cap, rfl, h1, h2, ?_⟩
  rcases h3 with h3 | ⟨g, e, _, hc⟩
  · exact .inl (by simpa [strs] using h3)
  · exact .inr ⟨g, 0, e, hc⟩
theorem flag_look {w : World} {ub : Nat} {f : Value → Option Value} {x : Nm} (hm : MapIs w .string ub f) (h : flagOk f none x) : (Instr.lookup 52 (.map (some ub)) (.string x.s) false).run Try.prog w = .ok (.bool x.used) w := by
  have := hm.look (P := Try.prog) (t := 52) (kt := 9) (et := 4) (k := .string x.s) (by kernel_rfl) (by kernel_rfl) trivial (z := .bool false) (by rfl) false
  rw [this]
  have h' : f (.string x.s) = some (.bool x.used) := h
  rw [h']
  rfl
theorem standS_tysS {σ σ' : List (List Nm)} (h : tysS σ = tysS σ') : standS σ = standS σ' := by
  funext s
  unfold standS
  rw [findS_tysS h]
/-- A list of types, where it lies. -/
theorem TyRow.cells {w : World} {S : Nat → Prop} {a : Option Addr} {c n : Nat} {ts : List Ty} (h : TyRow w S (.slice a n c) ts) (hn : n = ts.length) : ∃ (vs : Nat → Value) (b o : Nat), n ≤ c ∧ c ≤ maxLen ∧ (n = 0 ∨ a = some ⟨b, o, none⟩) ∧ (∀ i, i < n → Cells w b (o + i * 3) (tyCells (vs i))) ∧ ∀ i (h : i < ts.length), IsTy w S ts[i] (vs i) := by
  obtain ⟨vs, h1, _, h3⟩ := h
  obtain ⟨a', c', e, h4, h5, h6⟩ := own_cells h1
  simp only [Value.slice.injEq] at e
  obtain ⟨rfl, -, rfl⟩ := e
  rw [← hn] at h4
  rcases h6 with h6 | ⟨g, e, _, hc⟩
  · have h0 : n = 0 := by
      have := flat_len (fun i => tyCells (vs i)) 3 (fun _ => rfl) (List.range ts.length)
      rw [show (List.range ts.length).flatMap (fun i => tyCells (vs i)) = [] from h6] at this
      simp only [List.length_nil, List.length_range] at this
      omega
    subst h0
    exact ⟨vs, 0, 0, h4, h5, .inl rfl, fun i hi => by omega, h3⟩
  · refine ⟨vs, g, 0, h4, h5, .inr e, fun i hi => ?_, h3⟩
    have := flat_cells (m := 3) (f := fun i => tyCells (vs i)) (fun _ => rfl) hc i (by rw [List.length_range, ← hn]; exact hi)
    simpa using this
end Go.Proofs.Yticdoccaabfjaaa
