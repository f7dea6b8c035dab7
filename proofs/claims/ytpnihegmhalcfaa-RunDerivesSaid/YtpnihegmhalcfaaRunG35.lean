/-
  Package run: run.
-/
import Derived.Test.YtpnihegmhalcfaaRunG34
import Derived.Test.YtpnihegmhalcfaaRunG03
namespace Go.Proofs.Ytpnihegmhalcfaa
open Go.RowKit Go.MapKept Go.ChangeMaps
set_option maxHeartbeats 400000

/-- What run answers: the automaton as it ended. -/
def RunP (w : World) (G : Gram) (T : Tbl) (terms : List Int) (e : Ending) (w' : World) : Prop :=
  ∃ (B ab : Nat) (err : Int) (st : Au) (pv : Value), e = .returned (.tuple #[.pointer (some ⟨ab, 0, none⟩), .int .i64 err]) ∧ RunTo G T terms (err, st) ∧ w.heap.size ≤ B ∧ B ≤ ab ∧ EndM w' B ab pv st ∧
    (err = 0 → 2 ≤ st.stack.length ∧ ∃ A sv L, AuM w' B ab A G T terms sv pv L st) ∧ (st.prods.length ≤ 1000000 ∧ st.stack.length ≤ 1000000 ∧ st.pos ≤ terms.length ∧ ∀ k ∈ st.prods, 1 ≤ k ∧ k < 1000) ∧ Below w.heap.size w w'
theorem runP_intro {w w' : World} {G : Gram} {T : Tbl} {terms : List Int} {B ab : Nat} {err : Int} {st : Au} {pv : Value} (h1 : RunTo G T terms (err, st)) (h2 : w.heap.size ≤ B) (h3 : B ≤ ab) (h4 : EndM w' B ab pv st) (h5 : err = 0 → 2 ≤ st.stack.length ∧ ∃ A sv L, AuM w' B ab A G T terms sv pv L st)
    (h6 : st.prods.length ≤ 1000000 ∧ st.stack.length ≤ 1000000 ∧ st.pos ≤ terms.length ∧ ∀ k ∈ st.prods, 1 ≤ k ∧ k < 1000) (h7 : Below w.heap.size w w') : RunP w G T terms (.returned (.tuple #[.pointer (some ⟨ab, 0, none⟩), .int .i64 err])) w' := ⟨B, ab, err, st, pv, rfl, h1, h2, h3, h4, h5, h6, h7⟩

theorem EndM.set {w : World} {B ab pe : Nat} {pv v : Value} {st : Au} {cs : Array Value} {f : Nat × Nat} (h : EndM w B ab pv st) (hb : w.heap[pe]? = some (.cells cs 41 f)) (hne : pe ≠ ab) : EndM (w.setCell ⟨pe, 0, none⟩ v) B ab pv st :=
  ⟨(Fr.setCell w ⟨pe, 0, none⟩ v).cell h.c7 (fun e => hne (Eq.symm e)), (Fr.setCell w ⟨pe, 0, none⟩ v).cell h.c9 (fun e => hne (Eq.symm e)), own_structS hb h.prods (by decide)⟩
theorem AuM.setOther {w : World} {B ab pe : Nat} {A : AuA} {G : Gram} {T : Tbl} {terms : List Int} {sv pv v : Value} {L : List ((Int × Tr) × Value)} {st : Au} {cs : Array Value} {f : Nat × Nat} (h : AuM w B ab A G T terms sv pv L st) (hb : w.heap[pe]? = some (.cells cs 41 f)) (hne : pe ≠ ab) : AuM (w.setCell ⟨pe, 0, none⟩ v) B ab A G T terms sv pv L st :=
  ⟨(Fr.setCell w ⟨pe, 0, none⟩ v).obj h.obj (fun e => hne (Eq.symm e)), own_structS hb h.own (by decide), h.row, fun x hx => kids_set hb (by decide) (h.kids x hx), own_structS hb h.prods (by decide)⟩
theorem fin_run {w W : World} {G : Gram} {T : Tbl} {terms : List Int} {B ab n0 : Nat} {err x : Int} {st : Au} {pv : Value} (hn : w.heap.size = n0) (hB : n0 + 3 ≤ B) (hab : B ≤ ab) (hob : W.heap[n0 + 1 + 1]? = some (.cells #[.int .i64 x] 41 (0, 0))) (h1 : RunTo G T terms (err, st)) (h4 : EndM W B ab pv st)
    (h5 : err = 0 → 2 ≤ st.stack.length ∧ ∃ A sv L, AuM W B ab A G T terms sv pv L st) (h6 : st.prods.length ≤ 1000000 ∧ st.stack.length ≤ 1000000 ∧ st.pos ≤ terms.length ∧ ∀ k ∈ st.prods, 1 ≤ k ∧ k < 1000) (h7 : Below w.heap.size w W) :
    RunP w G T terms (.returned (.tuple #[.pointer (some ⟨ab, 0, none⟩), .int .i64 err])) (W.setCell ⟨n0 + 1 + 1, 0, none⟩ (.int .i64 err)) := by
  have hs := (Array.getElem?_eq_some_iff.1 hob).1
  refine runP_intro (B := B) h1 (by omega) hab (h4.set hob (by omega)) (fun e => ?_) h6 (h7.trans ((Fr.setCell W ⟨n0 + 1 + 1, 0, none⟩ _).below (by omega) fun b e => by have e' : b = n0 + 1 + 1 := e; omega))
  obtain ⟨h8, A, sv, L, h9⟩ := h5 e
  exact ⟨h8, A, sv, L, h9.setOther hob (by omega)⟩
theorem bounds_of {G : Gram} {T : Tbl} {terms : List Int} {st : Au} (h : AuOk G T terms st) (hT : rightT G T = true) (hl : terms.length ≤ 100) : st.prods.length ≤ 1000000 ∧ st.stack.length ≤ 1000000 ∧ st.pos ≤ terms.length ∧ ∀ k ∈ st.prods, 1 ≤ k ∧ k < 1000 := by
  have h1 := h.prods
  have h2 := h.len
  have h3 := h.since
  have h4 := h.pos
  have h5 := Nat.mul_le_mul_right 4098 (Nat.le_trans h4 hl)
  have h6 := (rightG_parts (rightT_parts hT).1).1
  exact ⟨by omega, by omega, h4, fun k hk => by have := h.prd k hk; omega⟩

theorem updS_same (σ : Nat → Option Value) (j : Nat) (v : Value) : updS σ j v j = some v := if_pos rfl
theorem updS_other {σ : Nat → Option Value} {j k : Nat} {v : Value} (h : k ≠ j) : updS σ j v k = σ k := if_neg h
/-- What is known within the region that finds the entry. -/
structure Inv5 (w1 : World) (vals : Nat → Value) (x : Ac) (σ : Nat → Option Value) (W : World) : Prop where
  old : Fr nothing w1 W
  vs : ∀ j v, j < 10 → σ j = some v → v = vals j
  late : σ 10 = none → σ 11 = none
  box : ∀ v, σ 10 = some v → ∃ b, v = .pointer (some ⟨b, 0, none⟩) ∧ w1.heap.size ≤ b ∧ W.heap[b]? = some (.cells (if σ 11 = none then #[.int .u8 0, .int .i64 0] else #[.int .u8 x.kind, .int .i64 x.dst]) 81 (0, 0))
theorem Inv5.start {w1 : World} {vals : Nat → Value} {x : Ac} : Inv5 w1 vals x (fun _ => none) w1 := ⟨Fr.refl _ _, fun _ _ _ h => (by cases h), fun _ => rfl, fun _ h => (by cases h)⟩
theorem Inv5.step {w1 W W' : World} {vals : Nat → Value} {x : Ac} {σ : Nat → Option Value} (h : Inv5 w1 vals x σ W) (k : Fr nothing W W') {j : Nat} {v : Value} (hj : j < 10) (hv : v = vals j) : Inv5 w1 vals x (updS σ j v) W' := by
  refine ⟨h.old.trans k, fun i u hi hu => ?_, fun e => ?_, fun u hu => ?_⟩
  · by_cases e : i = j
    · subst e
      rw [updS_same] at hu
      obtain rfl := Option.some.inj hu
      exact hv
    · rw [updS_other e] at hu
      exact h.vs i u hi hu
  · rw [updS_other (by omega)] at e ⊢
    exact h.late e
  · rw [updS_other (by omega)] at hu ⊢
    obtain ⟨b, e1, e2, e3⟩ := h.box u hu
    exact ⟨b, e1, e2, k.obj e3 id⟩
theorem Inv5.alloc {w1 W : World} {vals : Nat → Value} {x : Ac} {σ : Nat → Option Value} (h : Inv5 w1 vals x σ W) (hn : σ 10 = none) : Inv5 w1 vals x (updS σ 10 (.pointer (some ⟨W.heap.size, 0, none⟩))) (W.alloc (.cells #[.int .u8 0, .int .i64 0] 81 (0, 0))) := by
  refine ⟨h.old.trans (Fr.alloc _ _), fun i u hi hu => ?_, fun e => ?_, fun u hu => ?_⟩
  · rw [updS_other (by omega)] at hu
    exact h.vs i u hi hu
  · rw [updS_same] at e
    cases e
  · rw [updS_same] at hu
    obtain rfl := Option.some.inj hu
    refine ⟨_, rfl, h.old.size, ?_⟩
    rw [updS_other (by decide), if_pos (h.late hn)]
    exact alloc_obj _ _
theorem Inv5.store {w1 W : World} {vals : Nat → Value} {x : Ac} {σ : Nat → Option Value} (h : Inv5 w1 vals x σ W) {b : Nat} (hb : σ 10 = some (.pointer (some ⟨b, 0, none⟩))) (h11 : σ 11 = none) (u : Value) : Inv5 w1 vals x (updS σ 11 u) ((W.setCell ⟨b, 0, none⟩ (.int .u8 x.kind)).setCell ⟨b, 1, none⟩ (.int .i64 x.dst)) := by
  obtain ⟨b', e1, e2, e3⟩ := h.box _ hb
  simp only [Value.pointer.injEq, Option.some.injEq, Addr.mk.injEq, and_true] at e1
  subst e1
  rw [if_pos h11] at e3
  have o1 := setCell_obj e3 (i := 0) (.int .u8 x.kind)
  have o2 := setCell_obj o1 (i := 1) (.int .i64 x.dst)
  have k1 := Fr.setCell W ⟨b, 0, none⟩ (.int .u8 x.kind)
  have k2 := Fr.setCell (W.setCell ⟨b, 0, none⟩ (.int .u8 x.kind)) ⟨b, 1, none⟩ (.int .i64 x.dst)
  have kk := k1.trans k2
  refine ⟨⟨kk.os.trans h.old.os, kk.tape.trans h.old.tape, kk.output.trans h.old.output, Nat.le_trans h.old.size kk.size, fun i hi hn => (kk.block i (Nat.lt_of_lt_of_le hi h.old.size) (fun e => by have e' : i = b := e; omega)).trans (h.old.block i hi hn)⟩, fun i u hi hu => ?_, fun e => ?_, fun u hu => ?_⟩
  · rw [updS_other (by omega)] at hu
    exact h.vs i u hi hu
  · rw [updS_other (by decide), hb] at e
    cases e
  · rw [updS_other (by decide), hb] at hu
    obtain rfl := Option.some.inj hu
    refine ⟨b, rfl, e2, ?_⟩
    rw [updS_same, if_neg (by simp)]
    simpa using o2
/-- What is still to be done. -/
def natOf : Option Value → Nat
  | some (.int _ n) => n.toNat
  | _ => 0
def muW (n ab : Nat) (w : World) : Nat := (n - natOf (w.cell? ⟨ab, 7, none⟩)) * 4098 + (4097 - natOf (w.cell? ⟨ab, 8, none⟩))
theorem muW_at {w : World} {B ab : Nat} {A : AuA} {G : Gram} {T : Tbl} {terms : List Int} {sv pv : Value} {L : List ((Int × Tr) × Value)} {st : Au} (h : AuM w B ab A G T terms sv pv L st) (n : Nat) : muW n ab w = (n - st.pos) * 4098 + (4097 - st.since) := by
  unfold muW
  rw [obj_cell h.obj 7 (v := .int .i64 (st.pos : Int)) rfl, obj_cell h.obj 8 (v := .int .i64 (st.since : Int)) rfl]
  simp [natOf]
def doesL : List (Value × Value) := [(.int .u8 1, .func (.func 68) #[] #[]), (.int .u8 2, .func (.func 69) #[] #[]), (.int .u8 3, .func (.func 70) #[] #[]), (.int .u8 0, .func (.func 71) #[] #[])]
theorem isMap_kept {w w' : World} {d : TypeDesc} {b : Nat} {kv : List (Value × Value)} (h : IsMap w d b kv) (k : MapsKept w w') : IsMap w' d b kv := by
  obtain ⟨es, clock, h1, h2⟩ := h
  exact ⟨es, clock, k b es clock h1, h2⟩
theorem red_inl {G : Gram} {T : Tbl} {st : Au} {k er : Int} (h : redU G T st k = .inl er) : er = 104 ∨ er = 4 := by
  unfold redU at h
  split at h
  · exact .inl (Sum.inl.inj h).symm
  · split at h
    · exact .inr (Sum.inl.inj h).symm
    · split at h
      · exact .inr (Sum.inl.inj h).symm
      · cases h
theorem red_inr {G : Gram} {T : Tbl} {st st' : Au} {k : Int} (h : redU G T st k = .inr st') : st'.pos = st.pos ∧ st'.since = st.since + 1 := by
  unfold redU at h
  split at h
  · cases h
  · split at h
    · cases h
    · split at h
      · cases h
      · obtain rfl := Sum.inr.inj h
        exact ⟨rfl, rfl⟩
set_option maxRecDepth 100000 in
theorem does_look {w : World} {mb : Nat} (h : IsMap w (.int .u8) mb doesL) (k : Int) (f : Value) (hm : ∀ v, (Value.int .u8 k, v) ∈ doesL → v = f) (hx : ∃ x ∈ doesL, x.1 = Value.int .u8 k) :
    (Instr.lookup 138 (.map (some mb)) (.int .u8 k) false).run Try.prog w = .ok f w := by
  rcases h.look (P := Try.prog) (t := 138) (kt := 79) (et := 136) (k := .int .u8 k) (by kernel_rfl) (by kernel_rfl) rfl (by rfl) with ⟨v, h1, h2⟩ | ⟨h1, -⟩
  · have := h2 false
    rw [hm v h1] at this
    simpa using this
  · obtain ⟨x, hx1, hx2⟩ := hx
    exact absurd hx2 (h1 x hx1)

set_option maxRecDepth 100000 in
set_option maxHeartbeats 16000000 in
theorem run_any (G : Gram) (T : Tbl) (terms : List Int) (gv tv nv : Value) (w : World) (hg : IsGram w gv G) (ht : IsTbl w tv T) (hn : Ints w nv terms) (hl : terms.length ≤ 100) :
    Calls Try.prog 34 #[gv, tv, nv] w (RunP w G T terms) := by
  have hmm := @run_makeMap Try.prog
  have hmf : ∀ (fn : Fn) (first cap : Array Value) (w : World), (Instr.makeFunc fn first cap).run Try.prog w = .ok (.func fn first cap) w := fun _ _ _ _ => rfl
  have HRT := Lib.hid fun W (k : Below w.heap.size w W) => tableRight_any G gv tv T W (hg.fr (Fr.new k)) (ht.fr (Fr.new k))
  obtain ⟨_, vs, vp, rfl, hs, hp⟩ := id hg
  obtain ⟨-, sa, sc, rfl, -, -, -⟩ := id hs
  obtain ⟨-, pa, pc, rfl, -, -, -⟩ := id hp
  obtain ⟨av, gvv, rfl, hta, htg⟩ := ht
  obtain ⟨aa, ac, rfl, -, -, -⟩ := Rows'.parts hta
  obtain ⟨ga, gc, rfl, -, -, -⟩ := Rows'.parts htg
  obtain ⟨-, hnl, na, nc, rfl, -, -, -⟩ := id hn
  obtain ⟨A, hA⟩ : ∃ A : AuA, A = ⟨sa, pa, aa, ga, na, sc, pc, ac, gc, nc⟩ := ⟨_, rfl⟩
  have hI : Inp w A G T terms := by rw [hA]; exact ⟨hg, hta, htg, hn⟩
  have HI := Lib.hid hI
  have HA := Lib.hid hA
  have hx := three_boxes w (.cells #[.int .i64 G.terms, .slice sa G.syms.length sc, .slice pa G.prods.length pc] 25 (0, 0)) (.cells #[.slice aa T.acts.length ac, .slice ga T.gotos.length gc] 29 (0, 0)) (.cells #[.int .i64 0] 41 (0, 0))
  have hsz : (((w.alloc (.cells #[.int .i64 G.terms, .slice sa G.syms.length sc, .slice pa G.prods.length pc] 25 (0, 0))).alloc (.cells #[.slice aa T.acts.length ac, .slice ga T.gotos.length gc] 29 (0, 0))).alloc (.cells #[.int .i64 0] 41 (0, 0))).heap.size = w.heap.size + 3 := by simp
  have HX := Lib.hid (And.intro hx hsz)
  obtain ⟨i0, hi, hz0, hz1, hz2⟩ := info_parts Try.infoStack
  clear hx hsz hg hs hp hta htg hn hI hA
  go_enter_defers Try.func34, Try.ntmps34
  go_upto_region 1 with fail
  generalize ((w.alloc (Obj.cells #[.int .i64 G.terms, .slice sa G.syms.length sc, .slice pa G.prods.length pc] 25 (0, 0))).alloc (Obj.cells #[.slice aa T.acts.length ac, .slice ga T.gotos.length gc] 29 (0, 0))).alloc (Obj.cells #[.int .i64 0] 41 (0, 0)) = W0 at *
  have HI0 := Lib.hid (HI.out.fr (Fr.new HX.out.1.2.2.2))
  obtain ⟨n0, hn0⟩ : ∃ n0, w.heap.size = n0 := ⟨_, rfl⟩
  have hcf : ∀ (ch : Nat → Prop) (W : World), Fr ch W0 W → (∀ b, b < n0 + 3 → ¬ ch b) → (W.cell? ⟨n0, 0, none⟩ = some (.int .i64 G.terms) ∧ W.cell? ⟨n0, 1, none⟩ = some (.slice sa G.syms.length sc) ∧ W.cell? ⟨n0, 2, none⟩ = some (.slice pa G.prods.length pc) ∧ W.cell? ⟨n0 + 1, 0, none⟩ = some (.slice aa T.acts.length ac) ∧ W.cell? ⟨n0 + 1, 1, none⟩ = some (.slice ga T.gotos.length gc)) := by
    intro ch W k hc
    rw [← hn0] at hc ⊢
    have o0 := k.obj HX.out.1.1 (hc _ (by omega))
    have o1 := k.obj HX.out.1.2.1 (hc _ (by omega))
    exact ⟨obj_cell o0 0 rfl, obj_cell o0 1 rfl, obj_cell o0 2 rfl, obj_cell o1 0 rfl, obj_cell o1 1 rfl⟩
  have HCF := Lib.hid hcf
  clear hcf
  rw [hn0]
  have HN0 := Lib.hid hn0
  clear hn0
  refine wp_normal ?_
  refine wp_region_anyT (fun j W => j < 4 → W.cell? ⟨n0, 0, none⟩ = some (.int .i64 G.terms) ∧ W.cell? ⟨n0, 1, none⟩ = some (.slice sa G.syms.length sc) ∧ W.cell? ⟨n0, 2, none⟩ = some (.slice pa G.prods.length pc) ∧ W.cell? ⟨n0 + 1, 0, none⟩ = some (.slice aa T.acts.length ac) ∧ W.cell? ⟨n0 + 1, 1, none⟩ = some (.slice ga T.gotos.length gc)) (by kernel_rfl) ?_
  have hS0 := HCF.out _ _ (Fr.drew W0) fun _ _ => id
  have hkd := Fr.drew (ch := nothing) W0
  have HKD := Lib.hid hkd
  clear hkd
  generalize hwq : W0.drew = wq at *
  clear hwq
  refine anyT_take (R := _) (i := 0) (v := ?_) (fun j => decide (j < 4)) (fun j w h k => k (of_decide_eq_true h)) (fun w h _ => h) rfl (by kernel_rfl) (fun _ _ _ h => h) _ _ _ _ (by kernel_rfl) (by kernel_rfl) (by kernel_rfl) (by kernel_rfl) (Or.inl ⟨by rfl, ?_⟩) (by assumption) ?_
  rotate_left
  · (intro w hSw; (try dsimp only at hSw); go_simp)
    try with_reducible rfl
  refine anyT_take (R := _) (i := 1) (v := ?_) (fun j => decide (j < 4)) (fun j w h k => k (of_decide_eq_true h)) (fun w h _ => h) rfl (by kernel_rfl) (fun _ _ _ h => h) _ _ _ _ (by kernel_rfl) (by kernel_rfl) (by kernel_rfl) (by kernel_rfl) (Or.inl ⟨by rfl, ?_⟩) (by assumption) ?_
  rotate_left
  · (intro w hSw; (try dsimp only at hSw); go_simp)
    try with_reducible rfl
  refine anyT_take (R := _) (i := 2) (v := ?_) (fun j => decide (j < 4)) (fun j w h k => k (of_decide_eq_true h)) (fun w h _ => h) rfl (by kernel_rfl) (fun _ _ _ h => h) _ _ _ _ (by kernel_rfl) (by kernel_rfl) (by kernel_rfl) (by kernel_rfl) (Or.inl ⟨by rfl, ?_⟩) (by assumption) ?_
  rotate_left
  · (intro w hSw; (try dsimp only at hSw); go_simp)
    try with_reducible rfl
  obtain ⟨wm, hrun, hownm, hgrm⟩ := run_make_full (P := Try.prog) wq (n0 + 3) 86 90 i0 (.agg #[.int .i64 0, .int .i64 0, .int .i64 0, .slice none 0 0]) 4 Try.underlying86 hi hz0 hz1 .i64 .i64 1 (by rw [hz2]; omega) (by unfold maxLen; omega) (by have h1 := HX.out.2; rw [HN0.out] at h1; have h2 := HKD.out.size; omega)
  have hkm : Fr nothing wq wm := (Fr.grown hgrm).mono fun _ _ e => by cases e
  obtain ⟨sb, hsb⟩ : ∃ sb, wq.heap.size = sb := ⟨_, rfl⟩
  rw [hsb] at hrun hownm
  have hS1 := HCF.out _ _ (HKD.out.trans hkm) fun _ _ => id
  have HM := Lib.hid (And.intro hownm hkm)
  clear hownm hgrm hkm
  have hrun2 : (Instr.makeSlice 86 (.int .i64 1) (.int .i64 1)).run Try.prog wq = .ok (.slice (some ⟨sb, 0, none⟩) 1 1) wm := hrun
  clear hrun
  refine anyT_ready (rs := [3]) (by kernel_rfl) (by simp) ?_
  intro j hj
  obtain rfl := List.mem_singleton.1 hj
  clear hj
  refine wpOp_plain rfl rfl ?_
  go_simp
  try refine ⟨hS1, ?_⟩
  refine anyT_ready (rs := [4]) (by kernel_rfl) (by simp) ?_
  intro j hj
  obtain rfl := List.mem_singleton.1 hj
  clear hj
  refine wpOp_plain rfl rfl ?_
  go_simp
  refine anyT_ready (rs := [5]) (by kernel_rfl) (by simp) ?_
  intro j hj
  obtain rfl := List.mem_singleton.1 hj
  clear hj
  refine wpOp_plain rfl rfl ?_
  go_simp
  refine anyT_ready (rs := [6]) (by kernel_rfl) (by simp) ?_
  intro j hj
  obtain rfl := List.mem_singleton.1 hj
  clear hj
  refine wpOp_plain rfl rfl ?_
  go_simp
  refine anyT_done (by kernel_rfl) ?_ _
  unfold onlyNormal
  simp only
  have hst : AuM (wm.alloc (Obj.cells #[.int .i64 G.terms, .slice sa G.syms.length sc, .slice pa G.prods.length pc, .slice aa T.acts.length ac, .slice ga T.gotos.length gc, .slice na terms.length nc, .slice (some ⟨sb, 0, none⟩) 1 1, .int .i64 0, .int .i64 0, .slice none 0 0] 88 (0, 0))) (n0 + 3) wm.heap.size A G T terms (.slice (some ⟨sb, 0, none⟩) 1 1) (.slice none 0 0) [((0, noTr), .slice none 0 0)] startU := by
    rw [HA.out]
    have hmc : (madeCells (Value.agg #[.int .i64 0, .int .i64 0, .int .i64 0, .slice none 0 0]).cells (1 * 4)).toList = [.int .i64 0, .int .i64 0, .int .i64 0, .slice none 0 0] := by
      refine List.ext_getElem? fun t => ?_
      by_cases h : t < 4
      · rcases (by omega : t = 0 ∨ t = 1 ∨ t = 2 ∨ t = 3) with rfl | rfl | rfl | rfl <;> simp [madeCells, Value.cells]
      · rw [List.getElem?_eq_none (by simp [size_madeCells]; omega), List.getElem?_eq_none (by simp; omega)]
    refine ⟨alloc_obj _ _, by have h := (HM.out.1).alloc (Obj.cells #[.int .i64 G.terms, .slice sa G.syms.length sc, .slice pa G.prods.length pc, .slice aa T.acts.length ac, .slice ga T.gotos.length gc, .slice na terms.length nc, .slice (some ⟨sb, 0, none⟩) 1 1, .int .i64 0, .int .i64 0, .slice none 0 0] 88 (0, 0)); rw [hmc] at h; exact h, rfl, fun x hx => ?_, World.ownsRow_nil _ _ _ _⟩
    rw [List.mem_singleton.1 hx]
    exact KidsV.nil (by unfold maxLen; omega)
  have hk1 : Fr nothing W0 (wm.alloc (Obj.cells #[.int .i64 G.terms, .slice sa G.syms.length sc, .slice pa G.prods.length pc, .slice aa T.acts.length ac, .slice ga T.gotos.length gc, .slice na terms.length nc, .slice (some ⟨sb, 0, none⟩) 1 1, .int .i64 0, .int .i64 0, .slice none 0 0] 88 (0, 0))) := (HKD.out.trans HM.out.2).trans (Fr.alloc _ _)
  have hab : n0 + 3 ≤ wm.heap.size := by have h1 := HX.out.2; rw [HN0.out] at h1; have h2 := HKD.out.size; have h3 := HM.out.2.size; omega
  have H1 := Lib.hid (And.intro hst hk1)
  clear hst hk1 hS0 hS1 hrun2 HM hsb
  generalize hab0 : wm.heap.size = ab at *
  generalize wm.alloc (Obj.cells #[.int .i64 G.terms, .slice sa G.syms.length sc, .slice pa G.prods.length pc, .slice aa T.acts.length ac, .slice ga T.gotos.length gc, .slice na terms.length nc, .slice (some ⟨sb, 0, none⟩) 1 1, .int .i64 0, .int .i64 0, .slice none 0 0] 88 (0, 0)) = W1 at *
  clear hab0
  have hkk : ∀ W, Below (n0 + 3) W1 W → Fr nothing W0 W ∧ Below w.heap.size w W := fun W hW => by
    have hs1 : W0.heap.size = n0 + 3 := by rw [HX.out.2, HN0.out]
    have h1 : Below W0.heap.size W0 W := H1.out.2.below_new.trans (by rw [hs1]; exact hW)
    exact ⟨Fr.new h1, HX.out.1.2.2.2.trans (h1.mono HX.out.1.2.2.2.size)⟩
  have HKK := Lib.hid hkk
  clear hkk
  have hI1 : ∀ W, Below (n0 + 3) W1 W → Inp W A G T terms := fun W hW => HI0.out.fr (HKK.out W hW).1
  have HI1 := Lib.hid hI1
  have hpe : ∀ W, Below (n0 + 3) W1 W → W.heap[n0 + 1 + 1]? = some (.cells #[.int .i64 0] 41 (0, 0)) := fun W hW => by
    have h := HX.out.1.2.2.1
    rw [HN0.out] at h
    exact (HKK.out W hW).1.obj h id
  have HPE := Lib.hid hpe
  clear hI1 hpe
  obtain ⟨d0, d1, d2, e0, e1⟩ := HCF.out _ _ H1.out.2 fun _ _ => id
  have HR1 := Lib.hid (HRT.out W1 (HKK.out W1 (Below.refl _ _)).2)
  have HF := Lib.hid fun (e : Int) (V : World) => fail_no e V
  have HY := Lib.hid fun (e : Int) (V : World) => fail_yes e V
  clear HRT
  cases hT : rightT G T with
  | false =>
    rw [hT] at HR1
    go_wp2_with (first | (go_at_call 12; refine HR1.out.mono ?_; rintro e w2 ⟨rfl, hb2⟩) | (go_at_call 67; refine (HY.out _ _).mono ?_; rintro e w' ⟨rfl, rfl⟩))
    have hb3 := hb2.mono (show n0 + 3 ≤ W1.heap.size by have := H1.out.1.lt; omega)
    have hob := HPE.out _ hb3
    refine leaves_cons (f := 66) (args := #[.pointer (some ⟨n0 + 1 + 1, 0, none⟩)]) (by simp) (by simp [go_sem]) ?_
    refine (run1_caught _ _ _ _ _ (obj_cell hob 0 rfl) (obj_frozen hob 0)).mono ?_
    rintro e u' w'' ⟨rfl, rfl, rfl⟩
    have f1 := obj_cell (setCell_obj hob (i := 0) (.int .i64 4)) 0 (v := .int .i64 4) rfl
    have hP := fin_run (terms := terms) (err := 4) (st := startU) HN0.out (Nat.le_refl _) hab hob (by unfold RunTo; rw [if_neg (by rw [hT]; decide)]) ((H1.out.1.keep (Fr.new hb2)).ends rfl rfl) (fun e => by cases e) (by simp [startU]) (HKK.out _ hb3).2
    simp [Leaves, settle, results, Try.results34, go_sem, f1, hP]
  | true =>
    rw [hT] at HR1
    have HTT := Lib.hid hT
    clear hT
    go_upto_region 4 with (first | (go_at_call 12; refine HR1.out.mono ?_; rintro e w2 ⟨rfl, hb2⟩) | (go_at_call 67; refine (HF.out _ _).mono ?_; rintro e w' ⟨rfl, rfl⟩))
    have hm0 := isMap_new w2 (.int .u8)
    have HB2 := Lib.hid hb2
    clear hb2 d0 d1 d2 e0 e1 HR1
    go_upto_region 5 with (first
      | (refine wpList_insert_new _ rfl _ _ _ 138 rfl 79 136 (.int .u8) (by kernel_rfl) (by kernel_rfl) w2.heap.size _ rfl hm0 (.int .u8 1) (.func (.func 68) #[] #[]) rfl rfl rfl (by simp) ?_; intro m1 hm1 hk1)
      | (refine wpList_insert_new _ rfl _ _ _ 138 rfl 79 136 (.int .u8) (by kernel_rfl) (by kernel_rfl) w2.heap.size _ rfl hm1 (.int .u8 2) (.func (.func 69) #[] #[]) rfl rfl rfl (by simp) ?_; intro m2 hm2 hk2)
      | (refine wpList_insert_new _ rfl _ _ _ 138 rfl 79 136 (.int .u8) (by kernel_rfl) (by kernel_rfl) w2.heap.size _ rfl hm2 (.int .u8 3) (.func (.func 70) #[] #[]) rfl rfl rfl (by simp) ?_; intro m3 hm3 hk3)
      | (refine wpList_insert_new _ rfl _ _ _ 138 rfl 79 136 (.int .u8) (by kernel_rfl) (by kernel_rfl) w2.heap.size _ rfl hm3 (.int .u8 0) (.func (.func 71) #[] #[]) rfl rfl rfl (by simp) ?_; intro m4 hm4 hk4))
    obtain ⟨mb, hmb⟩ : ∃ mb, w2.heap.size = mb := ⟨_, rfl⟩
    rw [hmb] at hm0 hm1 hm2 hm3 hm4 hk1 hk2 hk3 hk4 ⊢
    have hkA : Fr (only mb) w2 m4 := (((Fr.alloc _ _).trans hk1).trans hk2).trans (hk3.trans hk4)
    have hA4 := (H1.out.1.keep (Fr.new HB2.out)).fr hkA fun b hb e => by have e' : b = mb := e; omega
    have hb4 : Below (n0 + 3) W1 m4 := (HB2.out.mono (show n0 + 3 ≤ W1.heap.size by have := H1.out.1.lt; omega)).trans (hkA.below (by have := HB2.out.size; have := H1.out.1.lt; omega) fun b e => by have e' : b = mb := e; have := HB2.out.size; have := H1.out.1.lt; omega)
    have hm4' : IsMap m4 (.int .u8) mb doesL := hm4
    have H4 := Lib.hid (And.intro hA4 (And.intro hb4 hm4'))
    clear hm0 hm1 hm2 hm3 hm4 hk1 hk2 hk3 hk4 hkA hA4 hb4 hm4' hmb
    go_loopw [9] (fun _ wr => ∃ sv pv L st, AuM wr (n0 + 3) ab A G T terms sv pv L st ∧ Comes G T terms st ∧ AuOk G T terms st ∧ IsMap wr (.int .u8) mb doesL ∧ Below (n0 + 3) W1 wr) (fun _ wr => muW terms.length ab wr)
    case atStart => exact ⟨_, _, _, startU, H4.out.1, Comes.start, startU_ok HTT.out, H4.out.2.2, H4.out.2.1⟩
    case round =>
      obtain ⟨sv, pv, L, st, hM, hC, hok, hmap, hbel⟩ := hrel
      have hne := hok.ne
      have hbnd := bounds_of hok HTT.out hl
      have hK := HKK.out _ hbel
      have hIw := HI1.out _ hbel
      have hkd : Fr nothing wr wr.drew := Fr.drew wr
      have hM1 := hM.keep hkd
      have hTP := rightT_parts HTT.out
      have hgp := (rightG_parts hTP.1).1
      obtain ⟨y, hy, hyn, -⟩ := lastN_mem hne
      have hyr := hok.num y hy
      have HTOP := Lib.hid fun (W : World) (k : Fr nothing wr.drew W) => top_any (hM1.keep k) hne (by omega)
      have HMM := Lib.hid (And.intro hM (And.intro hC (And.intro hok (And.intro hmap hbel))))
      have HPOS := Lib.hid (And.intro hbnd hne)
      cases hnx : nextT G terms st.pos with
      | none =>
        have hpl : st.pos < terms.length := by
          refine Classical.byContradiction fun hn => ?_
          unfold nextT at hnx
          rw [if_neg hn] at hnx
          cases hnx
        have hbad : ¬ (1 ≤ terms[st.pos] ∧ terms[st.pos] < G.terms) := fun hb => by
          have h2 : terms.getD st.pos 0 = terms[st.pos] := by rw [List.getD_eq_getElem?_getD, List.getElem?_eq_getElem hpl]; rfl
          unfold nextT at hnx
          rw [if_pos hpl, h2, if_pos hb] at hnx
          cases hnx
        have HNX := Lib.hid fun (W : World) (k : Fr nothing wr.drew W) => (next_in (hM1.keep k) ((hIw.fr hkd).fr k).terms hpl).2 hbad
        obtain ⟨sn, hs⟩ : ∃ sn : Nat, lastN st.stack = (sn : Int) := ⟨(lastN st.stack).toNat, by omega⟩
        have hsn : sn < T.acts.length := by omega
        have hacts := hIw.acts
        rw [HA.out] at hacts
        simp only at hacts
        obtain ⟨rb, ro, rfl, -, ra, a0, hra⟩ := Rows'.at hacts hsn
        rw [Nat.mul_one] at a0
        have hd0 := (HCF.out _ _ (hK.1.trans hkd) fun _ _ => id).2.2.2.1
        have a0 := hkd.cell a0 id
        have HTX := Lib.hid hnx
        simp only [hs] at HTOP
        have hcell : ∀ W, Fr nothing wr.drew W → W.cell? ⟨n0 + 1, 0, none⟩ = some (.slice (some ⟨rb, ro, none⟩) T.acts.length ac) ∧ W.cell? ⟨rb, ro + sn, none⟩ = some ra := fun W k => ⟨k.cell hd0 id, k.cell a0 id⟩
        have HCE := Lib.hid hcell
        have hna := (rightT_parts HTT.out).2.2.1
        have hda : hM.lt = hM.lt := rfl
        clear hda hM hC hok hmap hbel hK hIw hM1 hacts hra hnx hyr hy hyn hbnd hTP hgp hcell hd0 a0 hbad hs
        go_upto_region 5 with fail
        refine wp_region_any (by kernel_rfl) (region_invA (fun σ W => Inv5 wr.drew (fun j => ([.pointer (some ⟨n0 + 1, 0, none⟩), .slice (some ⟨rb, ro, none⟩) T.acts.length ac, .pointer (some ⟨ab, 0, none⟩), .int .i64 (sn : Int), .pointer (some ⟨rb, ro + sn, none⟩), ra, .pointer (some ⟨ab, 0, none⟩)] : List Value).getD j undef) ⟨0, 0⟩ σ W ∧ σ 7 = none ∧ σ 8 = none) (by kernel_rfl) (by kernel_rfl) ⟨Inv5.start, rfl, rfl⟩ ?_ ?_)
        · intro j o hj σ W Z hJ0 hnj hdep hdf hA1 hA2
          obtain ⟨hJ, h7n, h8n⟩ := hJ0
          have a4 := hA1 4 (by kernel_rfl)
          have a6 := hA1 6 (by kernel_rfl)
          have a7 := hA1 7 (by kernel_rfl)
          simp only [List.getElem?_toArray, List.getElem?_cons_succ, List.getElem?_cons_zero, Option.getD_some] at a4 a6 a7
          obtain ⟨c0, c1⟩ := HCE.out W hJ.old
          match j with
          | 0 =>
            obtain rfl := Option.some.inj hj
            go_simp
            exact ⟨_, rfl, hJ.step (Fr.refl _ _) (by decide) rfl, by rw [updS_other (by decide)]; exact h7n, by rw [updS_other (by decide)]; exact h8n⟩
          | 1 =>
            obtain rfl := Option.some.inj hj
            obtain ⟨v0, e0⟩ := hdep 0 (by kernel_rfl)
            have a0 := hA2 0 24 v0 (by kernel_rfl) (Nat.le_of_ble_eq_true (by kernel_rfl)) e0
            obtain rfl := hJ.vs 0 v0 (by decide) e0
            simp only [List.getD_cons_succ, List.getD_cons_zero] at a0
            go_simp
            exact ⟨_, rfl, hJ.step (Fr.refl _ _) (by decide) rfl, by rw [updS_other (by decide)]; exact h7n, by rw [updS_other (by decide)]; exact h8n⟩
          | 2 =>
            obtain rfl := Option.some.inj hj
            go_simp
            exact ⟨_, rfl, hJ.step (Fr.refl _ _) (by decide) rfl, by rw [updS_other (by decide)]; exact h7n, by rw [updS_other (by decide)]; exact h8n⟩
          | 3 =>
            obtain rfl := Option.some.inj hj
            obtain ⟨v2, e2⟩ := hdep 2 (by kernel_rfl)
            have a2 := hA2 2 26 v2 (by kernel_rfl) (Nat.le_of_ble_eq_true (by kernel_rfl)) e2
            obtain rfl := hJ.vs 2 v2 (by decide) e2
            simp only [List.getD_cons_succ, List.getD_cons_zero] at a2
            go_simp
            refine (HTOP.out W hJ.old).mono ?_
            rintro e W2 ⟨rfl, q, rfl⟩
            dsimp only
            exact ⟨_, rfl, hJ.step (Fr.new (below_drewN (Below.refl _ _) _)) (by decide) rfl, by rw [updS_other (by decide)]; exact h7n, by rw [updS_other (by decide)]; exact h8n⟩
          | 4 =>
            obtain rfl := Option.some.inj hj
            obtain ⟨v1, e1⟩ := hdep 1 (by kernel_rfl)
            have a1 := hA2 1 25 v1 (by kernel_rfl) (Nat.le_of_ble_eq_true (by kernel_rfl)) e1
            obtain rfl := hJ.vs 1 v1 (by decide) e1
            simp only [List.getD_cons_succ, List.getD_cons_zero] at a1
            obtain ⟨v3, e3⟩ := hdep 3 (by kernel_rfl)
            have a3 := hA2 3 27 v3 (by kernel_rfl) (Nat.le_of_ble_eq_true (by kernel_rfl)) e3
            obtain rfl := hJ.vs 3 v3 (by decide) e3
            simp only [List.getD_cons_succ, List.getD_cons_zero] at a3
            go_simp
            exact ⟨_, rfl, hJ.step (Fr.refl _ _) (by decide) rfl, by rw [updS_other (by decide)]; exact h7n, by rw [updS_other (by decide)]; exact h8n⟩
          | 5 =>
            obtain rfl := Option.some.inj hj
            obtain ⟨v4, e4⟩ := hdep 4 (by kernel_rfl)
            have a4 := hA2 4 28 v4 (by kernel_rfl) (Nat.le_of_ble_eq_true (by kernel_rfl)) e4
            obtain rfl := hJ.vs 4 v4 (by decide) e4
            simp only [List.getD_cons_succ, List.getD_cons_zero] at a4
            go_simp
            exact ⟨_, rfl, hJ.step (Fr.refl _ _) (by decide) rfl, by rw [updS_other (by decide)]; exact h7n, by rw [updS_other (by decide)]; exact h8n⟩
          | 6 =>
            obtain rfl := Option.some.inj hj
            go_simp
            exact ⟨_, rfl, hJ.step (Fr.refl _ _) (by decide) rfl, by rw [updS_other (by decide)]; exact h7n, by rw [updS_other (by decide)]; exact h8n⟩
          | 7 =>
            obtain rfl := Option.some.inj hj
            obtain ⟨v6, e6⟩ := hdep 6 (by kernel_rfl)
            have a6 := hA2 6 30 v6 (by kernel_rfl) (Nat.le_of_ble_eq_true (by kernel_rfl)) e6
            obtain rfl := hJ.vs 6 v6 (by decide) e6
            simp only [List.getD_cons_succ, List.getD_cons_zero] at a6
            go_simp
            refine (HNX.out W hJ.old).mono ?_
            rintro e W2 ⟨rfl, q, rfl⟩
            dsimp only
            have hkq : Fr nothing wr (W.drewN q) := ((Fr.drew wr).trans hJ.old).trans (Fr.new (below_drewN (Below.refl _ _) _))
            have hbx := HMM.out.2.2.2.2.trans (hkq.below (B := n0 + 3) (by have := HMM.out.1.lt; omega) fun _ e => e.elim)
            have hend := (HMM.out.1.keep hkq).ends (st' := st) rfl rfl
            have hstep := step_none (T := T) HTX.out
            show bodyPostD Try.prog Try.f34 (RunP w G T terms) (Exit.panic [{ v := errV 309, recovered := false }]) Z (W.drewN q)
            obtain ⟨zt, zd⟩ := Z
            simp only at hdf a6 a7
            subst hdf
            have hob := HPE.out _ (hbx)
            refine leaves_cons (f := 66) (args := #[.pointer (some ⟨n0 + 1 + 1, 0, none⟩)]) (by simp) (by simp [go_sem]) ?_
            refine (run1_caught _ _ _ _ _ (obj_cell hob 0 rfl) (obj_frozen hob 0)).mono ?_
            rintro e u' w'' ⟨rfl, rfl, rfl⟩
            have f1 := obj_cell (setCell_obj hob (i := 0) (.int .i64 309)) 0 (v := .int .i64 309) rfl
            have hP := fin_run (terms := terms) (err := 309) (st := st) HN0.out (Nat.le_refl _) hab hob (HMM.out.2.1.ends HTT.out hstep) (hend) (fun e => by cases e) HPOS.out.1 (HKK.out _ (hbx)).2
            simp [Leaves, settle, results, Try.results34, go_sem, f1, hP, a6, a7]
          | 8 =>
            obtain ⟨v7, e7⟩ := hdep 7 (by kernel_rfl)
            rw [h7n] at e7
            cases e7
          | 9 =>
            obtain ⟨v8, e8⟩ := hdep 8 (by kernel_rfl)
            rw [h8n] at e8
            cases e8
          | 10 =>
            obtain rfl := Option.some.inj hj
            go_simp
            exact ⟨_, rfl, hJ.alloc hnj, by rw [updS_other (by decide)]; exact h7n, by rw [updS_other (by decide)]; exact h8n⟩
          | 11 =>
            obtain ⟨v7, e7⟩ := hdep 7 (by kernel_rfl)
            rw [h7n] at e7
            cases e7
          | n + 12 => exact absurd hj (by simp)
        · intro σ W hJ hall
          obtain ⟨u7, h7⟩ := hall 7 (Nat.le_of_ble_eq_true (by kernel_rfl))
          rw [hJ.2.1] at h7
          cases h7
      | some t =>
        have htr := nextT_range (by omega) hnx
        obtain ⟨hent, sn, tn, hsn, htn, hs, ht, hea⟩ := entAt_ok HTT.out (s := lastN st.stack) (t := t) (by omega) ⟨htr.1, htr.2.1⟩
        have hNX : ∀ W, Fr nothing wr.drew W → Calls Try.prog 73 #[.pointer (some ⟨ab, 0, none⟩)] W fun e w' => e = .returned (.int .i64 (tn : Int)) ∧ ∃ n, w' = W.drewN n := fun W k => by
          rw [← ht]
          by_cases hp : st.pos < terms.length
          · have h1 := htr.2.2.1 hp
            have h2 : terms[st.pos] = t := by rw [h1.2, List.getD_eq_getElem?_getD, List.getElem?_eq_getElem hp]; rfl
            have h3 := (next_in (hM1.keep k) ((hIw.fr hkd).fr k).terms hp).1 (by rw [h2]; exact ⟨h1.1, htr.2.1⟩)
            rw [h2] at h3
            exact h3
          · have h4 := htr.2.2.2 (by omega)
            rw [h4]
            exact next_end (hM1.keep k) (by have := hok.pos; omega)
        have HNX := Lib.hid hNX
        have hacts := hIw.acts
        rw [HA.out] at hacts
        simp only at hacts
        obtain ⟨rb, ro, rfl, -, ra, a0, hra⟩ := Rows'.at hacts hsn
        rw [Nat.mul_one] at a0
        obtain ⟨ea, rc, rfl, -, -, hral⟩ := Rows'.parts hra
        obtain ⟨eb, eo, rfl, -, -, -, hcs⟩ := Rows'.at hra htn
        have s0 := hcs 0 (by simp [acCells])
        have s1 := hcs 1 (by simp [acCells])
        simp only [acCells, List.getElem_cons_zero, List.getElem_cons_succ, Nat.add_zero] at s0 s1
        have hd0 := (HCF.out _ _ (hK.1.trans hkd) fun _ _ => id).2.2.2.1
        have a0 := hkd.cell a0 id
        have s0 := hkd.cell s0 id
        have s1 := hkd.cell s1 id
        have HTX := Lib.hid (And.intro hnx (And.intro hs (And.intro ht (And.intro hea hent))))
        simp only [hs] at HTOP
        clear hNX hM hC hok hmap hbel hK hIw hM1 hacts hra hcs hnx htr hs ht hea hent hyr hy hyn hbnd hTP hgp
        obtain ⟨x, hx⟩ : ∃ x, T.acts[sn][tn] = x := ⟨_, rfl⟩
        rw [hx] at s0 s1
        have HXX := Lib.hid hx
        clear hx
        have hcell : ∀ W, Fr nothing wr.drew W → W.cell? ⟨n0 + 1, 0, none⟩ = some (.slice (some ⟨rb, ro, none⟩) T.acts.length ac) ∧ W.cell? ⟨rb, ro + sn, none⟩ = some (.slice (some ⟨eb, eo, none⟩) T.acts[sn].length rc) ∧ W.cell? ⟨eb, eo + tn * 2, none⟩ = some (.int .u8 x.kind) ∧ W.cell? ⟨eb, eo + tn * 2 + 1, none⟩ = some (.int .i64 x.dst) := fun W k => ⟨k.cell hd0 id, k.cell a0 id, k.cell s0 id, k.cell s1 id⟩
        have HCE := Lib.hid hcell
        clear hcell hd0 a0 s0 s1
        have hna := (rightT_parts HTT.out).2.2.1
        go_upto_region 5 with fail
        refine wp_normal ?_
        refine wp_region_any (by kernel_rfl) (region_invA (Inv5 wr.drew (fun j => ([.pointer (some ⟨n0 + 1, 0, none⟩), .slice (some ⟨rb, ro, none⟩) T.acts.length ac, .pointer (some ⟨ab, 0, none⟩), .int .i64 (sn : Int), .pointer (some ⟨rb, ro + sn, none⟩), .slice (some ⟨eb, eo, none⟩) T.acts[sn].length rc, .pointer (some ⟨ab, 0, none⟩), .int .i64 (tn : Int), .pointer (some ⟨eb, eo + tn * 2, none⟩), .agg #[.int .u8 x.kind, .int .i64 x.dst]] : List Value).getD j undef) x) (by kernel_rfl) (by kernel_rfl) Inv5.start ?_ ?_)
        · intro j o hj σ W Z hJ hnj hdep hdf hA1 hA2
          have a4 := hA1 4 (by kernel_rfl)
          have a6 := hA1 6 (by kernel_rfl)
          simp only [List.getElem?_toArray, List.getElem?_cons_succ, List.getElem?_cons_zero, Option.getD_some] at a4 a6
          obtain ⟨c0, c1, c2, c3⟩ := HCE.out W hJ.old
          match j with
          | 0 =>
            obtain rfl := Option.some.inj hj
            go_simp
            exact ⟨_, rfl, hJ.step (Fr.refl _ _) (by decide) rfl⟩
          | 1 =>
            obtain rfl := Option.some.inj hj
            obtain ⟨v0, e0⟩ := hdep 0 (by kernel_rfl)
            have a0 := hA2 0 24 v0 (by kernel_rfl) (Nat.le_of_ble_eq_true (by kernel_rfl)) e0
            obtain rfl := hJ.vs 0 v0 (by decide) e0
            simp only [List.getD_cons_succ, List.getD_cons_zero] at a0
            go_simp
            exact ⟨_, rfl, hJ.step (Fr.refl _ _) (by decide) rfl⟩
          | 2 =>
            obtain rfl := Option.some.inj hj
            go_simp
            exact ⟨_, rfl, hJ.step (Fr.refl _ _) (by decide) rfl⟩
          | 3 =>
            obtain rfl := Option.some.inj hj
            obtain ⟨v2, e2⟩ := hdep 2 (by kernel_rfl)
            have a2 := hA2 2 26 v2 (by kernel_rfl) (Nat.le_of_ble_eq_true (by kernel_rfl)) e2
            obtain rfl := hJ.vs 2 v2 (by decide) e2
            simp only [List.getD_cons_succ, List.getD_cons_zero] at a2
            go_simp
            refine (HTOP.out W hJ.old).mono ?_
            rintro e W2 ⟨rfl, q, rfl⟩
            dsimp only
            exact ⟨_, rfl, hJ.step (Fr.new (below_drewN (Below.refl _ _) _)) (by decide) rfl⟩
          | 4 =>
            obtain rfl := Option.some.inj hj
            obtain ⟨v1, e1⟩ := hdep 1 (by kernel_rfl)
            have a1 := hA2 1 25 v1 (by kernel_rfl) (Nat.le_of_ble_eq_true (by kernel_rfl)) e1
            obtain rfl := hJ.vs 1 v1 (by decide) e1
            simp only [List.getD_cons_succ, List.getD_cons_zero] at a1
            obtain ⟨v3, e3⟩ := hdep 3 (by kernel_rfl)
            have a3 := hA2 3 27 v3 (by kernel_rfl) (Nat.le_of_ble_eq_true (by kernel_rfl)) e3
            obtain rfl := hJ.vs 3 v3 (by decide) e3
            simp only [List.getD_cons_succ, List.getD_cons_zero] at a3
            go_simp
            exact ⟨_, rfl, hJ.step (Fr.refl _ _) (by decide) rfl⟩
          | 5 =>
            obtain rfl := Option.some.inj hj
            obtain ⟨v4, e4⟩ := hdep 4 (by kernel_rfl)
            have a4 := hA2 4 28 v4 (by kernel_rfl) (Nat.le_of_ble_eq_true (by kernel_rfl)) e4
            obtain rfl := hJ.vs 4 v4 (by decide) e4
            simp only [List.getD_cons_succ, List.getD_cons_zero] at a4
            go_simp
            exact ⟨_, rfl, hJ.step (Fr.refl _ _) (by decide) rfl⟩
          | 6 =>
            obtain rfl := Option.some.inj hj
            go_simp
            exact ⟨_, rfl, hJ.step (Fr.refl _ _) (by decide) rfl⟩
          | 7 =>
            obtain rfl := Option.some.inj hj
            obtain ⟨v6, e6⟩ := hdep 6 (by kernel_rfl)
            have a6 := hA2 6 30 v6 (by kernel_rfl) (Nat.le_of_ble_eq_true (by kernel_rfl)) e6
            obtain rfl := hJ.vs 6 v6 (by decide) e6
            simp only [List.getD_cons_succ, List.getD_cons_zero] at a6
            go_simp
            refine (HNX.out W hJ.old).mono ?_
            rintro e W2 ⟨rfl, q, rfl⟩
            dsimp only
            exact ⟨_, rfl, hJ.step (Fr.new (below_drewN (Below.refl _ _) _)) (by decide) rfl⟩
          | 8 =>
            obtain rfl := Option.some.inj hj
            obtain ⟨v5, e5⟩ := hdep 5 (by kernel_rfl)
            have a5 := hA2 5 29 v5 (by kernel_rfl) (Nat.le_of_ble_eq_true (by kernel_rfl)) e5
            obtain rfl := hJ.vs 5 v5 (by decide) e5
            simp only [List.getD_cons_succ, List.getD_cons_zero] at a5
            obtain ⟨v7, e7⟩ := hdep 7 (by kernel_rfl)
            have a7 := hA2 7 31 v7 (by kernel_rfl) (Nat.le_of_ble_eq_true (by kernel_rfl)) e7
            obtain rfl := hJ.vs 7 v7 (by decide) e7
            simp only [List.getD_cons_succ, List.getD_cons_zero] at a7
            go_simp
            exact ⟨_, rfl, hJ.step (Fr.refl _ _) (by decide) rfl⟩
          | 9 =>
            obtain rfl := Option.some.inj hj
            obtain ⟨v8, e8⟩ := hdep 8 (by kernel_rfl)
            have a8 := hA2 8 32 v8 (by kernel_rfl) (Nat.le_of_ble_eq_true (by kernel_rfl)) e8
            obtain rfl := hJ.vs 8 v8 (by decide) e8
            simp only [List.getD_cons_succ, List.getD_cons_zero] at a8
            go_simp
            exact ⟨_, rfl, hJ.step (Fr.refl _ _) (by decide) rfl⟩
          | 10 =>
            obtain rfl := Option.some.inj hj
            go_simp
            exact ⟨_, rfl, hJ.alloc hnj⟩
          | 11 =>
            obtain rfl := Option.some.inj hj
            obtain ⟨v9, e9⟩ := hdep 9 (by kernel_rfl)
            have a9 := hA2 9 33 v9 (by kernel_rfl) (Nat.le_of_ble_eq_true (by kernel_rfl)) e9
            obtain rfl := hJ.vs 9 v9 (by decide) e9
            simp only [List.getD_cons_succ, List.getD_cons_zero] at a9
            obtain ⟨v10, e10⟩ := hdep 10 (by kernel_rfl)
            have a10 := hA2 10 9 v10 (by kernel_rfl) (Nat.le_of_ble_eq_true (by kernel_rfl)) e10
            obtain ⟨b, rfl, hb1, hb2⟩ := hJ.box v10 e10
            rw [if_pos hnj] at hb2
            have b0 := obj_cell hb2 0 (v := .int .u8 0) rfl
            have b1 := obj_cell hb2 1 (v := .int .i64 0) rfl
            have f0 := obj_frozen hb2 0
            have f1 := obj_frozen hb2 1
            go_simp
            exact ⟨undef, hJ.store e10 hnj undef⟩
          | n + 12 => exact absurd hj (by simp)
        · intro σ W hJ hall
          obtain ⟨u0, h0⟩ := hall 0 (Nat.le_of_ble_eq_true (by kernel_rfl))
          obtain rfl := hJ.vs 0 u0 (by decide) h0
          obtain ⟨u1, h1⟩ := hall 1 (Nat.le_of_ble_eq_true (by kernel_rfl))
          obtain rfl := hJ.vs 1 u1 (by decide) h1
          obtain ⟨u2, h2⟩ := hall 2 (Nat.le_of_ble_eq_true (by kernel_rfl))
          obtain rfl := hJ.vs 2 u2 (by decide) h2
          obtain ⟨u3, h3⟩ := hall 3 (Nat.le_of_ble_eq_true (by kernel_rfl))
          obtain rfl := hJ.vs 3 u3 (by decide) h3
          obtain ⟨u4, h4⟩ := hall 4 (Nat.le_of_ble_eq_true (by kernel_rfl))
          obtain rfl := hJ.vs 4 u4 (by decide) h4
          obtain ⟨u5, h5⟩ := hall 5 (Nat.le_of_ble_eq_true (by kernel_rfl))
          obtain rfl := hJ.vs 5 u5 (by decide) h5
          obtain ⟨u6, h6⟩ := hall 6 (Nat.le_of_ble_eq_true (by kernel_rfl))
          obtain rfl := hJ.vs 6 u6 (by decide) h6
          obtain ⟨u7, h7⟩ := hall 7 (Nat.le_of_ble_eq_true (by kernel_rfl))
          obtain rfl := hJ.vs 7 u7 (by decide) h7
          obtain ⟨u8, h8⟩ := hall 8 (Nat.le_of_ble_eq_true (by kernel_rfl))
          obtain rfl := hJ.vs 8 u8 (by decide) h8
          obtain ⟨u9, h9⟩ := hall 9 (Nat.le_of_ble_eq_true (by kernel_rfl))
          obtain rfl := hJ.vs 9 u9 (by decide) h9
          obtain ⟨u10, h10⟩ := hall 10 (Nat.le_of_ble_eq_true (by kernel_rfl))
          obtain ⟨u11, h11⟩ := hall 11 (Nat.le_of_ble_eq_true (by kernel_rfl))
          obtain ⟨b, rfl, hb1, hb2⟩ := hJ.box u10 h10
          rw [if_neg (by rw [h11]; simp)] at hb2
          have hold : Fr nothing wr W := (Fr.drew wr).trans hJ.old
          have hMW := HMM.out.1.keep hold
          have hmW := HMM.out.2.2.2.1.fr hold id
          have hbW := HMM.out.2.2.2.2.trans (hold.below (B := n0 + 3) (by have := HMM.out.1.lt; omega) fun _ e => e.elim)
          have q0 := obj_cell hb2 0 (v := .int .u8 x.kind) rfl
          have q1 := obj_cell hb2 1 (v := .int .i64 x.dst) rfl
          have hmu := muW_at HMM.out.1 terms.length
          have HW := Lib.hid (And.intro hMW (And.intro hmW (And.intro hbW hmu)))
          simp only [dstL, fillL, List.map_cons, List.map_nil, Nat.zero_add, Nat.reduceAdd, h0, h1, h2, h3, h4, h5, h6, h7, h8, h9, h10, h11, Act.put, List.setIfInBounds_toArray, List.set_cons_zero, List.set_cons_succ, List.getD_cons_succ, List.getD_cons_zero]
          clear h0 h1 h2 h3 h4 h5 h6 h7 h8 h9 h10 h11 hall hJ hold hMW hmW hbW hmu hb2 hb1 HCE HNX HTOP
          unfold onlyNormal
          simp only
          have hek := entryB_kinds HTX.out.2.2.2.2
          rw [HTX.out.2.2.2.1, HXX.out] at hek
          rcases hek with hk | hk | ⟨hk, ht0, hd0, hd1⟩ | ⟨hk, hd0, hd1⟩
          · -- refuse
            have hstep := step_err (T := T) HTX.out.1 (by rw [HTX.out.2.2.2.1, HXX.out]; exact hk)
            have hlk := does_look HW.out.2.1 0 (.func (.func 71) #[] #[]) (fun v hv => by simpa [doesL] using hv) ⟨_, List.mem_cons_of_mem _ (List.mem_cons_of_mem _ (List.mem_cons_of_mem _ (List.mem_cons_self ..))), rfl⟩
            rw [hk] at q0
            go_wp2_with (go_at_call 71; refine (refuse_any _ _ _).mono ?_; rintro e w' ⟨rfl, rfl⟩)
            have hob := HPE.out _ (HW.out.2.2.1)
            refine leaves_cons (f := 66) (args := #[.pointer (some ⟨n0 + 1 + 1, 0, none⟩)]) (by simp) (by simp [go_sem]) ?_
            refine (run1_caught _ _ _ _ _ (obj_cell hob 0 rfl) (obj_frozen hob 0)).mono ?_
            rintro e u' w'' ⟨rfl, rfl, rfl⟩
            have f1 := obj_cell (setCell_obj hob (i := 0) (.int .i64 308)) 0 (v := .int .i64 308) rfl
            have hP := fin_run (terms := terms) (err := 308) (st := st) HN0.out (Nat.le_refl _) hab hob (HMM.out.2.1.ends HTT.out hstep) (HW.out.1.ends rfl rfl) (fun e => by cases e) HPOS.out.1 (HKK.out _ (HW.out.2.2.1)).2
            simp [Leaves, settle, results, Try.results34, go_sem, f1, hP]
          · -- accept
            have hstep := step_acc (T := T) HTX.out.1 (by rw [HTX.out.2.2.2.1, HXX.out]; exact hk)
            have hlk := does_look HW.out.2.1 3 (.func (.func 70) #[] #[]) (fun v hv => by simpa [doesL] using hv) ⟨_, List.mem_cons_of_mem _ (List.mem_cons_of_mem _ (List.mem_cons_self ..)), rfl⟩
            rw [hk] at q0
            have HAC := Lib.hid (accept_any HW.out.1 HPOS.out.2 (by have := HPOS.out.1.2.1; omega) x.dst)
            by_cases hl1 : st.stack.length = 1
            · rw [if_pos hl1] at HAC hstep
              have HST := Lib.hid hstep
              clear hl1 hstep
              go_wp2_with (go_at_call 70; refine HAC.out.mono ?_; rintro e w' ⟨rfl, q, rfl⟩)
              have hbq : Below W.heap.size W (W.drewN q) := below_drewN (Below.refl _ _) _
              have hbx := HW.out.2.2.1.trans (hbq.mono (show n0 + 3 ≤ W.heap.size by have := HW.out.1.lt; omega))
              have hob := HPE.out _ (hbx)
              refine leaves_cons (f := 66) (args := #[.pointer (some ⟨n0 + 1 + 1, 0, none⟩)]) (by simp) (by simp [go_sem]) ?_
              refine (run1_caught _ _ _ _ _ (obj_cell hob 0 rfl) (obj_frozen hob 0)).mono ?_
              rintro e u' w'' ⟨rfl, rfl, rfl⟩
              have f1 := obj_cell (setCell_obj hob (i := 0) (.int .i64 4)) 0 (v := .int .i64 4) rfl
              have hP := fin_run (terms := terms) (err := 4) (st := st) HN0.out (Nat.le_refl _) hab hob (HMM.out.2.1.ends HTT.out HST.out) ((HW.out.1.keep (Fr.new hbq)).ends rfl rfl) (fun e => by cases e) HPOS.out.1 (HKK.out _ (hbx)).2
              simp [Leaves, settle, results, Try.results34, go_sem, f1, hP]
            · rw [if_neg hl1] at HAC hstep
              have HST := Lib.hid (And.intro hstep hl1)
              clear hl1 hstep
              go_wp2_with (go_at_call 70; refine HAC.out.mono ?_; rintro e w' ⟨rfl, q, rfl⟩)
              have hbq : Below W.heap.size W (W.drewN q) := below_drewN (Below.refl _ _) _
              have hbx := HW.out.2.2.1.trans (hbq.mono (show n0 + 3 ≤ W.heap.size by have := HW.out.1.lt; omega))
              have hob := HPE.out _ (hbx)
              refine leaves_cons (f := 66) (args := #[.pointer (some ⟨n0 + 1 + 1, 0, none⟩)]) (by simp) (by simp [go_sem]) ?_
              refine (run1_caught _ _ _ _ _ (obj_cell hob 0 rfl) (obj_frozen hob 0)).mono ?_
              rintro e u' w'' ⟨rfl, rfl, rfl⟩
              have f1 := obj_cell (setCell_obj hob (i := 0) (.int .i64 0)) 0 (v := .int .i64 0) rfl
              have hP := fin_run (terms := terms) (err := 0) (st := st) HN0.out (Nat.le_refl _) hab hob (HMM.out.2.1.ends HTT.out HST.out.1) ((HW.out.1.keep (Fr.new hbq)).ends rfl rfl) (fun _ => ⟨by have := HST.out.2; have := HPOS.out.2; omega, _, _, _, HW.out.1.keep (Fr.new hbq)⟩) HPOS.out.1 (HKK.out _ (hbx)).2
              simp [Leaves, settle, results, Try.results34, go_sem, f1, hP]
          · -- shift
            have hstep := step_shift (T := T) HTX.out.1 (by rw [HTX.out.2.2.2.1, HXX.out]; exact hk)
            rw [HTX.out.2.2.2.1, HXX.out] at hstep
            have hpl : st.pos < terms.length := by
              refine Classical.byContradiction fun hn => ?_
              have := (nextT_range (by have := (rightG_parts (rightT_parts HTT.out).1).1; omega) HTX.out.1).2.2.2 (by omega)
              omega
            have hok2 := shift_ok HMM.out.2.2.1 hpl ⟨hd0, hd1⟩
            have hlk := does_look HW.out.2.1 1 (.func (.func 68) #[] #[]) (fun v hv => by simpa [doesL] using hv) ⟨_, List.mem_cons_self .., rfl⟩
            rw [hk] at q0
            have HAC := Lib.hid (shift_any HW.out.1 x.dst HPOS.out.2 (by have := HPOS.out.1.2.1; omega) (by omega) hab)
            have HST := Lib.hid (And.intro hstep (And.intro hok2 hpl))
            clear hstep hok2 hpl hk hd0 hd1 ht0
            go_wp2_with (go_at_call 68; refine HAC.out.mono ?_; rintro e w' ⟨sv', L', rfl, hA', hb', hmk⟩)
            go_roundw
            case rel => exact ⟨_, _, _, _, hA', HMM.out.2.1.next HST.out.1, HST.out.2.1, isMap_kept HW.out.2.1 hmk, HW.out.2.2.1.trans hb'⟩
            case measure =>
              rw [HW.out.2.2.2, muW_at hA']
              have := HST.out.2.2
              dsimp only
              omega
          · -- reduce
            have hstep := step_red (T := T) HTX.out.1 (by rw [HTX.out.2.2.2.1, HXX.out]; exact hk)
            rw [HTX.out.2.2.2.1, HXX.out] at hstep
            have hlk := does_look HW.out.2.1 2 (.func (.func 69) #[] #[]) (fun v hv => by simpa [doesL] using hv) ⟨_, List.mem_cons_of_mem _ (List.mem_cons_self ..), rfl⟩
            rw [hk] at q0
            obtain ⟨kn, hkn⟩ : ∃ kn : Nat, x.dst = (kn : Int) := ⟨x.dst.toNat, by omega⟩
            have hrd := reduce_any HW.out.1 (fun W' hW' => HI1.out W' (HW.out.2.2.1.trans hW')) HTT.out HMM.out.2.2.1 hl hab kn (by omega) (by omega)
            unfold RedP at hrd
            rw [hkn] at hstep q1 hd0 hd1
            cases hr : redU G T st (kn : Int) with
            | inl er =>
              rw [hr] at hrd hstep
              simp only at hrd hstep
              have her := red_inl hr
              have HST := Lib.hid (And.intro hstep her)
              have HRD := Lib.hid hrd
              clear hstep her hrd hr hk hd0 hd1
              go_wp2_with (go_at_call 69; refine HRD.out.mono ?_; rintro e w' ⟨hb', -, rfl, pv', hend⟩)
              have hbx := HW.out.2.2.1.trans hb'
              have hob := HPE.out _ (hbx)
              refine leaves_cons (f := 66) (args := #[.pointer (some ⟨n0 + 1 + 1, 0, none⟩)]) (by simp) (by simp [go_sem]) ?_
              refine (run1_caught _ _ _ _ _ (obj_cell hob 0 rfl) (obj_frozen hob 0)).mono ?_
              rintro e u' w'' ⟨rfl, rfl, rfl⟩
              have f1 := obj_cell (setCell_obj hob (i := 0) (.int .i64 er)) 0 (v := .int .i64 er) rfl
              have hP := fin_run (terms := terms) (err := er) (st := st) HN0.out (Nat.le_refl _) hab hob (HMM.out.2.1.ends HTT.out HST.out.1) (hend) (fun e => absurd e (by have := HST.out.2; omega)) HPOS.out.1 (HKK.out _ (hbx)).2
              simp [Leaves, settle, results, Try.results34, go_sem, f1, hP]
            | inr st' =>
              rw [hr] at hrd hstep
              simp only at hrd hstep
              have hok2 := red_ok HTT.out HMM.out.2.2.1 ⟨hd0, hd1⟩ hr
              have hri := red_inr hr
              have hsi := HMM.out.2.2.1.since
              have hsi2 := hok2.since
              have HST := Lib.hid (And.intro hstep (And.intro hok2 (And.intro hri (And.intro hsi hsi2))))
              have HRD := Lib.hid hrd
              clear hstep hok2 hri hsi hsi2 hrd hr hk hd0 hd1
              go_wp2_with (go_at_call 69; refine HRD.out.mono ?_; rintro e w' ⟨hb', hmk, rfl, sv', pv', L', hA'⟩)
              go_roundw
              case rel => exact ⟨_, _, _, _, hA', HMM.out.2.1.next HST.out.1, HST.out.2.1, isMap_kept HW.out.2.1 hmk, HW.out.2.2.1.trans hb'⟩
              case measure =>
                obtain ⟨-, -, ⟨h1, h2⟩, h3, h4⟩ := HST.out
                rw [HW.out.2.2.2, muW_at hA', h1, h2]
                omega
end Go.Proofs.Ytpnihegmhalcfaa
