/-
  Package first: the step of what symbols begin with.
-/
import Derived.Test.YtfhleelechbdmaaDoorFi6
import Derived.Test.YtfhleelechbdmaaDoorAnyT
namespace Go.Proofs.YtfhleelechbdmaaDoor
open Go.RowKit
set_option maxHeartbeats 400000

/-- The blocks that sets own. -/
def ownsOf (ps : List (Nat × Value)) : Nat → Prop := fun k => ∃ i, ∃ h : i < ps.length, ps[i].2.ownBlock = some k
/-- No two sets share a block. -/
def Apart (ps : List (Nat × Value)) : Prop := ∀ i j (hi : i < ps.length) (hj : j < ps.length), i ≠ j → ps[i].1 ≠ ps[j].1 ∧ ∀ g, ps[i].2.ownBlock = some g → ps[j].2.ownBlock ≠ some g
/-- Sets, behind pointers in a row. -/
structure SetsM (w : World) (B q : Nat) (ps : List (Nat × Value)) (S : List (List Bool)) : Prop where
  ptrs : w.heap[q]? = some (ptrRow ps)
  sets : ∀ i (h : i < ps.length), PSet w B ps[i].1 ps[i].2 (rowAt S i)
  apart : Apart ps
  tab : Tab w
  tabB : 0 < B
theorem PSet.not {w : World} {B p b : Nat} {v : Value} {bs : List Bool} {cs : Array Value} {t : TypeId} {f : Nat × Nat} (h : PSet w B p v bs) (hb : w.heap[b]? = some (.cells cs t f)) (hne : 76 ≠ t) : v.ownBlock ≠ some b := by
  obtain ⟨ws, h, _⟩ := h
  exact own_ne h.own hb hne
theorem PSet.not2 {w : World} {B p p' : Nat} {v v' : Value} {B' : Nat} {bs bs' : List Bool} (h : PSet w B p v bs) (h' : PSet w B' p' v' bs') (g : Nat) (hg : v.ownBlock = some g) : p' ≠ g := fun e => by
  obtain ⟨ws, h', _⟩ := h'
  have := h'.hp
  rw [e] at this
  exact h.not this (by decide) hg
theorem SetsM.off {w : World} {B q b : Nat} {ps : List (Nat × Value)} {S : List (List Bool)} (h : SetsM w B q ps S) {cs : Array Value} {t : TypeId} {f : Nat × Nat} (hb : w.heap[b]? = some (.cells cs t f)) (hne : 76 ≠ t) : ¬ ownsOf ps b :=
  fun ⟨i, hi, e⟩ => (h.sets i hi).not hb hne e
theorem SetsM.fresh {w w' : World} {B q : Nat} {ps : List (Nat × Value)} {S : List (List Bool)} (h : SetsM w B q ps S) (k : Fr nothing w w') : SetsM w' B q ps S :=
  ⟨k.obj h.ptrs fun e => e, fun i hi => (h.sets i hi).fresh k, h.apart, h.tab.fr k fun e => e, h.tabB⟩
theorem SetsM.one {w : World} {B q : Nat} {ps : List (Nat × Value)} {S : List (List Bool)} (h : SetsM w B q ps S) {i : Nat} (hi : i < ps.length) (j : Nat) (hj : j < ps.length) : OneOrOff ps[i].1 ps[i].2 (rowAt S i) ps[j] (rowAt S j) := by
  by_cases e : i = j
  · subst e
    exact .inl ⟨rfl, rfl, rfl⟩
  · obtain ⟨h1, h2⟩ := h.apart i j hi hj e
    exact .inr ⟨h1, h2, (h.sets i hi).not2 (h.sets j hj)⟩
/-- One set turned. -/
theorem SetsM.set {w w' : World} {B q : Nat} {ps : List (Nat × Value)} {S : List (List Bool)} (h : SetsM w B q ps S) {i : Nat} (hi : i < ps.length) (hl : ps.length = S.length) {x : List Bool} (hx : PSet w' B ps[i].1 ps[i].2 x) (k : Fr (fun g => ps[i].2.ownBlock = some g) w w') : SetsM w' B q ps (S.set i x) := by
  have hgT : ps[i].2.ownBlock ≠ some 0 := fun e => by have := (h.sets i hi).ge.2 _ e; have := h.tabB; omega
  refine ⟨k.obj h.ptrs ((h.sets i hi).not h.ptrs (by decide)), fun j hj => ?_, h.apart, h.tab.fr k hgT, h.tabB⟩
  rw [rowAt_set (by omega)]
  split
  · rename_i e
    subst e
    exact hx
  · rename_i e
    obtain ⟨_, h2⟩ := h.apart i j hi hj e
    exact (h.sets j hj).fr k (fun e => (h.sets i hi).not2 (h.sets j hj) _ e rfl) fun g h3 h4 => h2 g h4 h3
def boxP (q n : Nat) : Obj := .cells #[.slice (some ⟨q, 0, none⟩) n n] 49 (0, 0)
/-- What the steps of begin find. -/
structure BeMem (w : World) (B q nb s5 s4 n : Nat) (ps : List (Nat × Value)) (no : List Bool) (S : List (List Bool)) : Prop where
  m : SetsM w B q ps S
  none_ : w.heap[nb]? = some (boolsObj no)
  box5 : w.heap[s5]? = some (boxP q n)
  box4 : w.heap[s4]? = some (boxB nb n)

set_option maxRecDepth 100000 in
set_option maxHeartbeats 4000000 in
theorem beStep_any (w0 w : World) (n T B q nb s5 s4 : Nat) (ps : List (Nat × Value)) (no : List Bool) (S : List (List Bool)) (p : Prd) (v : Value) (hw : Below w0.heap.size w0 w) (hB : w0.heap.size ≤ B) (hM : BeMem w B q nb s5 s4 n ps no S) (hok : RowsOk n T S) (hpn : ps.length = n) (hnn : no.length = n) (hv : IsPrd w0 v p) (hin : InN n p) :
    Calls Tryd.prog 31 #[v, .pointer (some ⟨s5, 0, none⟩), .pointer (some ⟨s4, 0, none⟩)] w fun e w' => e = .returned (.bool (beStep no p S).1) ∧ BeMem w' B q nb s5 s4 n ps no (beStep no p S).2 ∧ Fr (ownsOf ps) w w' := by
  obtain ⟨_, r, hr, rfl⟩ := hv
  obtain ⟨⟨hl0, hl1⟩, hR⟩ := hin
  obtain ⟨left, right, prec, has, action, whr⟩ := p
  simp only at hr hl0 hl1 hR
  obtain ⟨l, rfl⟩ : ∃ n : Nat, left = (n : Int) := ⟨left.toNat, by omega⟩
  have hln : l < n := by omega
  have hlp : l < ps.length := by omega
  obtain ⟨_, _, ra, rc, rfl, _, _, _⟩ := id hr
  unfold prdVal
  have hE : beStep no ⟨l, right, prec, has, action, whr⟩ S = (newB (rowAt S l) (flatS S (preR no right)), S.set l (orB (rowAt S l) (flatS S (preR no right)))) := by simp [beStep]
  rw [hE]
  clear hE
  have hO0 := alloc_obj w (Obj.cells #[.int .i64 l, .slice ra right.length rc, .int .i64 prec, .bool has, .string action, .int .i64 whr] 45 (0, 0))
  have hF0 := Fr.alloc (ch := nothing) w (Obj.cells #[.int .i64 l, .slice ra right.length rc, .int .i64 prec, .bool has, .string action, .int .i64 whr] 45 (0, 0))
  have hW : ∀ W, Fr nothing w W → Calls Tryd.prog 23 #[.pointer (some ⟨ps[l].1, 0, none⟩), .slice ra right.length rc, .slice (some ⟨q, 0, none⟩) n n, .slice (some ⟨nb, 0, none⟩) n n] W fun e w' =>
      e = .returned (.tuple #[.bool (newB (rowAt S l) (flatS S (preR no right))), .bool (allE no right)]) ∧ BeMem w' B q nb s5 s4 n ps no (S.set l (orB (rowAt S l) (flatS S (preR no right)))) ∧ Fr (ownsOf ps) w w' := fun W k => by
    have hm := hM.m.fresh k
    have hn2 := k.obj hM.none_ fun e => e
    have h5 := k.obj hM.box5 fun e => e
    have h4 := k.obj hM.box4 fun e => e
    have hs := hm.sets l hlp
    have hBW : Below w0.heap.size w0 W := hw.trans (k.below_new.mono hw.size)
    have := row_any W B ps[l].1 ps[l].2 (rowAt S l) _ right q ps S nb no ⟨hs, hr.fr (Fr.new hBW), hm.ptrs, hm.sets, hm.one hlp, hn2, by omega, hm.tab, hm.tabB,
      fun W2 k2 => hr.fr (Fr.new (hBW.trans (k2.below hBW.size fun g e => Nat.le_trans hB (hs.ge.2 g e)))), hs.not hm.ptrs (by decide), hs.not hn2 (by decide), by rw [hpn]; exact hR⟩
    rw [hpn] at this
    refine this.mono ?_
    rintro e w' ⟨rfl, h6, h7⟩
    exact ⟨rfl, ⟨hm.set hlp (by rw [hpn, hok.len]) h6 h7, h7.obj hn2 (hs.not hn2 (by decide)), h7.obj h5 (hs.not h5 (by decide)), h7.obj h4 (hs.not h4 (by decide))⟩, k.wide.trans (h7.mono fun g _ e => ⟨l, hlp, e⟩)⟩
  have c5 := obj_cell (alloc_older (o := Obj.cells #[.int .i64 l, .slice ra right.length rc, .int .i64 prec, .bool has, .string action, .int .i64 whr] 45 (0, 0)) hM.box5) 0 rfl
  have c4 := obj_cell (alloc_older (o := Obj.cells #[.int .i64 l, .slice ra right.length rc, .int .i64 prec, .bool has, .string action, .int .i64 whr] 45 (0, 0)) hM.box4) 0 rfl
  have cq := ptrs_cell (hF0.obj hM.m.ptrs fun e => e) l hlp
  have HW := Lib.hid fun W k => hW W (hF0.trans k)
  have o0 := obj_cell hO0 0 rfl
  have o1 := obj_cell hO0 1 rfl
  clear hO0 hF0 hW hM hw hr hR hl0 hl1
  generalize newB (rowAt S l) (flatS S (preR no right)) = c at *
  generalize allE no right = d at *
  generalize ps[l].1 = pl at *
  go_enter Tryd.func31, Tryd.ntmps31
  go_wp2
  generalize hwa : w.alloc (Obj.cells #[.int .i64 l, .slice ra right.length rc, .int .i64 prec, .bool has, .string action, .int .i64 whr] 45 (0, 0)) = wa at *
  have hwF : Fr nothing w wa := hwa ▸ Fr.alloc _ _
  obtain ⟨wq, hq⟩ : ∃ wq, wq = wa.drew := ⟨_, rfl⟩
  have kq : Fr nothing wa wq := by rw [hq]; exact Fr.drew _
  have hS0 : wq.cell? ⟨s5, 0, none⟩ = some (.slice (some ⟨q, 0, none⟩) n n) ∧ wq.cell? ⟨s4, 0, none⟩ = some (.slice (some ⟨nb, 0, none⟩) n n) ∧ wq.cell? ⟨q, l, none⟩ = some (.pointer (some ⟨pl, 0, none⟩)) ∧ wq.cell? ⟨w.heap.size, 0, none⟩ = some (.int .i64 l) ∧ wq.cell? ⟨w.heap.size, 1, none⟩ = some (.slice ra right.length rc) ∧ Fr nothing wa wq :=
    ⟨kq.cell c5 fun e => e, kq.cell c4 fun e => e, kq.cell cq fun e => e, kq.cell o0 fun e => e, kq.cell o1 fun e => e, kq⟩
  refine wp_region_anyT (fun j W => j < 9 → W.cell? ⟨s5, 0, none⟩ = some (.slice (some ⟨q, 0, none⟩) n n) ∧ W.cell? ⟨s4, 0, none⟩ = some (.slice (some ⟨nb, 0, none⟩) n n) ∧ W.cell? ⟨q, l, none⟩ = some (.pointer (some ⟨pl, 0, none⟩)) ∧ W.cell? ⟨w.heap.size, 0, none⟩ = some (.int .i64 l) ∧ W.cell? ⟨w.heap.size, 1, none⟩ = some (.slice ra right.length rc) ∧ Fr nothing wa W) (by kernel_rfl) ?_
  rw [← hq]
  clear hq hwa c5 c4 cq o0 o1
  refine anyT_take (R := _) (i := 0) (v := ?_) (fun j => decide (j < 9)) (fun j w h k => k (of_decide_eq_true h)) (fun w h _ => h) rfl (by kernel_rfl) (fun _ _ _ h => h) _ _ _ _ (by kernel_rfl) (by kernel_rfl) (by kernel_rfl) (by kernel_rfl) (Or.inl ⟨by rfl, ?_⟩) (by assumption) ?_
  rotate_left
  · (intro w hSw; (try dsimp only at hSw); go_simp)
    try with_reducible rfl
  refine anyT_take (R := _) (i := 1) (v := ?_) (fun j => decide (j < 9)) (fun j w h k => k (of_decide_eq_true h)) (fun w h _ => h) rfl (by kernel_rfl) (fun _ _ _ h => h) _ _ _ _ (by kernel_rfl) (by kernel_rfl) (by kernel_rfl) (by kernel_rfl) (Or.inl ⟨by rfl, ?_⟩) (by assumption) ?_
  rotate_left
  · (intro w hSw; (try dsimp only at hSw); go_simp)
    try with_reducible rfl
  refine anyT_take (R := _) (i := 2) (v := ?_) (fun j => decide (j < 9)) (fun j w h k => k (of_decide_eq_true h)) (fun w h _ => h) rfl (by kernel_rfl) (fun _ _ _ h => h) _ _ _ _ (by kernel_rfl) (by kernel_rfl) (by kernel_rfl) (by kernel_rfl) (Or.inl ⟨by rfl, ?_⟩) (by assumption) ?_
  rotate_left
  · (intro w hSw; (try dsimp only at hSw); go_simp)
    try with_reducible rfl
  refine anyT_take (R := _) (i := 3) (v := ?_) (fun j => decide (j < 9)) (fun j w h k => k (of_decide_eq_true h)) (fun w h _ => h) rfl (by kernel_rfl) (fun _ _ _ h => h) _ _ _ _ (by kernel_rfl) (by kernel_rfl) (by kernel_rfl) (by kernel_rfl) (Or.inl ⟨by rfl, ?_⟩) (by assumption) ?_
  rotate_left
  · (intro w hSw; (try dsimp only at hSw); go_simp)
    try with_reducible rfl
  refine anyT_take (R := _) (i := 4) (v := ?_) (fun j => decide (j < 9)) (fun j w h k => k (of_decide_eq_true h)) (fun w h _ => h) rfl (by kernel_rfl) (fun _ _ _ h => h) _ _ _ _ (by kernel_rfl) (by kernel_rfl) (by kernel_rfl) (by kernel_rfl) (Or.inl ⟨by rfl, ?_⟩) (by assumption) ?_
  rotate_left
  · (intro w hSw; (try dsimp only at hSw); go_simp)
    try with_reducible rfl
  refine anyT_take (R := _) (i := 5) (v := ?_) (fun j => decide (j < 9)) (fun j w h k => k (of_decide_eq_true h)) (fun w h _ => h) rfl (by kernel_rfl) (fun _ _ _ h => h) _ _ _ _ (by kernel_rfl) (by kernel_rfl) (by kernel_rfl) (by kernel_rfl) (Or.inl ⟨by rfl, ?_⟩) (by assumption) ?_
  rotate_left
  · (intro w hSw; (try dsimp only at hSw); go_simp)
    try with_reducible rfl
  refine anyT_take (R := _) (i := 6) (v := ?_) (fun j => decide (j < 9)) (fun j w h k => k (of_decide_eq_true h)) (fun w h _ => h) rfl (by kernel_rfl) (fun _ _ _ h => h) _ _ _ _ (by kernel_rfl) (by kernel_rfl) (by kernel_rfl) (by kernel_rfl) (Or.inl ⟨by rfl, ?_⟩) (by assumption) ?_
  rotate_left
  · (intro w hSw; (try dsimp only at hSw); go_simp)
    try with_reducible rfl
  refine anyT_take (R := _) (i := 7) (v := ?_) (fun j => decide (j < 9)) (fun j w h k => k (of_decide_eq_true h)) (fun w h _ => h) rfl (by kernel_rfl) (fun _ _ _ h => h) _ _ _ _ (by kernel_rfl) (by kernel_rfl) (by kernel_rfl) (by kernel_rfl) (Or.inl ⟨by rfl, ?_⟩) (by assumption) ?_
  rotate_left
  · (intro w hSw; (try dsimp only at hSw); go_simp)
    try with_reducible rfl
  refine anyT_take (R := _) (i := 8) (v := ?_) (fun j => decide (j < 9)) (fun j w h k => k (of_decide_eq_true h)) (fun w h _ => h) rfl (by kernel_rfl) (fun _ _ _ h => h) _ _ _ _ (by kernel_rfl) (by kernel_rfl) (by kernel_rfl) (by kernel_rfl) (Or.inl ⟨by rfl, ?_⟩) (by assumption) ?_
  rotate_left
  · (intro w hSw; (try dsimp only at hSw); go_simp)
    try with_reducible rfl
  refine anyT_ready (rs := [9]) (by kernel_rfl) (by simp) ?_
  intro j hj
  obtain rfl := List.mem_singleton.1 hj
  clear hj
  refine wpOp_plain rfl rfl ?_
  go_simp
  refine (HW.out _ hS0.2.2.2.2.2).mono ?_
  rintro e w2 ⟨rfl, hM2, hF2⟩
  dsimp only
  refine anyT_ready (rs := [10]) (by kernel_rfl) (by simp) ?_
  intro j hj
  obtain rfl := List.mem_singleton.1 hj
  clear hj
  refine wpOp_plain rfl rfl ?_
  go_simp
  refine anyT_take (R := fun _ => True) (i := 11) (v := ?_) (fun _ => true) (fun _ _ _ _ => trivial) (fun _ _ h => absurd h (by decide)) rfl (by kernel_rfl) (fun _ _ _ h => h) _ _ _ _ (by kernel_rfl) (by kernel_rfl) (by kernel_rfl) (by kernel_rfl) (Or.inl ⟨by rfl, ?_⟩) trivial ?_
  rotate_left
  · (intro w hSw; (try dsimp only at hSw); go_simp)
    try with_reducible rfl
  refine anyT_take (R := fun _ => True) (i := 12) (v := ?_) (fun _ => true) (fun _ _ _ _ => trivial) (fun _ _ h => absurd h (by decide)) rfl (by kernel_rfl) (fun _ _ _ h => h) _ _ _ _ (by kernel_rfl) (by kernel_rfl) (by kernel_rfl) (by kernel_rfl) (Or.inl ⟨by rfl, ?_⟩) trivial ?_
  rotate_left
  · (intro w hSw; (try dsimp only at hSw); go_simp)
    try with_reducible rfl
  refine anyT_ready (rs := [13]) (by kernel_rfl) (by simp) ?_
  intro j hj
  obtain rfl := List.mem_singleton.1 hj
  clear hj
  refine wpOp_plain rfl rfl ?_
  go_simp
  refine anyT_ready (rs := [14]) (by kernel_rfl) (by simp) ?_
  intro j hj
  obtain rfl := List.mem_singleton.1 hj
  clear hj
  refine wpOp_plain rfl rfl ?_
  go_simp
  refine anyT_done (by kernel_rfl) ?_ _
  have HE := Lib.hid (And.intro hM2 hF2)
  clear hM2 hF2 hS0 kq hwF
  go_wp2
  go_ret
  exact ⟨rfl, HE.out.1, HE.out.2⟩
end Go.Proofs.YtfhleelechbdmaaDoor
