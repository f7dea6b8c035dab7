/-
  BitsLives: what two sets of the program's and two of the document's have in a life; one step.
-/
import Derived.Test.YtlilegbdjnhfjaaGreatDoorLives2
import Derived.Deep.RegionHeld3
import Derived.Deep.DeepCutAuto
namespace Go.Proofs.YtlilegbdjnhfjaaGreatDoor
open Go.RowKit Go.Shelf
set_option maxHeartbeats 400000

def upd {α : Type} (f : Nat → α) (k : Nat) (x : α) : Nat → α := fun j => if j = k then x else f j
theorem upd_same {α : Type} (f : Nat → α) (k : Nat) (x : α) : upd f k x k = x := by simp [upd]
theorem upd_other {α : Type} (f : Nat → α) {j k : Nat} (x : α) (h : j ≠ k) : upd f k x j = f j := by simp [upd, h]
/-- The two rows of two sets each. -/
structure St (w : World) (B sb db : Nat) (p : Nat → Nat) (v : Nat → Value) (q : Nat → Nat) (u : Nat → Value) (b : Nat → List Bool) : Prop where
  s : w.heap[sb]? = some (.cells #[.pointer (some ⟨p 0, 0, none⟩), .pointer (some ⟨p 1, 0, none⟩)] 23 (0, 0))
  d : w.heap[db]? = some (.cells #[.pointer (some ⟨q 0, 0, none⟩), .pointer (some ⟨q 1, 0, none⟩)] 26 (0, 0))
  P : ∀ k, k < 2 → PSet w B (p k) (v k) (b k)
  R : ∀ k, k < 2 → RSet w B (q k) (u k) (b k)
  pne : p 0 ≠ p 1
  vne : ∀ g, (v 0).ownBlock = some g → (v 1).ownBlock ≠ some g
  une : ∀ g, (u 0).ownBlock = some g → (u 1).ownBlock ≠ some g
  tab : Tab w
  tl : 0 < B
  sB : B ≤ sb
  dB : B ≤ db

section
variable {w w' : World} {B sb db : Nat} {p q : Nat → Nat} {v u : Nat → Value} {b : Nat → List Bool}
theorem lt2 {k : Nat} (h : k < 2) : k = 0 ∨ k = 1 := by omega
theorem St.sc (h : St w B sb db p v q u b) {k : Nat} (hk : k < 2) : w.cell? ⟨sb, k, none⟩ = some (.pointer (some ⟨p k, 0, none⟩)) := by
  rcases lt2 hk with rfl | rfl
  · exact obj_cell h.s 0 rfl
  · exact obj_cell h.s 1 rfl
theorem St.dc (h : St w B sb db p v q u b) {k : Nat} (hk : k < 2) : w.cell? ⟨db, k, none⟩ = some (.pointer (some ⟨q k, 0, none⟩)) := by
  rcases lt2 hk with rfl | rfl
  · exact obj_cell h.d 0 rfl
  · exact obj_cell h.d 1 rfl
theorem PSet.offB {p : Nat} {v : Value} {bs : List Bool} (h : PSet w B p v bs) {g : Nat} {cs : Array Value} {t : TypeId} {f : Nat × Nat} (hb : w.heap[g]? = some (.cells cs t f)) (hne : 102 ≠ t) : v.ownBlock ≠ some g := by
  obtain ⟨ws, h, _⟩ := h
  exact own_ne h.own hb hne
theorem PSet.offP {p p' : Nat} {v v' : Value} {bs bs' : List Bool} (h : PSet w B p v bs) (h' : PSet w B p' v' bs') : v.ownBlock ≠ some p' := by
  obtain ⟨ws, h', _⟩ := h'
  exact h.offB h'.hp (by decide)
theorem PSet.offR {p q : Nat} {v u : Value} {bs cs : List Bool} (h : PSet w B p v bs) (h' : RSet w B q u cs) : v.ownBlock ≠ some q ∧ ∀ g, v.ownBlock = some g → u.ownBlock ≠ some g := by
  refine ⟨h.offB h'.1 (by decide), fun g e e' => ?_⟩
  obtain ⟨ws, h, _⟩ := h
  exact own_apart h.own h'.2.1 (by decide) g e e'
theorem RSet.offP {p q : Nat} {v u : Value} {bs cs : List Bool} (h : RSet w B q u cs) (h' : PSet w B p v bs) : u.ownBlock ≠ some p ∧ ∀ g, u.ownBlock = some g → v.ownBlock ≠ some g := by
  refine ⟨?_, fun g e e' => (h'.offR h).2 g e' e⟩
  obtain ⟨ws, h', _⟩ := h'
  exact h.off h'.hp (by decide)
theorem RSet.offR {q q' : Nat} {u u' : Value} {bs cs : List Bool} (h : RSet w B q u cs) (h' : RSet w B q' u' bs) : u.ownBlock ≠ some q' := h.off h'.1 (by decide)
theorem St.vne' (h : St w B sb db p v q u b) {j k : Nat} (hj : j < 2) (hk : k < 2) (hne : j ≠ k) : ∀ g, (v j).ownBlock = some g → (v k).ownBlock ≠ some g := by
  rcases lt2 hj with rfl | rfl <;> rcases lt2 hk with rfl | rfl
  · omega
  · exact h.vne
  · exact fun g e e' => h.vne g e' e
  · omega
theorem St.une' (h : St w B sb db p v q u b) {j k : Nat} (hj : j < 2) (hk : k < 2) (hne : j ≠ k) : ∀ g, (u j).ownBlock = some g → (u k).ownBlock ≠ some g := by
  rcases lt2 hj with rfl | rfl <;> rcases lt2 hk with rfl | rfl
  · omega
  · exact h.une
  · exact fun g e e' => h.une g e' e
  · omega
/-- The blocks of the words and truths of the sets at k. -/
def chK (v u : Nat → Value) (k : Nat) (g : Nat) : Prop := (v k).ownBlock = some g ∨ (u k).ownBlock = some g
theorem St.fresh (h : St w B sb db p v q u b) (hF : Fr nothing w w') : St w' B sb db p v q u b :=
  ⟨hF.obj h.s (fun e => e), hF.obj h.d (fun e => e), fun k hk => (h.P k hk).fresh hF, fun k hk => (h.R k hk).fresh hF, h.pne, h.vne, h.une, h.tab.fr hF (fun e => e), h.tl, h.sB, h.dB⟩
theorem St.turn (h : St w B sb db p v q u b) {k : Nat} (hk : k < 2) (hF : Fr (chK v u k) w w') {nb : List Bool} (hP : PSet w' B (p k) (v k) nb) (hR : RSet w' B (q k) (u k) nb) : St w' B sb db p v q u (upd b k nb) := by
  have hpk := h.P k hk
  have hrk := h.R k hk
  refine ⟨hF.obj h.s ?_, hF.obj h.d ?_, fun j hj => ?_, fun j hj => ?_, h.pne, h.vne, h.une, h.tab.fr hF ?_, h.tl, h.sB, h.dB⟩
  · rintro (e | e)
    · exact hpk.offB h.s (by decide) e
    · exact hrk.off h.s (by decide) e
  · rintro (e | e)
    · exact hpk.offB h.d (by decide) e
    · exact hrk.off h.d (by decide) e
  · by_cases e : j = k
    · subst e; rw [upd_same]; exact hP
    · rw [upd_other _ _ e]
      have hpj := h.P j hj
      refine hpj.fr hF ?_ ?_
      · rintro (e' | e')
        · exact hpk.offP hpj e'
        · exact (hrk.offP hpj).1 e'
      · rintro g eg (e' | e')
        · exact h.vne' hj hk e g eg e'
        · exact (hrk.offP hpj).2 g e' eg
  · by_cases e : j = k
    · subst e; rw [upd_same]; exact hR
    · rw [upd_other _ _ e]
      have hrj := h.R j hj
      refine hrj.fr hF ?_ ?_
      · rintro (e' | e')
        · exact (hpk.offR hrj).1 e'
        · exact hrk.offR hrj e'
      · rintro g eg (e' | e')
        · exact (hpk.offR hrj).2 g e' eg
        · exact h.une' hj hk e g eg e'
  · rintro (e | e)
    · have := hpk.ge.2 _ e; have := h.tl; omega
    · have := hrk.ge.2 _ e; have := h.tl; omega
theorem St.below (h : St w B sb db p v q u b) {k : Nat} (hk : k < 2) (hF : Fr (chK v u k) w w') : Below B w w' :=
  hF.below (by have := (h.P 0 (by omega)).lt.1; have := (h.P 0 (by omega)).ge.1; omega) fun g e => e.elim (fun e => (h.P k hk).ge.2 g e) fun e => (h.R k hk).ge.2 g e
theorem St.size (h : St w B sb db p v q u b) : B ≤ w.heap.size := by have := (h.P 0 (by omega)).lt.1; have := (h.P 0 (by omega)).ge.1; omega
end

/-- A set that a copy has taken the place of lies by itself. -/
def OldS (w : World) (B : Nat) (p0 : Nat) (v0 : Value) (q0 : Nat) (u0 : Value) (b0 : List Bool) (v u : Nat → Value) : Prop :=
  PSet w B p0 v0 b0 ∧ RSet w B q0 u0 b0 ∧ (∀ j, j < 2 → ∀ g, v0.ownBlock = some g → (v j).ownBlock ≠ some g) ∧ ∀ j, j < 2 → ∀ g, u0.ownBlock = some g → (u j).ownBlock ≠ some g

def StepTo (w : World) (B sb db : Nat) (p : Nat → Nat) (v : Nat → Value) (q : Nat → Nat) (u : Nat → Value) (b : Nat → List Bool) (w' : World) : Prop :=
  Below B w w' ∧ ∃ p' v' q' u' b', St w' B sb db p' v' q' u' b' ∧ (p' 0 = p 0 ∨ (p' 0 ≠ p 0 ∧ OldS w' B (p 0) (v 0) (q 0) (u 0) (b 0) v' u'))

theorem St.both {w wx w1 w2 : World} {B sb db : Nat} {p q : Nat → Nat} {v u : Nat → Value} {b : Nat → List Bool} (h : St wx B sb db p v q u b) (hB : Below B w wx) {k : Nat} (hk : k < 2) {c c' : Prop} {nb : List Bool}
    (hF1 : Fr (fun g => c ∧ (v k).ownBlock = some g) wx.drew w1) (hS1 : PSet w1 B (p k) (v k) nb) (hF2 : Fr (fun g => c' ∧ (u k).ownBlock = some g) w1 w2) (hS2 : RSet w2 B (q k) (u k) nb) : StepTo w B sb db p v q u b w2 := by
  have hF : Fr (chK v u k) wx w2 := (Fr.drew _).trans ((hF1.mono fun _ _ e => .inl e.2).trans (hF2.mono fun _ _ e => .inr e.2))
  have hn := (h.R k hk).offP (h.P k hk)
  exact ⟨hB.trans (h.below hk hF), _, _, _, _, _, h.turn hk hF (hS1.fr hF2 (fun e => hn.1 e.2) fun g e e' => hn.2 g e'.2 e) hS2, .inl rfl⟩
theorem PSet.neB {w : World} {B p : Nat} {v : Value} {bs : List Bool} (h : PSet w B p v bs) {g : Nat} {cs : Array Value} {t : TypeId} {f : Nat × Nat} (hb : w.heap[g]? = some (.cells cs t f)) (hne : t ≠ 46) : p ≠ g := by
  rintro rfl
  obtain ⟨ws, h, _⟩ := h
  rw [h.hp] at hb
  simp only [Option.some.injEq, Obj.cells.injEq] at hb
  exact hne hb.2.1.symm
theorem RSet.neB {w : World} {B q : Nat} {u : Value} {bs : List Bool} (h : RSet w B q u bs) {g : Nat} {cs : Array Value} {t : TypeId} {f : Nat × Nat} (hb : w.heap[g]? = some (.cells cs t f)) (hne : t ≠ 49) : q ≠ g := by
  rintro rfl
  have h1 := h.1
  rw [h1] at hb
  simp only [Option.some.injEq, Obj.cells.injEq] at hb
  exact hne hb.2.1.symm
theorem RSet.weaken {w : World} {B B' q : Nat} {u : Value} {bs : List Bool} (h : RSet w B q u bs) (hB : B' ≤ B) : RSet w B' q u bs := by
  refine ⟨h.1, ⟨h.2.1.1, ?_⟩, h.2.2.1, Nat.le_trans hB h.2.2.2⟩
  rcases h.2.1.2 with hn | ⟨g, cap, cur, hv, hb, rest⟩
  · exact .inl hn
  · exact .inr ⟨g, cap, cur, hv, Nat.le_trans hB hb, rest⟩
theorem St.copied {w wx w2 : World} {B sb db : Nat} {p q : Nat → Nat} {v u : Nat → Value} {b : Nat → List Bool} (h : St wx B sb db p v q u b) (hB : Below B w wx) {k : Nat} (hk : k < 2) (hF : Fr nothing wx w2) {p' q' B1 B2 : Nat} {v' u' : Value}
    (h1 : wx.heap.size ≤ B1) (h2 : wx.heap.size ≤ B2) (hP : PSet w2 B1 p' v' (b k)) (hR : RSet w2 B2 q' u' (b k)) :
    StepTo w B sb db p v q u b ((w2.setCell ⟨sb, k, none⟩ (.pointer (some ⟨p', 0, none⟩))).setCell ⟨db, k, none⟩ (.pointer (some ⟨q', 0, none⟩))) := by
  have hs := h.fresh hF
  have hsd : sb ≠ db := by
    intro e
    have h1 := hs.s
    rw [e, hs.d] at h1
    simp only [Option.some.injEq, Obj.cells.injEq] at h1
    exact absurd h1.2.1 (by decide)
  have f1 : Fr (fun g => g = sb ∨ g = db) w2 ((w2.setCell ⟨sb, k, none⟩ (.pointer (some ⟨p', 0, none⟩))).setCell ⟨db, k, none⟩ (.pointer (some ⟨q', 0, none⟩))) :=
    ((Fr.setCell w2 ⟨sb, k, none⟩ _).mono fun _ _ e => .inl e).trans ((Fr.setCell _ ⟨db, k, none⟩ _).mono fun _ _ e => .inr e)
  have kp : ∀ {p : Nat} {v : Value} {bs : List Bool} {B0 : Nat}, PSet w2 B0 p v bs → PSet ((w2.setCell ⟨sb, k, none⟩ (.pointer (some ⟨p', 0, none⟩))).setCell ⟨db, k, none⟩ (.pointer (some ⟨q', 0, none⟩))) B0 p v bs := fun hp =>
    hp.fr f1 (fun e => e.elim (hp.neB hs.s (by decide)) (hp.neB hs.d (by decide))) fun g e e' => e'.elim (fun e' => hp.offB hs.s (by decide) (e' ▸ e)) (fun e' => hp.offB hs.d (by decide) (e' ▸ e))
  have kr : ∀ {q : Nat} {u : Value} {bs : List Bool} {B0 : Nat}, RSet w2 B0 q u bs → RSet ((w2.setCell ⟨sb, k, none⟩ (.pointer (some ⟨p', 0, none⟩))).setCell ⟨db, k, none⟩ (.pointer (some ⟨q', 0, none⟩))) B0 q u bs := fun hp =>
    hp.fr f1 (fun e => e.elim (hp.neB hs.s (by decide)) (hp.neB hs.d (by decide))) fun g e e' => e'.elim (fun e' => hp.off hs.s (by decide) (e' ▸ e)) (fun e' => hp.off hs.d (by decide) (e' ▸ e))
  have hsz := h.size
  have hlt : ∀ j, j < 2 → p j < wx.heap.size ∧ (∀ g, (v j).ownBlock = some g → g < wx.heap.size) ∧ ∀ g, (u j).ownBlock = some g → g < wx.heap.size := fun j hj => ⟨(h.P j hj).lt.1, (h.P j hj).lt.2, (h.R j hj).lt.2⟩
  have hgeP := hP.ge
  have hgeR := hR.ge
  have l0 := hlt 0 (by omega)
  have l1 := hlt 1 (by omega)
  have hB2 : Below B w2 ((w2.setCell ⟨sb, k, none⟩ (.pointer (some ⟨p', 0, none⟩))).setCell ⟨db, k, none⟩ (.pointer (some ⟨q', 0, none⟩))) := f1.below hs.size fun g e => e.elim (fun e => e ▸ h.sB) fun e => e ▸ h.dB
  refine ⟨(hB.trans (hF.below_new.mono hsz)).trans hB2, upd p k p', upd v k v', upd q k q', upd u k u', b, ⟨?_, ?_, ?_, ?_, ?_, ?_, ?_, hs.tab.fr f1 (fun e => by have := h.tl; have := h.sB; have := h.dB; omega), h.tl, h.sB, h.dB⟩, ?_⟩
  · have e1 := setCell_obj (i := k) hs.s (.pointer (some ⟨p', 0, none⟩))
    refine ((Fr.setCell _ ⟨db, k, none⟩ _).obj e1 (fun e => hsd e)).trans ?_
    rcases lt2 hk with rfl | rfl <;> simp [upd]
  · have e0 := (Fr.setCell w2 ⟨sb, k, none⟩ (.pointer (some ⟨p', 0, none⟩))).obj hs.d (fun e => hsd (Eq.symm e))
    have e1 := setCell_obj (i := k) e0 (.pointer (some ⟨q', 0, none⟩))
    refine e1.trans ?_
    rcases lt2 hk with rfl | rfl <;> simp [upd]
  · intro j hj
    by_cases e : j = k
    · subst e; rw [upd_same, upd_same]; exact (kp hP).weaken (by omega)
    · rw [upd_other _ _ e, upd_other _ _ e]; exact kp (hs.P j hj)
  · intro j hj
    by_cases e : j = k
    · subst e; rw [upd_same, upd_same]; exact (kr hR).weaken (by omega)
    · rw [upd_other _ _ e, upd_other _ _ e]; exact kr (hs.R j hj)
  · rcases lt2 hk with rfl | rfl <;> simp only [upd] <;> simp <;> omega
  · rcases lt2 hk with rfl | rfl
    · intro g e e'
      simp only [upd, if_true] at e e'
      simp at e'
      have := hgeP.2 g e; have := l1.2.1 g e'; omega
    · intro g e e'
      simp [upd] at e e'
      have := hgeP.2 g e'; have := l0.2.1 g e; omega
  · rcases lt2 hk with rfl | rfl
    · intro g e e'
      simp [upd] at e e'
      have := hgeR.2 g e; have := l1.2.2 g e'; omega
    · intro g e e'
      simp [upd] at e e'
      have := hgeR.2 g e'; have := l0.2.2 g e; omega
  · rcases lt2 hk with rfl | rfl
    · refine .inr ⟨by simp [upd]; omega, kp (hs.P 0 hk), kr (hs.R 0 hk), fun j hj g e e' => ?_, fun j hj g e e' => ?_⟩
      · rcases lt2 hj with rfl | rfl
        · simp [upd] at e'
          have := hgeP.2 g e'; have := l0.2.1 g e; omega
        · simp [upd] at e'
          exact h.vne g e e'
      · rcases lt2 hj with rfl | rfl
        · simp [upd] at e'
          have := hgeR.2 g e'; have := l0.2.2 g e; omega
        · simp [upd] at e'
          exact h.une g e e'
    · exact .inl (by simp [upd])
theorem wp_atW {P : Program} {c : Code} {Q : Exit → Act → World → Prop} {a : Act} {w : World} (F : World → Prop) (hF : F w) (h : ∀ W, F W → c.wp P Q a W) : c.wp P Q a w := h w hF
set_option maxRecDepth 100000 in
set_option maxHeartbeats 4000000 in
theorem step_any (w : World) (B sb db : Nat) (p q : Nat → Nat) (v u : Nat → Value) (b : Nat → List Bool) (h : St w B sb db p v q u b) (op which n : Int) (hop : -9223372036854775808 ≤ op ∧ op ≤ 9223372036854775807) (hwh : -9223372036854775808 ≤ which ∧ which ≤ 9223372036854775807) :
    Calls Tryz.prog 8 #[.slice (some ⟨sb, 0, none⟩) 2 2, .slice (some ⟨db, 0, none⟩) 2 2, .agg #[.int .i64 op, .int .i64 which, .int .i64 n]] w fun e w' => e = .returned (.bool true) ∧ StepTo w B sb db p v q u b w' := by
  have hk := pickN_lt 2 which (by omega)
  have hk7 := pickN_lt 7 op (by omega)
  have hp1 : ∀ w, Calls Tryz.prog 20 #[.int .i64 which, .int .i64 2] w fun e w' => e = .returned (.int .i64 (pickN 2 which : Nat)) ∧ w = w' := fun w => pick_any which 2 (by omega) (by omega) w hwh
  have hp2 : ∀ w, Calls Tryz.prog 20 #[.int .i64 op, .int .i64 7] w fun e w' => e = .returned (.int .i64 (pickN 7 op : Nat)) ∧ w = w' := fun w => pick_any op 7 (by omega) (by omega) w hop
  have HP1 := Lib.hid hp1
  have HP2 := Lib.hid hp2
  clear hp1 hp2
  generalize pickN 2 which = k at *
  generalize pickN 7 op = kop at *
  have HS0 := Lib.hid h
  clear h hop hwh
  go_enter Tryz.func8, Tryz.ntmps8
  go_upto_region 1 with fail
  refine wp_atW (F := fun wx => St wx B sb db p v q u b ∧ wx.heap[w.heap.size]? = some (.cells #[.int .i64 op, .int .i64 which, .int .i64 n] 33 (0, 0)) ∧ Below B w wx) ⟨HS0.out.fresh (Fr.alloc _ _), World.alloc_heap_new _ _, (Below.refl _ w).alloc HS0.out.size _⟩ ?_
  rintro wx ⟨hS, hx, hBx⟩
  have cx0 : wx.cell? ⟨w.heap.size, 0, none⟩ = some (.int .i64 op) := obj_cell hx 0 rfl
  have cx1 : wx.cell? ⟨w.heap.size, 1, none⟩ = some (.int .i64 which) := obj_cell hx 1 rfl
  have cx2 : wx.cell? ⟨w.heap.size, 2, none⟩ = some (.int .i64 n) := obj_cell hx 2 rfl
  have cs := hS.sc hk
  have cd := hS.dc hk
  have hxl : w.heap.size < wx.heap.size := (Array.getElem?_eq_some_iff.1 hx).1
  have hPk := hS.P k hk
  have hRk := hS.R k hk
  have hox : ∀ g, (v k).ownBlock = some g ∨ (u k).ownBlock = some g → g ≠ w.heap.size := fun g e e' => by
    subst e'
    rcases e with e | e
    · exact hPk.offB hx (by decide) e
    · exact hRk.off hx (by decide) e
  have hos : ∀ g, (v k).ownBlock = some g ∨ (u k).ownBlock = some g → g ≠ sb ∧ g ≠ db := fun g e => by
    refine ⟨fun e' => ?_, fun e' => ?_⟩ <;> subst e' <;> rcases e with e | e
    · exact hPk.offB hS.s (by decide) e
    · exact hRk.off hS.s (by decide) e
    · exact hPk.offB hS.d (by decide) e
    · exact hRk.off hS.d (by decide) e
  have HS := Lib.hid hS
  have HX := Lib.hid hx
  have HB := Lib.hid hBx
  clear hS hx hBx HS0 hPk hRk
  have hki : (k : Int) < 2 := by omega
  have hcase : kop < 3 ∨ kop = 3 ∨ kop = 4 ∨ kop = 5 ∨ kop = 6 := by omega
  rcases hcase with h3 | rfl | rfl | rfl | rfl
  · have t3 : ((kop : Int) == 3) = false := by simp; omega
    have t4 : ((kop : Int) == 4) = false := by simp; omega
    have t5 : ((kop : Int) == 5) = false := by simp; omega
    have t6 : ((kop : Int) == 6) = false := by simp; omega
    have hpa := fun W (hF : Fr (fun g => (u k).ownBlock = some g) wx W) => pAdd W B (p k) (v k) (b k) ((HS.out.P k hk).fr hF (HS.out.R k hk |>.offP (HS.out.P k hk)).1 fun g e e' => ((HS.out.R k hk).offP (HS.out.P k hk)).2 g e' e) n
    have hra := fun W (hF : Fr (fun g => (v k).ownBlock = some g) wx W) => rAdd W B (q k) (u k) (b k) ((HS.out.R k hk).fr hF (HS.out.P k hk |>.offR (HS.out.R k hk)).1 fun g e e' => ((HS.out.P k hk).offR (HS.out.R k hk)).2 g e' e) n
    have HPA := Lib.hid hpa
    have HRA := Lib.hid hra
    have HOX := Lib.hid hox
    have HOS := Lib.hid hos
    clear hpa hra h3 hox hos
    go_wp2_with (go_at_call 20; first | (with_reducible refine (HP1.out _).mono ?_); rintro e w' ⟨rfl, rfl⟩ | (with_reducible refine (HP2.out _).mono ?_); rintro e w' ⟨rfl, rfl⟩)
    go_region_held3 (fun W => W.cell? ⟨sb, k, none⟩ = some (.pointer (some ⟨p k, 0, none⟩)) ∧ W.cell? ⟨db, k, none⟩ = some (.pointer (some ⟨q k, 0, none⟩)) ∧ W.cell? ⟨w.heap.size, 2, none⟩ = some (.int .i64 n)) (first | go_keep | (go_split_ands; refine ⟨hF1.cell ?_ (fun e => (HOS.out _ (.inl e.2)).1 rfl), hF1.cell ?_ (fun e => (HOS.out _ (.inl e.2)).2 rfl), hF1.cell ?_ (fun e => HOX.out _ (.inl e.2) rfl)⟩ <;> assumption) | (go_split_ands; refine ⟨hF2.cell ?_ (fun e => (HOS.out _ (.inr e.2)).1 rfl), hF2.cell ?_ (fun e => (HOS.out _ (.inr e.2)).2 rfl), hF2.cell ?_ (fun e => HOX.out _ (.inr e.2) rfl)⟩ <;> assumption))
      (first | (go_at_call 13; refine (HPA.out _ ?_).mono ?_; (first | exact Fr.drew _ | exact (Fr.drew _).trans (hF2.mono fun _ _ e => e.2)); rintro e w1 ⟨rfl, hS1, hF1⟩) | (go_at_call 14; refine (HRA.out _ ?_).mono ?_; (first | exact Fr.drew _ | exact (Fr.drew _).trans (hF1.mono fun _ _ e => e.2)); rintro e w2 ⟨rfl, hS2, hF2⟩))
    all_goals (go_wp2; go_ret; exact ⟨by simp, HS.out.both HB.out hk hF1 hS1 hF2 hS2⟩)
  · have hpa := fun W (hF : Fr nothing wx W) => pHas W B (p k) (v k) (b k) ((HS.out.P k hk).fresh hF) n
    have hra := fun W (hF : Fr nothing wx W) => rHas W B (q k) (u k) (b k) ((HS.out.R k hk).fresh hF) n
    have HPA := Lib.hid hpa
    have HRA := Lib.hid hra
    clear hpa hra hox hos
    go_wp2_with (go_at_call 20; first | (with_reducible refine (HP1.out _).mono ?_); rintro e w' ⟨rfl, rfl⟩ | (refine (HP2.out _).mono ?_); rintro e w' ⟨rfl, rfl⟩)
    go_quiet ((first | (go_at_call 18; exact Calls.quiet_of_same ((HPA.out _ (Fr.drewN _ _)).mono fun _ _ ⟨he, hw⟩ => ⟨he, hw.symm⟩)) | (go_at_call 21; exact Calls.quiet_of_same ((HRA.out _ (Fr.drewN _ _)).mono fun _ _ ⟨he, hw⟩ => ⟨he, hw.symm⟩))))
    go_wp2
    go_ret
    exact ⟨by simp, HB.out.trans ((Fr.drewN (ch := nothing) wx nq).below_new.mono HS.out.size), _, _, _, _, _, HS.out.fresh (Fr.drewN _ _), .inl rfl⟩
  · obtain ⟨j, hj, hjk, hji⟩ : ∃ j : Nat, j < 2 ∧ k ≠ j ∧ (1 : Int) - (k : Int) = (j : Int) := ⟨1 - k, by omega, by omega, by omega⟩
    have cs2 := HS.out.sc hj
    have cd2 := HS.out.dc hj
    have hpa : ∀ W, Fr (fun g => (u k).ownBlock = some g) wx W → Calls Tryz.prog 22 #[.pointer (some ⟨p k, 0, none⟩), .pointer (some ⟨p j, 0, none⟩)] W fun e w' => e = .returned (.bool (newB (b k) (trues (b j)))) ∧ PSet w' B (p k) (v k) (orB (b k) (trues (b j))) ∧ Fr (fun g => p k ≠ p j ∧ (v k).ownBlock = some g) W w' := fun W hF => by
      have hR := HS.out.R k hk
      have hn := hR.offP (HS.out.P k hk)
      have hm := hR.offP (HS.out.P j hj)
      have hne : p k ≠ p j := by
        have := HS.out.pne
        rcases lt2 hk with rfl | rfl <;> rcases lt2 hj with rfl | rfl
        · omega
        · exact this
        · exact fun e => this e.symm
        · omega
      exact pJoin W B (p k) (v k) (b k) ((HS.out.P k hk).fr hF hn.1 fun g e e' => hn.2 g e' e) B (p j) (v j) (b j) ((HS.out.P j hj).fr hF hm.1 fun g e e' => hm.2 g e' e) (fun e => absurd e hne) (fun _ => HS.out.vne' hk hj hjk) (HS.out.tab.fr hF fun e => by have := hR.ge.2 _ e; have := HS.out.tl; omega) (fun e => by have := (HS.out.P k hk).ge.2 _ e; have := HS.out.tl; omega)
    have hra : ∀ W, Fr (fun g => (v k).ownBlock = some g) wx W → Calls Tryz.prog 23 #[.pointer (some ⟨q k, 0, none⟩), .pointer (some ⟨q j, 0, none⟩)] W fun e w' => e = .returned (.bool (newB (b k) (trues (b j)))) ∧ RSet w' B (q k) (u k) (orB (b k) (trues (b j))) ∧ Fr (fun g => True ∧ (u k).ownBlock = some g) W w' := fun W hF => by
      have hP := HS.out.P k hk
      have hn := hP.offR (HS.out.R k hk)
      have hm := hP.offR (HS.out.R j hj)
      exact (rJoin W B (q k) (u k) (b k) ((HS.out.R k hk).fr hF hn.1 fun g e e' => hn.2 g e' e) B (q j) (u j) (b j) ((HS.out.R j hj).fr hF hm.1 fun g e e' => hm.2 g e' e) (HS.out.une' hk hj hjk)).mono fun e w' ⟨h1, h2, h3⟩ => ⟨h1, h2, h3.mono fun _ _ e => ⟨trivial, e⟩⟩
    have HPA := Lib.hid hpa
    have HRA := Lib.hid hra
    have HOX := Lib.hid hox
    have HOS := Lib.hid hos
    clear hpa hra hox hos
    generalize newB (b k) (trues (b j)) = nn at *
    go_wp2_with (go_at_call 20; first | (with_reducible refine (HP1.out _).mono ?_); rintro e w' ⟨rfl, rfl⟩ | (refine (HP2.out _).mono ?_); rintro e w' ⟨rfl, rfl⟩)
    obtain ⟨rfl, rfl⟩ | ⟨rfl, rfl⟩ : (k = 0 ∧ j = 1) ∨ (k = 1 ∧ j = 0) := by omega
    · clear hji
      rw [show ((0 : Nat) : Int) = 0 from rfl]
      have hw0 : IntKind.i64.wrap ((1 : Int) - 0) = 1 := by decide
      have hw1 : IntKind.i64.wrap (1 : Int) = 1 := by decide
      go_region_held3 (fun W => W.cell? ⟨sb, 0, none⟩ = some (.pointer (some ⟨p 0, 0, none⟩)) ∧ W.cell? ⟨sb, 1, none⟩ = some (.pointer (some ⟨p 1, 0, none⟩)) ∧ W.cell? ⟨db, 0, none⟩ = some (.pointer (some ⟨q 0, 0, none⟩)) ∧ W.cell? ⟨db, 1, none⟩ = some (.pointer (some ⟨q 1, 0, none⟩))) (first | go_keep | (go_split_ands; refine ⟨hF1.cell ?_ (fun e => (HOS.out _ (.inl e.2)).1 rfl), hF1.cell ?_ (fun e => (HOS.out _ (.inl e.2)).1 rfl), hF1.cell ?_ (fun e => (HOS.out _ (.inl e.2)).2 rfl), hF1.cell ?_ (fun e => (HOS.out _ (.inl e.2)).2 rfl)⟩ <;> assumption) | (go_split_ands; refine ⟨hF2.cell ?_ (fun e => (HOS.out _ (.inr e.2)).1 rfl), hF2.cell ?_ (fun e => (HOS.out _ (.inr e.2)).1 rfl), hF2.cell ?_ (fun e => (HOS.out _ (.inr e.2)).2 rfl), hF2.cell ?_ (fun e => (HOS.out _ (.inr e.2)).2 rfl)⟩ <;> assumption))
        (first | (go_at_call 22; refine (HPA.out _ ?_).mono ?_; (first | exact Fr.drew _ | exact (Fr.drew _).trans (hF2.mono fun _ _ e => e.2)); rintro e w1 ⟨rfl, hS1, hF1⟩) | (go_at_call 23; refine (HRA.out _ ?_).mono ?_; (first | exact Fr.drew _ | exact (Fr.drew _).trans (hF1.mono fun _ _ e => e.2)); rintro e w2 ⟨rfl, hS2, hF2⟩))
      all_goals (go_wp2; go_ret; exact ⟨by simp, HS.out.both HB.out hk hF1 hS1 hF2 hS2⟩)
    · clear hji
      rw [show ((1 : Nat) : Int) = 1 from rfl]
      have hw0 : IntKind.i64.wrap ((1 : Int) - 1) = 0 := by decide
      have hw1 : IntKind.i64.wrap (0 : Int) = 0 := by decide
      go_region_held3 (fun W => W.cell? ⟨sb, 1, none⟩ = some (.pointer (some ⟨p 1, 0, none⟩)) ∧ W.cell? ⟨sb, 0, none⟩ = some (.pointer (some ⟨p 0, 0, none⟩)) ∧ W.cell? ⟨db, 1, none⟩ = some (.pointer (some ⟨q 1, 0, none⟩)) ∧ W.cell? ⟨db, 0, none⟩ = some (.pointer (some ⟨q 0, 0, none⟩))) (first | go_keep | (go_split_ands; refine ⟨hF1.cell ?_ (fun e => (HOS.out _ (.inl e.2)).1 rfl), hF1.cell ?_ (fun e => (HOS.out _ (.inl e.2)).1 rfl), hF1.cell ?_ (fun e => (HOS.out _ (.inl e.2)).2 rfl), hF1.cell ?_ (fun e => (HOS.out _ (.inl e.2)).2 rfl)⟩ <;> assumption) | (go_split_ands; refine ⟨hF2.cell ?_ (fun e => (HOS.out _ (.inr e.2)).1 rfl), hF2.cell ?_ (fun e => (HOS.out _ (.inr e.2)).1 rfl), hF2.cell ?_ (fun e => (HOS.out _ (.inr e.2)).2 rfl), hF2.cell ?_ (fun e => (HOS.out _ (.inr e.2)).2 rfl)⟩ <;> assumption))
        (first | (go_at_call 22; refine (HPA.out _ ?_).mono ?_; (first | exact Fr.drew _ | exact (Fr.drew _).trans (hF2.mono fun _ _ e => e.2)); rintro e w1 ⟨rfl, hS1, hF1⟩) | (go_at_call 23; refine (HRA.out _ ?_).mono ?_; (first | exact Fr.drew _ | exact (Fr.drew _).trans (hF1.mono fun _ _ e => e.2)); rintro e w2 ⟨rfl, hS2, hF2⟩))
      all_goals (go_wp2; go_ret; exact ⟨by simp, HS.out.both HB.out hk hF1 hS1 hF2 hS2⟩)
  · have hcp : ∀ W, Fr nothing wx W → Calls Tryz.prog 24 #[.pointer (some ⟨p k, 0, none⟩)] W fun e w' => ∃ p' v', e = .returned (.pointer (some ⟨p', 0, none⟩)) ∧ PSet w' W.heap.size p' v' (b k) ∧ Below W.heap.size W w' := fun W hF => pCopy W B (p k) (v k) (b k) ((HS.out.P k hk).fresh hF)
    have hcr : ∀ W, Fr nothing wx W → Calls Tryz.prog 25 #[.pointer (some ⟨q k, 0, none⟩)] W fun e w' => ∃ q' u', e = .returned (.pointer (some ⟨q', 0, none⟩)) ∧ RSet w' W.heap.size q' u' (b k) ∧ Below W.heap.size W w' := fun W hF => rCopy W B (q k) (u k) (b k) ((HS.out.R k hk).fresh hF)
    have HCP := Lib.hid hcp
    have HCR := Lib.hid hcr
    have hcs : ∀ W, Fr nothing wx W → W.cell? ⟨sb, k, none⟩ = some (.pointer (some ⟨p k, 0, none⟩)) ∧ W.cell? ⟨db, k, none⟩ = some (.pointer (some ⟨q k, 0, none⟩)) ∧ W.frozen? ⟨sb, k, none⟩ = false ∧ W.frozen? ⟨db, k, none⟩ = false := fun W hF => by
      have h := HS.out.fresh hF
      exact ⟨h.sc hk, h.dc hk, obj_frozen h.s k, obj_frozen h.d k⟩
    have HCS := Lib.hid hcs
    have hsd : (sb : Nat) ≠ db := by
      intro e
      have h1 := HS.out.s
      rw [e, HS.out.d] at h1
      simp only [Option.some.injEq, Obj.cells.injEq] at h1
      exact absurd h1.2.1 (by decide)
    obtain ⟨_, _, hz1, hz2⟩ := hcs wx (Fr.refl _ _)
    clear hcp hcr hcs hox hos
    go_wp2_with (go_at_call 20; first | (with_reducible refine (HP1.out _).mono ?_); rintro e w' ⟨rfl, rfl⟩ | (refine (HP2.out _).mono ?_); rintro e w' ⟨rfl, rfl⟩)
    go_region_with (first | (go_at_call 24; refine (HCP.out _ (Fr.drew _)).mono ?_; rintro e w1 ⟨p', v', rfl, hP', hB1⟩; obtain ⟨c1, c2, c3, c4⟩ := HCS.out w1 ((Fr.drew _).trans (Fr.new hB1))) | (go_at_call 25; refine (HCR.out _ ((Fr.drew _).trans (Fr.new hB1))).mono ?_; rintro e w2 ⟨q', u', rfl, hR', hB2⟩; obtain ⟨c5, c6, c7, c8⟩ := HCS.out w2 (((Fr.drew _).trans (Fr.new hB1)).trans (Fr.new hB2))))
    all_goals
      go_wp2
      go_ret
      exact ⟨rfl, HS.out.copied HB.out hk (((Fr.drew _).trans (Fr.new hB1)).trans (Fr.new hB2)) (Nat.le_refl _) hB1.size (hP'.fresh (Fr.new hB2)) hR'⟩
  · have hne : Nonempty (OfC (fun W => Fr nothing wx W)) := ⟨⟨wx, Fr.refl _ _⟩⟩
    have hcl : ∀ q : OfC (fun W => Fr nothing wx W), q.w.cell? ⟨sb, k, none⟩ = some (.pointer (some ⟨p k, 0, none⟩)) := fun q => q.ok.cell cs fun e => e
    have hj1 : ∀ q : OfC (fun W => Fr nothing wx W), Calls Tryz.prog 22 #[.pointer (some ⟨p k, 0, none⟩), .pointer (some ⟨p k, 0, none⟩)] q.w fun e w' => e = .returned (.bool false) ∧ ∃ q' : OfC (fun W => Fr nothing wx W), w' = q'.w := fun q => by
      have hP := (HS.out.P k hk).fresh q.ok
      refine (pJoin q.w B (p k) (v k) (b k) hP B (p k) (v k) (b k) hP (fun _ => rfl) (fun e => absurd rfl e) (HS.out.tab.fr q.ok fun e => e) (fun e => by have := (HS.out.P k hk).ge.2 _ e; have := HS.out.tl; omega)).mono ?_
      rintro e w' ⟨rfl, _, hF⟩
      rw [newB_self]
      exact ⟨rfl, ⟨w', q.ok.trans (hF.mono fun _ _ e => absurd rfl e.1)⟩, rfl⟩
    have hj2 : ∀ q : OfC (fun W => Fr nothing wx W), Calls Tryz.prog 22 #[.pointer (some ⟨p k, 0, none⟩), .pointer none] q.w fun e w' => e = .returned (.bool false) ∧ ∃ q' : OfC (fun W => Fr nothing wx W), w' = q'.w := fun q =>
      (pJoinNil q.w B (p k) (v k) (b k) ((HS.out.P k hk).fresh q.ok)).mono fun e w' ⟨he, hB⟩ => ⟨he, ⟨w', q.ok.trans (Fr.new hB)⟩, rfl⟩
    have HJ1 := Lib.hid hj1
    have HJ2 := Lib.hid hj2
    clear hj1 hj2 hox hos
    go_wp2_with (go_at_call 20; first | (with_reducible refine (HP1.out _).mono ?_); rintro e w' ⟨rfl, rfl⟩ | (refine (HP2.out _).mono ?_); rintro e w' ⟨rfl, rfl⟩)
    refine wp_region_class (fun W => Fr nothing wx W) (by kernel_rfl) (by kernel_rfl) (Fr.drew _) ?_
    repeat (go_big_quiet_step (first | with_reducible exact HJ1.out _ | with_reducible exact HJ2.out _))
    refine wpQuiet_nil ?_
    rintro _ ⟨q, rfl⟩
    have hq := q.ok
    generalize q.w = wq at *
    go_wp2
    go_ret
    exact ⟨rfl, HB.out.trans (hq.below_new.mono HS.out.size), _, _, _, _, _, HS.out.fresh hq, .inl rfl⟩
end Go.Proofs.YtlilegbdjnhfjaaGreatDoor
