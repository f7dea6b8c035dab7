/-
  BitsLives: what a step leaves, and what numbers added to the older sets leave.
-/
import Derived.Test.YtlilegbdjnhfjaaGreatDoorLives4
import Derived.Lib.Builder
namespace Go.Proofs.YtlilegbdjnhfjaaGreatDoor
open Go.RowKit Go.Shelf
set_option maxHeartbeats 400000

section
variable {w w' : World} {B sb db p0 q0 : Nat} {p q : Nat → Nat} {v u : Nat → Value} {b : Nat → List Bool} {v0 u0 : Value} {bp br nb : List Bool} {ch : Nat → Prop} {c : Prop}
theorem St.keep (h : St w B sb db p v q u b) (hF : Fr ch w w') (hs : ¬ ch sb) (hd : ¬ ch db) (ht : ¬ ch 0) (hp : ∀ k, k < 2 → ¬ ch (p k)) (hq : ∀ k, k < 2 → ¬ ch (q k))
    (hv : ∀ k, k < 2 → ∀ g, (v k).ownBlock = some g → ¬ ch g) (hu : ∀ k, k < 2 → ∀ g, (u k).ownBlock = some g → ¬ ch g) : St w' B sb db p v q u b :=
  ⟨hF.obj h.s hs, hF.obj h.d hd, fun k hk => (h.P k hk).fr hF (hp k hk) (hv k hk), fun k hk => (h.R k hk).fr hF (hq k hk) (hu k hk), h.pne, h.vne, h.une, h.tab.fr hF ht, h.tl, h.sB, h.dB⟩
/-- Two older sets, apart from the others. -/
structure Old (w : World) (B p0 : Nat) (v0 : Value) (q0 : Nat) (u0 : Value) (bp br : List Bool) (v u : Nat → Value) : Prop where
  P : PSet w B p0 v0 bp
  R : RSet w B q0 u0 br
  vne : ∀ j, j < 2 → ∀ g, v0.ownBlock = some g → (v j).ownBlock ≠ some g
  une : ∀ j, j < 2 → ∀ g, u0.ownBlock = some g → (u j).ownBlock ≠ some g
theorem OldS.old {b0 : List Bool} (h : OldS w B p0 v0 q0 u0 b0 v u) : Old w B p0 v0 q0 u0 b0 b0 v u := ⟨h.1, h.2.1, h.2.2.1, h.2.2.2⟩
theorem Old.fresh (h : Old w B p0 v0 q0 u0 bp br v u) (hF : Fr nothing w w') : Old w' B p0 v0 q0 u0 bp br v u := ⟨h.P.fresh hF, h.R.fresh hF, h.vne, h.une⟩
theorem Old.addP (ho : Old w B p0 v0 q0 u0 bp br v u) (h : St w B sb db p v q u b) (hF : Fr (fun g => c ∧ v0.ownBlock = some g) w w') (hP : PSet w' B p0 v0 nb) : Old w' B p0 v0 q0 u0 nb br v u ∧ St w' B sb db p v q u b ∧ Below B w w' :=
  ⟨⟨hP, ho.R.fr hF (fun e => (ho.P.offR ho.R).1 e.2) (fun g e e' => (ho.P.offR ho.R).2 g e'.2 e), ho.vne, ho.une⟩,
    h.keep hF (fun e => ho.P.offB h.s (by decide) e.2) (fun e => ho.P.offB h.d (by decide) e.2) (fun e => by have := ho.P.ge.2 _ e.2; have := h.tl; omega) (fun k hk e => ho.P.offP (h.P k hk) e.2) (fun k hk e => (ho.P.offR (h.R k hk)).1 e.2)
      (fun k hk g e e' => ho.vne k hk g e'.2 e) (fun k hk g e e' => (ho.P.offR (h.R k hk)).2 g e'.2 e), hF.below h.size fun g e => ho.P.ge.2 g e.2⟩
theorem Old.addR (ho : Old w B p0 v0 q0 u0 bp br v u) (h : St w B sb db p v q u b) (hF : Fr (fun g => c ∧ u0.ownBlock = some g) w w') (hR : RSet w' B q0 u0 nb) : Old w' B p0 v0 q0 u0 bp nb v u ∧ St w' B sb db p v q u b ∧ Below B w w' :=
  ⟨⟨ho.P.fr hF (fun e => (ho.R.offP ho.P).1 e.2) (fun g e e' => (ho.R.offP ho.P).2 g e'.2 e), hR, ho.vne, ho.une⟩,
    h.keep hF (fun e => ho.R.off h.s (by decide) e.2) (fun e => ho.R.off h.d (by decide) e.2) (fun e => by have := ho.R.ge.2 _ e.2; have := h.tl; omega) (fun k hk e => (ho.R.offP (h.P k hk)).1 e.2) (fun k hk e => ho.R.offR (h.R k hk) e.2)
      (fun k hk g e e' => (ho.R.offP (h.P k hk)).2 g e'.2 e) (fun k hk g e e' => ho.une k hk g e'.2 e), hF.below h.size fun g e => ho.R.ge.2 g e.2⟩
end

def duo {α : Type} (a b : α) : Nat → α | 0 => a | _ => b
theorem St.start {w w1 w2 wS w3 w4 : World} {p0 p1 q0 q1 m n : Nat} {v0 v1 u0 u1 : Value} (hS : wS = w2.alloc (.cells #[.pointer (some ⟨p0, 0, none⟩), .pointer (some ⟨p1, 0, none⟩)] 23))
    (hP0 : PSet w1 w.heap.size p0 v0 (zeros m)) (hB1 : Below w.heap.size w w1) (hP1 : PSet w2 w1.heap.size p1 v1 (zeros n)) (hB2 : Below w1.heap.size w1 w2)
    (hR0 : RSet w3 wS.heap.size q0 u0 (zeros m)) (hB3 : Below wS.heap.size wS w3) (hR1 : RSet w4 w3.heap.size q1 u1 (zeros n)) (hB4 : Below w3.heap.size w3 w4) (hT : Tab w) :
    St (w4.alloc (.cells #[.pointer (some ⟨q0, 0, none⟩), .pointer (some ⟨q1, 0, none⟩)] 26)) w.heap.size w2.heap.size w4.heap.size (duo p0 p1) (duo v0 v1) (duo q0 q1) (duo u0 u1) (duo (zeros m) (zeros n)) ∧
      Below w.heap.size w (w4.alloc (.cells #[.pointer (some ⟨q0, 0, none⟩), .pointer (some ⟨q1, 0, none⟩)] 26)) := by
  have f1 : Fr nothing w w1 := Fr.new hB1
  have f2 : Fr nothing w1 w2 := Fr.new hB2
  have f3 : Fr nothing w2 wS := hS ▸ Fr.alloc _ _
  have f4 : Fr nothing wS w3 := Fr.new hB3
  have f5 : Fr nothing w3 w4 := Fr.new hB4
  have f6 : Fr nothing w4 (w4.alloc (.cells #[.pointer (some ⟨q0, 0, none⟩), .pointer (some ⟨q1, 0, none⟩)] 26)) := Fr.alloc _ _
  have hb : wS.heap[w2.heap.size]? = some (.cells #[.pointer (some ⟨p0, 0, none⟩), .pointer (some ⟨p1, 0, none⟩)] 23 (0, 0)) := by rw [hS]; exact World.alloc_heap_new _ _
  have l0 := hP0.lt
  have l1 := hP1.ge
  have l2 := hR0.lt
  have l3 := hR1.ge
  have z1 := f1.size
  have z2 := f2.size
  have z3 := f3.size
  have z4 := f4.size
  have z5 := f5.size
  refine ⟨⟨((f4.trans f5).trans f6).obj hb fun e => e, World.alloc_heap_new _ _, ?_, ?_, ?_, ?_, ?_, hT.fr (((((f1.trans f2).trans f3).trans f4).trans f5).trans f6) fun e => e, World.block_lt_of_cell? w _ (hT 0 (by omega)), by omega, by omega⟩, ((((((f1.trans f2).trans f3).trans f4).trans f5).trans f6).below_new)⟩
  · intro k hk
    rcases lt2 hk with rfl | rfl
    · exact hP0.fresh ((((f2.trans f3).trans f4).trans f5).trans f6)
    · exact (hP1.fresh (((f3.trans f4).trans f5).trans f6)).weaken (by omega)
  · intro k hk
    rcases lt2 hk with rfl | rfl
    · exact (hR0.fresh (f5.trans f6)).weaken (by omega)
    · exact (hR1.fresh f6).weaken (by omega)
  · show p0 ≠ p1
    omega
  · intro g e e'
    have a1 := l0.2 g e
    have a2 := l1.2 g e'
    omega
  · intro g e e'
    have a1 := l2.2 g e
    have a2 := l3.2 g e'
    omega

theorem apartDuo (B N : Nat) (V0 V1 : Value) (xs ys : List Int) (x1 : World) (hN : N ≤ 4096) (h0 : ORow x1 B V0 N xs) (h1 : ORow x1 B V1 N ys) (hB : B ≤ x1.heap.size) (hap : ∀ g, V0.ownBlock = some g → V1.ownBlock ≠ some g) :
    Calls Tryz.prog 15 #[.slice (some ⟨x1.heap.size, 0, none⟩) 2 2] (x1.alloc (.cells #[V0, V1] 35)) fun e w' => e = .returned (.bool true) ∧ Below B (x1.alloc (.cells #[V0, V1] 35)) w' := by
  have f : Fr nothing x1 (x1.alloc (.cells #[V0, V1] 35)) := Fr.alloc _ _
  refine (apartInts_any B 2 (duo V0 V1) (fun _ => N) _ _ ⟨by omega, fun _ _ => by omega, fun i hi j hj hij g e1 e2 => ?_⟩ (by simp; omega) ?_ fun j hj => ?_).mono ?_
  · rcases lt2 hi with rfl | rfl <;> rcases lt2 hj with rfl | rfl
    · omega
    · exact hap g e1 e2
    · exact hap g e2 e1
    · omega
  · exact own_laid (B := B) (n := 2) (size := 1) (alloc_obj x1 (.cells #[V0, V1] 35)) hB rfl (by unfold maxLen; omega)
  · rcases lt2 hj with rfl | rfl
    · exact ⟨xs, h0.fr f fun _ _ e => e⟩
    · exact ⟨ys, h1.fr f fun _ _ e => e⟩
  · rintro e w' ⟨rfl, hF⟩
    refine ⟨rfl, hF.below (by simp; omega) fun g e => ?_⟩
    rcases e with ⟨j, hj, e⟩ | e
    · rcases lt2 hj with rfl | rfl
      · exact (h0.2.lt g e).1
      · exact (h1.2.lt g e).1
    · have : (x1.alloc (.cells #[V0, V1] 35)).heap.size = x1.heap.size + 1 := by simp
      omega

theorem apartDrew {B : Nat} {V0 V1 : Value} {w : World} (h : Calls Tryz.prog 15 #[.slice (some ⟨w.drew.heap.size, 0, none⟩) 2 2] (w.drew.alloc (.cells #[V0, V1] 35)) fun e w' => e = .returned (.bool true) ∧ Below B (w.drew.alloc (.cells #[V0, V1] 35)) w') :
    Calls Tryz.prog 15 #[.slice (some ⟨w.heap.size, 0, none⟩) 2 2] (w.alloc (.cells #[V0, V1] 35)).drew fun e w' => e = .returned (.bool true) ∧ Below B (w.alloc (.cells #[V0, V1] 35)).drew w' := h

/-- All's answers, as slices. -/
theorem pAllS (w : World) (B p : Nat) (v : Value) (bs : List Bool) (h : PSet w B p v bs) (hT : Tab w) :
    Calls Tryz.prog 10 #[.pointer (some ⟨p, 0, none⟩)] w fun e w' => ∃ a c, e = .returned (.slice a (truesI bs).length c) ∧ Fr nothing w w' ∧ ORow w' w.heap.size (.slice a (truesI bs).length c) (truesI bs).length (truesI bs) ∧ Ints w' (.slice a (truesI bs).length c) (truesI bs) := by
  refine (pAllI w B p v bs h hT).mono ?_
  rintro e w' ⟨r, rfl, hB, hO, hI⟩
  obtain ⟨a, c, rfl, _⟩ := hI.parts
  exact ⟨a, c, rfl, Fr.new hB, hO, hI⟩
theorem rAllS (w : World) (B q : Nat) (u : Value) (bs : List Bool) (h : RSet w B q u bs) :
    Calls Tryz.prog 11 #[.pointer (some ⟨q, 0, none⟩)] w fun e w' => ∃ a c, e = .returned (.slice a (truesI bs).length c) ∧ Fr nothing w w' ∧ Ints w' (.slice a (truesI bs).length c) (truesI bs) := by
  refine (rAllI w B q u bs h).mono ?_
  rintro e w' ⟨r, rfl, hB, hI⟩
  obtain ⟨a, c, rfl, _⟩ := hI.parts
  exact ⟨a, c, rfl, Fr.new hB, hI⟩
theorem pLenS (w : World) (B p : Nat) (v : Value) (bs : List Bool) (h : PSet w B p v bs) :
    Calls Tryz.prog 12 #[.pointer (some ⟨p, 0, none⟩)] w fun e w' => e = .returned (.int .i64 ((truesI bs).length : Nat)) ∧ Fr nothing w w' := by
  refine (pLen w B p v bs h).mono ?_
  rintro e w' ⟨rfl, rfl⟩
  rw [truesI_len]
  exact ⟨rfl, Fr.refl _ _⟩
theorem Tryz.infoSetS : (Tryz.prog.info? 46).map (fun i => i.size == 0) = some false := by kernel_rfl
theorem neqP_same (w : World) (a : Addr) : (binOp .neq 23 (.pointer (some a)) (.pointer (some a))).run Tryz.prog w = .ok (.bool false) w := by
  obtain ⟨j, hj, _⟩ := Option.map_eq_some_iff.1 Tryz.infoSetS
  exact Lib.run_neq_ptr_same w a Tryz.underlying23 hj
theorem neqP_other (w : World) {a b : Addr} {ca cb : Array Value} {ta tb : TypeId} (hne : a ≠ b) (ha : w.heap[a.block]? = some (.cells ca ta (0, 0))) (hb : w.heap[b.block]? = some (.cells cb tb (0, 0))) :
    (binOp .neq 23 (.pointer (some a)) (.pointer (some b))).run Tryz.prog w = .ok (.bool true) w := by
  obtain ⟨j, hj, hs⟩ := Option.map_eq_some_iff.1 Tryz.infoSetS
  have hs : j.size ≠ 0 := by simpa using hs
  have h : ∀ d : Nat, (Op.equalIn (d + 1) 23 (.pointer (some a)) (.pointer (some b))).run Tryz.prog w = .ok false w := fun d => by
    simp [Op.equalIn, run_underlying Tryz.underlying23, sizeOf, typeInfo, hj, hs, run_sameAddr_other w hne ha hb]
  simp only [binOp]
  simp [Op.equal, Op.maxDepth, h 9999]
theorem PSet.neq {w : World} {B p B' p' : Nat} {v v' : Value} {bs bs' : List Bool} (h : PSet w B p v bs) (h' : PSet w B' p' v' bs') (hne : p ≠ p') :
    (binOp .neq 23 (.pointer (some ⟨p, 0, none⟩)) (.pointer (some ⟨p', 0, none⟩))).run Tryz.prog w = .ok (.bool true) w := by
  obtain ⟨_, h, _⟩ := h
  obtain ⟨_, h', _⟩ := h'
  exact neqP_other w (fun e => hne (by cases e; rfl)) h.hp h'.hp
theorem keep2 {w W W' : World} {a1 a2 : Addr} {v1 v2 : Value} (h1 : W.cell? a1 = some v1) (h2 : W.cell? a2 = some v2) (h3 : Fr nothing w W) (h : Fr nothing W W') : W'.cell? a1 = some v1 ∧ W'.cell? a2 = some v2 ∧ Fr nothing w W' :=
  ⟨h.cell h1 fun e => e, h.cell h2 fun e => e, h3.trans h⟩
end Go.Proofs.YtlilegbdjnhfjaaGreatDoor
