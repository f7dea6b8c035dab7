/-
  Package clash: Pick.
-/
import Derived.Test.YtijdaihcogbliaaClash2
import Derived.Test.YtijdaihcogbliaaClash4
import Derived.Test.YtijdaihcogbliaaRight
namespace Go.Proofs.Ytijdaihcogbliaa
open Go.RowKit Go.MapKept Go.ChangeMaps
set_option maxHeartbeats 400000

def precE (G : Gram) (k : Int) : Int := match G.prods[k.toNat]? with | some p => p.prec | none => 0
def assocE (G : Gram) (k : Int) : Int := match G.syms[k.toNat]? with | some p => p.assoc | none => 0
def metE (G : Gram) (term r at_ : Int) : Int × Bool :=
  let x := againstE (levelE G term) (levelE G (precE G r)) (assocE G term)
  (if x.1 = 0 then at_ else if x.1 = 1 then 1 - at_ else 2, x.2)
/-- P22.1, as the code has it. -/
def pickE (G : Gram) (term : Int) (a b : Ent) : Int × Bool :=
  if rightG G = true ∧ 0 ≤ term ∧ term < G.terms ∧ mayE G.prods.length term [a, b] = true then
    (if a.kind = 1 then metE G term b.to 0 else if b.kind = 1 then metE G term a.to 1 else (if firstE a b then 0 else 1, false))
  else (2, false)

theorem After.up {w1 w2 : World} (p : After w2) (h : Below w1.heap.size w1 w2) : Below w1.heap.size w1 p.w := h.trans (p.ok.mono h.size)
def After.down {w1 w2 : World} (p : After w2) (h : Below w1.heap.size w1 w2) : After w1 := ⟨p.w, p.up h⟩
theorem after_alloc {w1 : World} {a : Addr} {v : Value} (h : ∀ p : After w1, p.w.cell? a = some v) : ∀ (p : After w1) (ob : Obj), (p.w.alloc ob).cell? a = some v :=
  fun p ob => (Fr.alloc (ch := nothing) p.w ob).cell (h p) fun e => e
theorem after_alloc2 {w1 : World} {a : Addr} {v : Value} (h : ∀ p : After w1, p.w.cell? a = some v) : ∀ (p : After w1) (ob ob' : Obj), ((p.w.alloc ob).alloc ob').cell? a = some v :=
  fun p ob ob' => (Fr.alloc (ch := nothing) _ ob').cell (after_alloc h p ob) fun e => e

/-- Two entries in a row of their own. -/
def entsObj (a b : Ent) : Obj := .cells #[.int .u8 a.kind, .int .i64 a.to, .int .u8 b.kind, .int .i64 b.to] 28 (0, 0)
theorem ents_two {w : World} {a b : Ent} {k : Nat} (ha : EntOk a) (hb : EntOk b) (h : w.heap[k]? = some (entsObj a b)) : IsEnts w (.slice (some ⟨k, 0, none⟩) 2 2) [a, b] := by
  refine ⟨by simp, _, 2, rfl, by simp, by decide, .inr ⟨k, 0, rfl, fun i hi => ?_⟩⟩
  simp only [List.length_cons, List.length_nil] at hi
  rcases (by omega : i = 0 ∨ i = 1) with rfl | rfl
  · refine ⟨ha, fun j hj => ?_⟩
    simp only [List.length_cons, List.length_nil] at hj
    rcases (by omega : j = 0 ∨ j = 1) with rfl | rfl
    · exact obj_cell h 0 rfl
    · exact obj_cell h 1 rfl
  · refine ⟨hb, fun j hj => ?_⟩
    simp only [List.length_cons, List.length_nil] at hj
    rcases (by omega : j = 0 ∨ j = 1) with rfl | rfl
    · exact obj_cell h 2 rfl
    · exact obj_cell h 3 rfl

theorem mayE_true {np : Nat} {term : Int} {a b : Ent} (h : mayE np term [a, b] = true) : okE np term a = true ∧ okE np term b = true ∧ (a.kind = 2 ∨ b.kind = 2) := by
  unfold mayE at h
  simp only [List.all_cons, List.all_nil, Bool.and_true, Bool.and_eq_true, decide_eq_true_eq] at h
  refine ⟨h.1.1, h.1.2, ?_⟩
  have h2 := h.2
  unfold cntK at h2
  by_cases e1 : a.kind = 2
  · exact .inl e1
  · by_cases e2 : b.kind = 2
    · exact .inr e2
    · simp [e1, e2] at h2

set_option maxRecDepth 100000 in
set_option maxHeartbeats 4000000 in
theorem pick_any (G : Gram) (term : Int) (a b : Ent) (v : Value) (w : World) (h : IsGram w v G) (ha : EntOk a) (hb : EntOk b) :
    Calls Try.prog 12 #[v, .int .i64 term, entVal a, entVal b] w fun e w' =>
      e = .returned (.tuple #[.int .i64 (pickE G term a b).1, .bool (pickE G term a b).2]) ∧ Below w.heap.size w w' := by
  have hG := h
  obtain ⟨hterms, vs, vp, rfl, hs, hp⟩ := h
  obtain ⟨_, sa, sc, rfl, _, _, _⟩ := id hs
  obtain ⟨_, pa, pc, rfl, _, _, _⟩ := id hp
  have hI : ∃ w1, w1 = (((w.alloc (.cells #[.int .i64 G.terms, .slice sa G.syms.length sc, .slice pa G.prods.length pc] 25 (0, 0))).alloc (.cells #[.int .u8 a.kind, .int .i64 a.to] 28 (0, 0))).alloc (.cells #[.int .u8 b.kind, .int .i64 b.to] 28 (0, 0))).alloc (.cells #[.int .i64 G.terms, .slice sa G.syms.length sc, .slice pa G.prods.length pc, .int .i64 term] 73 (0, 0)) := ⟨_, rfl⟩
  obtain ⟨w1, hw1⟩ := hI
  have hx := two_boxes w (.cells #[.int .i64 G.terms, .slice sa G.syms.length sc, .slice pa G.prods.length pc] 25 (0, 0)) (.cells #[.int .u8 a.kind, .int .i64 a.to] 28 (0, 0))
  have hs2 : ((w.alloc (.cells #[.int .i64 G.terms, .slice sa G.syms.length sc, .slice pa G.prods.length pc] 25 (0, 0))).alloc (.cells #[.int .u8 a.kind, .int .i64 a.to] 28 (0, 0))).heap.size = w.heap.size + 2 := by simp
  have hy := two_boxes ((w.alloc (.cells #[.int .i64 G.terms, .slice sa G.syms.length sc, .slice pa G.prods.length pc] 25 (0, 0))).alloc (.cells #[.int .u8 a.kind, .int .i64 a.to] 28 (0, 0))) (.cells #[.int .u8 b.kind, .int .i64 b.to] 28 (0, 0)) (.cells #[.int .i64 G.terms, .slice sa G.syms.length sc, .slice pa G.prods.length pc, .int .i64 term] 73 (0, 0))
  rw [← hw1, hs2] at hy
  have o0 := (Fr.new (hs2 ▸ hy.2.2)).obj hx.1 fun e => e
  have o1 := (Fr.new (hs2 ▸ hy.2.2)).obj hx.2.1 fun e => e
  have o2 : w1.heap[w.heap.size + 1 + 1]? = _ := hy.1
  have o3 : w1.heap[w.heap.size + 1 + 1 + 1]? = _ := hy.2.1
  have hB1 : Below w.heap.size w w1 := hx.2.2.trans (hy.2.2.mono (by omega))
  have hR := right_gram G _ w1 (hG.fr (Fr.new hB1))
  have HR := Lib.hid (hR.mono fun e w' hh => (show e = .returned (.bool (rightG G)) ∧ ∃ p : After w1, w' = p.w from ⟨hh.1, ⟨w', hh.2⟩, rfl⟩))
  have HM := Lib.hid fun p : After w1 => (may_any G.terms term (.slice sa G.syms.length sc) pa G.prods.length pc (.slice (some ⟨p.w.heap.size, 0, none⟩) 2 2) [a, b] (p.w.alloc (entsObj a b)) (ents_two ha hb (alloc_obj _ _))).mono
    fun e w' hh => (show e = .returned (.bool (mayE G.prods.length term [a, b])) ∧ ∃ p : After w1, w' = p.w from ⟨hh.1, ⟨w', (p.ok.alloc p.ok.size _).trans (hh.2.mono (by have := p.ok.size; simp; omega))⟩, rfl⟩)
  have HI := Lib.hid fun p : After w1 => (index_any (.slice (some ⟨p.w.heap.size, 0, none⟩) 2 2) [a, b] (p.w.alloc (entsObj a b)) (ents_two ha hb (alloc_obj _ _))).mono
    fun e w' hh => (show e = .returned (.int .i64 (idxE [a, b] 0)) ∧ ∃ q : After (p.w.alloc (entsObj a b)), w' = q.w from ⟨hh.1, ⟨w', hh.2⟩, rfl⟩)
  have HF := Lib.hid fun w : World => firstE_any a b w
  have HW := Lib.hid hw1
  have HB := Lib.hid hB1
  have g0 : ∀ p : After w1, p.w.cell? ⟨w.heap.size, 0, none⟩ = some (.int .i64 G.terms) := after_obj o0 0 rfl
  have k0 : ∀ p : After w1, p.w.cell? ⟨w.heap.size + 1, 0, none⟩ = some (.int .u8 a.kind) := after_obj o1 0 rfl
  have k1 : ∀ p : After w1, p.w.cell? ⟨w.heap.size + 1, 1, none⟩ = some (.int .i64 a.to) := after_obj o1 1 rfl
  have l0 : ∀ p : After w1, p.w.cell? ⟨w.heap.size + 1 + 1, 0, none⟩ = some (.int .u8 b.kind) := after_obj o2 0 rfl
  have l1 : ∀ p : After w1, p.w.cell? ⟨w.heap.size + 1 + 1, 1, none⟩ = some (.int .i64 b.to) := after_obj o2 1 rfl
  have m0 : ∀ p : After w1, p.w.cell? ⟨w.heap.size + 1 + 1 + 1, 0, none⟩ = some (.int .i64 G.terms) := after_obj o3 0 rfl
  have m1 : ∀ p : After w1, p.w.cell? ⟨w.heap.size + 1 + 1 + 1, 1, none⟩ = some (.slice sa G.syms.length sc) := after_obj o3 1 rfl
  have m2 : ∀ p : After w1, p.w.cell? ⟨w.heap.size + 1 + 1 + 1, 2, none⟩ = some (.slice pa G.prods.length pc) := after_obj o3 2 rfl
  have m3 : ∀ p : After w1, p.w.cell? ⟨w.heap.size + 1 + 1 + 1, 3, none⟩ = some (.int .i64 term) := after_obj o3 3 rfl
  have z0 : w1.cell? ⟨w.heap.size, 0, none⟩ = some (.int .i64 G.terms) := obj_cell o0 0 rfl
  have z1 : w1.cell? ⟨w.heap.size, 1, none⟩ = some (.slice sa G.syms.length sc) := obj_cell o0 1 rfl
  have z2 : w1.cell? ⟨w.heap.size, 2, none⟩ = some (.slice pa G.prods.length pc) := obj_cell o0 2 rfl
  unfold entVal at HF
  unfold entVal
  clear hw1 hx hy hs2 hR o0 o1 o2 o3
  by_cases hC : rightG G = true ∧ 0 ≤ term ∧ term < G.terms ∧ mayE G.prods.length term [a, b] = true
  · obtain ⟨e1, e2, e3, e4⟩ := hC
    obtain ⟨oa, ob, o2⟩ := mayE_true e4
    have hP : pickE G term a b = if a.kind = 1 then metE G term b.to 0 else if b.kind = 1 then metE G term a.to 1 else (if firstE a b then 0 else 1, false) := by rw [pickE, if_pos ⟨e1, e2, e3, e4⟩]
    obtain ⟨⟨_, _, hn, _, _, _⟩, _, _⟩ := rightG_parts e1
    obtain ⟨t, rfl⟩ : ∃ t : Nat, term = (t : Int) := ⟨term.toNat, by omega⟩
    have ht : t < G.syms.length := by omega
    have hAg : ∀ (k : Nat) (hk : k < G.prods.length) (r : World), Fr nothing w r → Calls Try.prog 36 #[.agg #[.int .i64 G.terms, .slice sa G.syms.length sc, .slice pa G.prods.length pc, .int .i64 t], .int .i64 k] r fun e w' =>
        e = .returned (.tuple #[.int .i64 (againstE (levelE G t) (levelE G (precE G k)) (assocE G t)).1, .bool (againstE (levelE G t) (levelE G (precE G k)) (assocE G t)).2]) ∧ Below r.heap.size r w' := fun k hk r hr => by
      have h1 := right_prod e1 k hk
      have h2 := against_any G.terms t k _ _ G.syms G.prods r (hs.fr hr) (hp.fr hr) ht hk (by omega) (right_sym e1 t ht).2.1
      have h3 : precE G k = G.prods[k].prec := by simp [precE, List.getElem?_eq_getElem hk]
      have h4 : assocE G t = G.syms[t].assoc := by simp [assocE, List.getElem?_eq_getElem ht]
      rw [h3, h4]
      exact h2
    have HS := Lib.hid hAg
    rw [e1] at HR
    rw [e4] at HM
    have c1 : decide ((t : Int) < 0) = false := decide_eq_false (by omega)
    have c2 : decide (G.terms ≤ (t : Int)) = false := decide_eq_false (by omega)
    have k0' := fun p : After w1 => after_cell (after_alloc k0 p (entsObj a b))
    have k1' := fun p : After w1 => after_cell (after_alloc k1 p (entsObj a b))
    have l0' := fun p : After w1 => after_cell (after_alloc l0 p (entsObj a b))
    have l1' := fun p : After w1 => after_cell (after_alloc l1 p (entsObj a b))
    by_cases ka : a.kind = 1
    ·
      have hkk : b.kind = 2 := by
        rcases o2 with h | h
        · rw [ka] at h; cases h
        · exact h
      have hto : 1 ≤ b.to ∧ b.to < (G.prods.length : Int) := by
        have h := (okE_iff _ _ b.kind b.to).1 ob
        omega
      obtain ⟨k, hk⟩ : ∃ k : Nat, b.to = (k : Int) := ⟨b.to.toNat, by omega⟩
      have hkp : k < G.prods.length := by omega
      have hi : idxE [a, b] 0 = 0 := by simp [idxE, ka]
      rw [hi] at HI
      rw [if_pos ka, hk] at hP
      unfold metE at hP
      have hA := HS.out k hkp
      generalize againstE (levelE G t) (levelE G (precE G k)) (assocE G t) = x at *
      obtain ⟨who, byP⟩ := x
      have HP := Lib.hid hP
      have HA := Lib.hid fun (p : After w1) (q : After (p.w.alloc (entsObj a b))) (r : After q.w) => after_call r (hA r.w ((Fr.new HB.out).trans ((Fr.new p.ok).trans ((Fr.alloc _ _).trans ((Fr.new q.ok).trans (Fr.new r.ok))))))
      have r0 := fun (p : After w1) (q : After (p.w.alloc (entsObj a b))) => after_cell (w1 := q.w) (after_cell (after_alloc m0 p (entsObj a b)) q)
      have r1 := fun (p : After w1) (q : After (p.w.alloc (entsObj a b))) => after_cell (w1 := q.w) (after_cell (after_alloc m1 p (entsObj a b)) q)
      have r2 := fun (p : After w1) (q : After (p.w.alloc (entsObj a b))) => after_cell (w1 := q.w) (after_cell (after_alloc m2 p (entsObj a b)) q)
      have r3 := fun (p : After w1) (q : After (p.w.alloc (entsObj a b))) => after_cell (w1 := q.w) (after_cell (after_alloc m3 p (entsObj a b)) q)
      have r4 : ∀ (p : After w1) (q : After (p.w.alloc (entsObj a b))) (r : After q.w), r.w.cell? ⟨p.w.heap.size, 3, none⟩ = some (.int .i64 k) := fun p q => after_cell (w1 := q.w) (after_obj (alloc_obj p.w (entsObj a b)) 3 (by rw [← hk]; rfl) q)
      have hne := fun (p : After w1) (q : After (p.w.alloc (entsObj a b))) => after_ne q.w
      have hwho : who = 0 ∨ who = 1 ∨ (¬ who = 0 ∧ ¬ who = 1 ∧ (who == 0) = false ∧ (who == 1) = false) := by
        by_cases h0 : who = 0
        · exact .inl h0
        · by_cases h1 : who = 1
          · exact .inr (.inl h1)
          · exact .inr (.inr ⟨h0, h1, by simp [h0], by simp [h1]⟩)
      clear hP hAg HS e1 e2 e3 e4 oa ob o2 ka hi hA HF k0' k1' l0' l1' hto hkk hkp hk
      have HH := Lib.hid hwho
      clear hwho
      go_enter Try.func12, Try.ntmps12
      go_upto_region 2 with fail
      rw [← HW.out]
      go_wp2_with (first | (go_at_call 18; refine HR.out.mono ?_; rintro e w' ⟨rfl, p, rfl⟩) | (go_at_call 32; refine (HM.out _).mono ?_; rintro e w' ⟨rfl, p', rfl⟩) | (go_at_call 33; refine (HI.out _).mono ?_; rintro e w' ⟨rfl, q, rfl⟩))
      refine wp_region_after q.w (by kernel_rfl) (by kernel_rfl) (Below.refl _ _) ?_
      clear z0 z1 z2 g0 k0 k1 l0 l1 m0 m1 m2 m3
      have hne := after_ne q.w
      repeat (go_big_quiet_step (with_reducible exact HA.out _ _ _))
      refine wpQuiet_nil ?_
      intro _ hw'
      obtain ⟨r, hw''⟩ := hw'
      subst hw''
      clear r0 r1 r2 r3 r4
      rcases HH.out with rfl | rfl | ⟨h0, h1, h2, h3⟩
      all_goals
        go_wp2
        go_ret2
        exact ⟨by rw [HP.out]; first | rfl | (simp only [if_neg h0, if_neg h1]; rfl), HB.out.trans ((p'.ok.alloc p'.ok.size _).trans ((q.ok.trans (r.ok.mono q.ok.size)).mono (by have := p'.ok.size; simp; omega)) |>.mono HB.out.size)⟩
    · by_cases kb : b.kind = 1
      ·
        have hkk : a.kind = 2 := by
          rcases o2 with h | h
          · exact h
          · rw [kb] at h; cases h
        have hto : 1 ≤ a.to ∧ a.to < (G.prods.length : Int) := by
          have h := (okE_iff _ _ a.kind a.to).1 oa
          omega
        obtain ⟨k, hk⟩ : ∃ k : Nat, a.to = (k : Int) := ⟨a.to.toNat, by omega⟩
        have hkp : k < G.prods.length := by omega
        have hi : idxE [a, b] 0 = 1 := by simp [idxE, ka, kb]
        rw [hi] at HI
        rw [if_neg ka, if_pos kb, hk] at hP
        unfold metE at hP
        have hA := HS.out k hkp
        generalize againstE (levelE G t) (levelE G (precE G k)) (assocE G t) = x at *
        obtain ⟨who, byP⟩ := x
        have HP := Lib.hid hP
        have HA := Lib.hid fun (p : After w1) (q : After (p.w.alloc (entsObj a b))) (r : After q.w) => after_call r (hA r.w ((Fr.new HB.out).trans ((Fr.new p.ok).trans ((Fr.alloc _ _).trans ((Fr.new q.ok).trans (Fr.new r.ok))))))
        have r0 := fun (p : After w1) (q : After (p.w.alloc (entsObj a b))) => after_cell (w1 := q.w) (after_cell (after_alloc m0 p (entsObj a b)) q)
        have r1 := fun (p : After w1) (q : After (p.w.alloc (entsObj a b))) => after_cell (w1 := q.w) (after_cell (after_alloc m1 p (entsObj a b)) q)
        have r2 := fun (p : After w1) (q : After (p.w.alloc (entsObj a b))) => after_cell (w1 := q.w) (after_cell (after_alloc m2 p (entsObj a b)) q)
        have r3 := fun (p : After w1) (q : After (p.w.alloc (entsObj a b))) => after_cell (w1 := q.w) (after_cell (after_alloc m3 p (entsObj a b)) q)
        have r4 : ∀ (p : After w1) (q : After (p.w.alloc (entsObj a b))) (r : After q.w), r.w.cell? ⟨p.w.heap.size, 1, none⟩ = some (.int .i64 k) := fun p q => after_cell (w1 := q.w) (after_obj (alloc_obj p.w (entsObj a b)) 1 (by rw [← hk]; rfl) q)
        have hne := fun (p : After w1) (q : After (p.w.alloc (entsObj a b))) => after_ne q.w
        have hwho : who = 0 ∨ who = 1 ∨ (¬ who = 0 ∧ ¬ who = 1 ∧ (who == 0) = false ∧ (who == 1) = false) := by
          by_cases h0 : who = 0
          · exact .inl h0
          · by_cases h1 : who = 1
            · exact .inr (.inl h1)
            · exact .inr (.inr ⟨h0, h1, by simp [h0], by simp [h1]⟩)
        clear hP hAg HS e1 e2 e3 e4 oa ob o2 ka kb hi hA HF k0' k1' l0' l1' hto hkk hkp hk
        have HH := Lib.hid hwho
        clear hwho
        go_enter Try.func12, Try.ntmps12
        go_upto_region 2 with fail
        rw [← HW.out]
        go_wp2_with (first | (go_at_call 18; refine HR.out.mono ?_; rintro e w' ⟨rfl, p, rfl⟩) | (go_at_call 32; refine (HM.out _).mono ?_; rintro e w' ⟨rfl, p', rfl⟩) | (go_at_call 33; refine (HI.out _).mono ?_; rintro e w' ⟨rfl, q, rfl⟩))
        refine wp_region_after q.w (by kernel_rfl) (by kernel_rfl) (Below.refl _ _) ?_
        clear z0 z1 z2 g0 k0 k1 l0 l1 m0 m1 m2 m3
        have hne := after_ne q.w
        repeat (go_big_quiet_step (with_reducible exact HA.out _ _ _))
        refine wpQuiet_nil ?_
        intro _ hw'
        obtain ⟨r, hw''⟩ := hw'
        subst hw''
        clear r0 r1 r2 r3 r4
        rcases HH.out with rfl | rfl | ⟨h0, h1, h2, h3⟩
        all_goals
          go_wp2
          go_ret2
          exact ⟨by rw [HP.out]; first | rfl | (simp only [if_neg h0, if_neg h1]; rfl), HB.out.trans ((p'.ok.alloc p'.ok.size _).trans ((q.ok.trans (r.ok.mono q.ok.size)).mono (by have := p'.ok.size; simp; omega)) |>.mono HB.out.size)⟩
      · have hi : idxE [a, b] 0 = -1 := by simp [idxE, ka, kb]
        rw [hi] at HI
        rw [if_neg ka, if_neg kb] at hP
        have HP := Lib.hid hP
        clear hP hAg HS e1 e2 e3 e4 oa ob o2 ka kb hi
        generalize firstE a b = F at *
        cases F
        all_goals
          go_enter Try.func12, Try.ntmps12
          go_upto_region 2 with fail
          rw [← HW.out]
          go_wp2_with (first | (go_at_call 18; refine HR.out.mono ?_; rintro e w' ⟨rfl, p, rfl⟩) | (go_at_call 32; refine (HM.out _).mono ?_; rintro e w' ⟨rfl, p', rfl⟩) | (go_at_call 33; refine (HI.out _).mono ?_; rintro e w' ⟨rfl, q, rfl⟩) | (go_at_call 35; refine (HF.out _).mono ?_; rintro e w' ⟨rfl, hw'⟩))
          go_ret2
          exact ⟨by rw [HP.out]; rfl, HB.out.trans ((p'.ok.alloc p'.ok.size _).trans ((q.ok.trans (hw'.mono q.ok.size)).mono (by have := p'.ok.size; simp; omega)) |>.mono HB.out.size)⟩
  · have hP : pickE G term a b = (2, false) := by rw [pickE, if_neg hC]
    have hcs : rightG G = false ∨ (rightG G = true ∧ decide (term < 0) = true) ∨ (rightG G = true ∧ decide (term < 0) = false ∧ decide (G.terms ≤ term) = true) ∨ (rightG G = true ∧ decide (term < 0) = false ∧ decide (G.terms ≤ term) = false ∧ mayE G.prods.length term [a, b] = false) := by
      cases e1 : rightG G
      · exact .inl rfl
      · by_cases e2 : term < 0
        · exact .inr (.inl ⟨rfl, by simp [e2]⟩)
        · by_cases e3 : G.terms ≤ term
          · exact .inr (.inr (.inl ⟨rfl, by simp [e2], by simp [e3]⟩))
          · refine .inr (.inr (.inr ⟨rfl, by simp [e2], by simp [e3], ?_⟩))
            cases e4 : mayE G.prods.length term [a, b]
            · rfl
            · exact absurd ⟨e1, by omega, by omega, e4⟩ hC
    have HP := Lib.hid hP
    clear hP hC
    generalize rightG G = R at *
    generalize mayE G.prods.length term [a, b] = M at *
    rcases hcs with rfl | ⟨rfl, c1⟩ | ⟨rfl, c1, c2⟩ | ⟨rfl, c1, c2, rfl⟩
    all_goals
      go_enter Try.func12, Try.ntmps12
      go_upto_region 2 with fail
      rw [← HW.out]
      go_wp2_with (first | (go_at_call 18; refine HR.out.mono ?_; rintro e w' ⟨rfl, p, rfl⟩) | (go_at_call 32; refine (HM.out _).mono ?_; rintro e w' ⟨rfl, p', rfl⟩))
      go_ret2
    · exact ⟨by rw [HP.out]; rfl, HB.out.trans (p.ok.mono HB.out.size)⟩
    · exact ⟨by rw [HP.out]; rfl, HB.out.trans (p.ok.mono HB.out.size)⟩
    · exact ⟨by rw [HP.out]; rfl, HB.out.trans (p.ok.mono HB.out.size)⟩
    · exact ⟨by rw [HP.out]; rfl, HB.out.trans (p'.ok.mono HB.out.size)⟩
end Go.Proofs.Ytijdaihcogbliaa
