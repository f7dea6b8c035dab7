/-
  Package clash: a shift against a reduction.
-/
import Derived.Test.YtijdaihcogbliaaClash1
import Derived.Test.YtijdaihcogbliaaLate
import Derived.Test.YtijdaihcogbliaaSym3
namespace Go.Proofs.Ytijdaihcogbliaa
open Go.RowKit
set_option maxHeartbeats 400000

def bindsE (a : Int) : Int := if a = 0 then 2 else if a = 1 then 1 else if a = 2 then 0 else 2
def againstE (la lb assoc : Int) : Int × Bool :=
  if la = 0 ∨ lb = 0 then (0, false) else if lb < la then (0, true) else if la < lb then (1, true) else (bindsE assoc, true)

set_option maxRecDepth 100000 in
set_option maxHeartbeats 2000000 in
theorem against_any (terms : Int) (t k : Nat) (vs vp : Value) (l : List Sym) (pl : List Prd) (w : World) (hs : IsSyms w vs l) (hp : IsPrds w vp pl) (ht : t < l.length) (hk : k < pl.length)
    (hprec : pl[k].prec < (l.length : Int)) (hassoc : l[t].assoc ≤ 3) :
    Calls Try.prog 36 #[.agg #[.int .i64 terms, vs, vp, .int .i64 t], .int .i64 k] w fun e w' =>
      e = .returned (.tuple #[.int .i64 (againstE (levelE ⟨terms, l, pl⟩ t) (levelE ⟨terms, l, pl⟩ pl[k].prec) l[t].assoc).1, .bool (againstE (levelE ⟨terms, l, pl⟩ t) (levelE ⟨terms, l, pl⟩ pl[k].prec) l[t].assoc).2]) ∧ Below w.heap.size w w' := by
  obtain ⟨hlen, b, c, rfl, _, _, _⟩ := id hs
  obtain ⟨hpl, b', c', rfl, _, _, _⟩ := id hp
  obtain ⟨g, o, rfl, ok, hc⟩ := hs.get t ht
  obtain ⟨g', o', ra, rc, rfl, hq, hqc⟩ := hp.get k hk
  have HL := Lib.hid fun (s : Int) (hsl : s < (l.length : Int)) (w0 : World) (hb : Below w.heap.size w w0) => levelE_any terms t (.slice (some ⟨g, o, none⟩) l.length c) (.slice (some ⟨g', o', none⟩) pl.length c') l pl w0 (hs.fr (Fr.new hb)) s hsl
  have c3 := hc 3 (by simp [symCells])
  have q2 := hqc 2 (by simp [prdCells])
  simp only [symCells, prdCells, List.getElem_cons_zero, List.getElem_cons_succ] at c3 q2
  generalize hla : levelE ⟨terms, l, pl⟩ (t : Int) = la
  generalize hlb : levelE ⟨terms, l, pl⟩ pl[k].prec = lb
  have HA := Lib.hid fun (w0 : World) (hb : Below w.heap.size w w0) => hla ▸ HL.out t (by omega) w0 hb
  have HB := Lib.hid fun (w0 : World) (hb : Below w.heap.size w w0) => hlb ▸ HL.out pl[k].prec hprec w0 hb
  have h0 := ok.assoc.1
  generalize l[t].assoc = ac at *
  generalize pl[k].prec = pr at *
  have hw1 := alloc_obj w (.cells #[.int .i64 terms, .slice (some ⟨g, o, none⟩) l.length c, .slice (some ⟨g', o', none⟩) pl.length c', .int .i64 t] 73 (0, 0))
  obtain ⟨w1, e1⟩ : ∃ w1, w1 = w.alloc (.cells #[.int .i64 terms, .slice (some ⟨g, o, none⟩) l.length c, .slice (some ⟨g', o', none⟩) pl.length c', .int .i64 t] 73 (0, 0)) := ⟨_, rfl⟩
  rw [← e1] at hw1
  have hB1 : Below w.heap.size w w1 := by rw [e1]; exact (Below.refl _ w).alloc (Nat.le_refl _) _
  have HA1 := Lib.hid fun p : After w1 => after_call p (HA.out p.w (hB1.trans (p.ok.mono hB1.size)))
  have HB1 := Lib.hid fun p : After w1 => after_call p (HB.out p.w (hB1.trans (p.ok.mono hB1.size)))
  have m0 : ∀ p : After w1, p.w.cell? ⟨w.heap.size, 0, none⟩ = some (.int .i64 terms) := after_obj hw1 0 rfl
  have m1 : ∀ p : After w1, p.w.cell? ⟨w.heap.size, 1, none⟩ = some (.slice (some ⟨g, o, none⟩) l.length c) := after_obj hw1 1 rfl
  have m2 : ∀ p : After w1, p.w.cell? ⟨w.heap.size, 2, none⟩ = some (.slice (some ⟨g', o', none⟩) pl.length c') := after_obj hw1 2 rfl
  have m3 : ∀ p : After w1, p.w.cell? ⟨w.heap.size, 3, none⟩ = some (.int .i64 t) := after_obj hw1 3 rfl
  have r2 := after_cell ((Fr.new hB1).cell q2 fun e => e)
  have r3 := after_cell ((Fr.new hB1).cell c3 fun e => e)
  have hne := after_ne w1
  have HW := Lib.hid e1
  have HBB := Lib.hid hB1
  clear HL hla hlb hq hqc hc ok hs hp c3 q2 HA HB hw1 e1 hB1
  have n2 : ∀ (p : After w1) ob, (p.w.alloc ob).cell? ⟨w.heap.size, 1, none⟩ = some (.slice (some ⟨g, o, none⟩) l.length c) := fun p ob => (Fr.alloc (ch := nothing) p.w ob).cell (m1 p) fun e => e
  have n3 : ∀ (p : After w1) ob, (p.w.alloc ob).cell? ⟨w.heap.size, 3, none⟩ = some (.int .i64 t) := fun p ob => (Fr.alloc (ch := nothing) p.w ob).cell (m3 p) fun e => e
  have n4 : ∀ (p : After w1) ob, (p.w.alloc ob).cell? ⟨g, o + t * 4 + 3, none⟩ = some (.int .u8 ac) := fun p ob => (Fr.alloc (ch := nothing) p.w ob).cell (r3 p) fun e => e
  have hcase : (la = 0) ∨ (la ≠ 0 ∧ lb = 0) ∨ (la ≠ 0 ∧ lb ≠ 0 ∧ lb < la) ∨ (la ≠ 0 ∧ lb ≠ 0 ∧ la < lb) ∨ (la ≠ 0 ∧ lb ≠ 0 ∧ la = lb) := by omega
  have hac : ac = 0 ∨ ac = 1 ∨ ac = 2 ∨ ac = 3 := by omega
  have hBinds := Lib.hid fun p : After w1 => after_call p (binds_any p.w)
  clear h0 hassoc
  rcases hcase with rfl | ⟨a1, rfl⟩ | ⟨a1, a2, a3⟩ | ⟨a1, a2, a3⟩ | ⟨a1, a2, rfl⟩
  case inl =>
    clear hac hBinds n2 n3 n4
    go_enter Try.func36, Try.ntmps36
    go_wp2_with fail
    refine wp_region_after w1 (by kernel_rfl) (by kernel_rfl) (by rw [HW.out]; exact Below.refl _ _) ?_
    repeat (go_big_quiet_step (first | with_reducible exact HA1.out _ | with_reducible exact HB1.out _))
    refine wpQuiet_nil ?_
    intro _ hw'
    obtain ⟨p, hw''⟩ := hw'
    subst hw''
    have HE := Lib.hid (HBB.out.trans (p.ok.mono HBB.out.size))
    go_wp2
    go_ret2
    exact ⟨rfl, HE.out⟩
  case inr.inl =>
    have t1 : (la == 0) = false := by simp [a1]
    clear hac hBinds n2 n3 n4
    go_enter Try.func36, Try.ntmps36
    go_wp2_with fail
    refine wp_region_after w1 (by kernel_rfl) (by kernel_rfl) (by rw [HW.out]; exact Below.refl _ _) ?_
    repeat (go_big_quiet_step (first | with_reducible exact HA1.out _ | with_reducible exact HB1.out _))
    refine wpQuiet_nil ?_
    intro _ hw'
    obtain ⟨p, hw''⟩ := hw'
    subst hw''
    have HE := Lib.hid (HBB.out.trans (p.ok.mono HBB.out.size))
    go_wp2
    go_ret2
    exact ⟨by simp [againstE], HE.out⟩
  case inr.inr.inl =>
    have t1 : (la == 0) = false := by simp [a1]
    have t2 : (lb == 0) = false := by simp [a2]
    clear hac hBinds n2 n3 n4
    go_enter Try.func36, Try.ntmps36
    go_wp2_with fail
    refine wp_region_after w1 (by kernel_rfl) (by kernel_rfl) (by rw [HW.out]; exact Below.refl _ _) ?_
    repeat (go_big_quiet_step (first | with_reducible exact HA1.out _ | with_reducible exact HB1.out _))
    refine wpQuiet_nil ?_
    intro _ hw'
    obtain ⟨p, hw''⟩ := hw'
    subst hw''
    have HE := Lib.hid (HBB.out.trans (p.ok.mono HBB.out.size))
    go_wp2
    go_ret2
    exact ⟨by simp [againstE, a1, a2, a3], HE.out⟩
  case inr.inr.inr.inl =>
    have t1 : (la == 0) = false := by simp [a1]
    have t2 : (lb == 0) = false := by simp [a2]
    have t3 : decide (lb < la) = false := decide_eq_false (by omega)
    clear hac hBinds n2 n3 n4
    go_enter Try.func36, Try.ntmps36
    go_wp2_with fail
    refine wp_region_after w1 (by kernel_rfl) (by kernel_rfl) (by rw [HW.out]; exact Below.refl _ _) ?_
    repeat (go_big_quiet_step (first | with_reducible exact HA1.out _ | with_reducible exact HB1.out _))
    refine wpQuiet_nil ?_
    intro _ hw'
    obtain ⟨p, hw''⟩ := hw'
    subst hw''
    have HE := Lib.hid (HBB.out.trans (p.ok.mono HBB.out.size))
    go_wp2
    go_ret2
    have e : againstE la lb ac = (1, true) := by
      rw [againstE, if_neg (fun h => h.elim a1 a2), if_neg (by omega), if_pos a3]
    exact ⟨by rw [e]; rfl, HE.out⟩
  case inr.inr.inr.inr =>
    have t1 : (la == 0) = false := by simp [a1]
    have t3 : decide (la < la) = false := by simp
    rcases hac with rfl | rfl | rfl | rfl
    all_goals
      go_enter Try.func36, Try.ntmps36
      go_wp2_with fail
      refine wp_region_after w1 (by kernel_rfl) (by kernel_rfl) (by rw [HW.out]; exact Below.refl _ _) ?_
      repeat (go_big_quiet_step (first | with_reducible exact HA1.out _ | with_reducible exact HB1.out _))
      refine wpQuiet_nil ?_
      intro _ hw'
      obtain ⟨p, hw''⟩ := hw'
      subst hw''
      have HE := Lib.hid (HBB.out.trans (p.ok.mono HBB.out.size))
      go_wp2_with (go_at_call 65; refine (hBinds.out _).mono ?_; rintro e w' ⟨rfl, p', rfl⟩)
      go_ret2
      exact ⟨by simp [againstE, bindsE, a1], (HBB.out.trans (p'.ok.mono HBB.out.size)).alloc (Nat.le_trans HBB.out.size p'.ok.size) _⟩
end Go.Proofs.Ytijdaihcogbliaa
