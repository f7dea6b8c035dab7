/-
  The statements' own helpers: SameType, of types that are one.
-/
import Derived.Test.YticdoccaabfjaaaSc16
namespace Go.Proofs.Yticdoccaabfjaaa
open Go.RowKit
set_option maxHeartbeats 400000

set_option maxRecDepth 100000 in
set_option maxHeartbeats 2000000 in
theorem sameTypes_of (N : Nat) (a a' : Option Addr) (c c' : Nat) (vs vs' : Nat → Value) (b o b' o' : Nat) (w : World) (hc : N ≤ c) (hcm : c ≤ maxLen) (hc' : N ≤ c')
    (ha : N = 0 ∨ a = some ⟨b, o, none⟩) (ha' : N = 0 ∨ a' = some ⟨b', o', none⟩) (hx : ∀ i, i < N → Cells w b (o + i * 3) (tyCells (vs i))) (hy : ∀ i, i < N → Cells w b' (o' + i * 3) (tyCells (vs' i)))
    (hvs : ∀ i, i < N → ∃ x y z, vs i = .agg #[x, y, z]) (hvs' : ∀ i, i < N → ∃ x y z, vs' i = .agg #[x, y, z])
    (HE : ∀ i, i < N → ∀ W, Fr nothing w W → Calls Try.prog 11 #[vs i, vs' i] W fun e w' => e = .returned (.bool true) ∧ Below W.heap.size W w') :
    Calls Try.prog 24 #[.slice a N c, .slice a' N c'] w fun e w' => e = .returned (.bool true) ∧ Below w.heap.size w w' := by
  have hcm' : c ≤ 9223372036854775807 := hcm
  have HH := Lib.hid (And.intro ha (And.intro ha' (And.intro hx (And.intro hy (And.intro hvs (And.intro hvs' HE))))))
  clear ha ha' hx hy hvs hvs' HE hcm
  go_enter Try.func24, Try.ntmps24
  go_wp2
  go_loopw [5] (fun i wr => ∃ k : Nat, k ≤ N ∧ i = .int .i64 k ∧ Below w.heap.size w wr) (fun i _ => N - (intOf i).toNat)
  case atStart => exact ⟨0, Nat.zero_le _, rfl, Below.refl _ _⟩
  case round =>
    obtain ⟨k, hk, rfl, hB⟩ := hrel
    have hne := after_ne wr
    by_cases hlt : k < N
    · obtain ⟨ha, ha', hx, hy, hvs, hvs', HE⟩ := HH.out
      obtain rfl := ha.resolve_left (by omega)
      obtain rfl := ha'.resolve_left (by omega)
      have hcx := hx k hlt
      have hcy := hy k hlt
      obtain ⟨p0, p1, p2, hp⟩ := hvs k hlt
      obtain ⟨q0, q1, q2, hq⟩ := hvs' k hlt
      have hcall := HE k hlt
      rw [hp, tyCells_agg] at hcx
      rw [hq, tyCells_agg] at hcy
      rw [hp, hq] at hcall
      have x0 := after_cell ((Fr.new hB).cell (hcx 0 (by simp)) fun e => e)
      have x1 := after_cell ((Fr.new hB).cell (hcx 1 (by simp)) fun e => e)
      have x2 := after_cell ((Fr.new hB).cell (hcx 2 (by simp)) fun e => e)
      have y0 := after_cell ((Fr.new hB).cell (hcy 0 (by simp)) fun e => e)
      have y1 := after_cell ((Fr.new hB).cell (hcy 1 (by simp)) fun e => e)
      have y2 := after_cell ((Fr.new hB).cell (hcy 2 (by simp)) fun e => e)
      simp only [List.getElem_cons_zero, List.getElem_cons_succ, Nat.add_zero] at x0 x1 x2 y0 y1 y2
      have hm := fun p : After wr => after_call p (hcall p.w ((Fr.new hB).trans (Fr.new p.ok)))
      have HM := Lib.hid hm
      have HB := Lib.hid hB
      have hlc : k < c' := by omega
      clear hB hcx hcy hcall hm ha ha' hx hy hvs hvs' HE hp hq
      go_wp2_with fail
      refine wp_region_after wr (by kernel_rfl) (by kernel_rfl) (Below.refl _ _) ?_
      repeat (go_big_quiet_step (exact HM.out _))
      refine wpQuiet_nil ?_
      intro _ hw'
      obtain ⟨q, hw''⟩ := hw'
      subst hw''
      go_wp2
      go_roundw
      case rel => exact ⟨k + 1, by omega, by simp, HB.out.trans (q.ok.mono HB.out.size)⟩
      case measure => simp [intOf]; omega
    · obtain rfl : k = N := by omega
      clear hlt
      go_wp2
      go_ret
      exact ⟨rfl, hB⟩

set_option maxRecDepth 100000 in
set_option maxHeartbeats 2000000 in
theorem sameType_any {w0 : World} {S : Nat → Prop} {t : Ty} {u : Value} (hu : IsTy w0 S t u) : ∀ (w1 : World) (S' : Nat → Prop) (v : Value), IsTy w1 S' t v → ∀ w, Fr nothing w0 w → Fr nothing w1 w →
    Calls Try.prog 11 #[u, v] w fun e w' => e = .returned (.bool true) ∧ Below w.heap.size w w' := by
  induction hu with
  | @mk k n el a cap b o vs hk hl hc hm ha hcs hel ih =>
    intro w1 S' v hv w hw0 hw1
    cases hv with
    | @mk _ _ _ a' cap' b' o' vs' hk' hl' hc' hm' ha' hcs' hel' =>
      have hS := fun W (hW : Fr nothing w W) => sameTypes_of el.length a a' cap cap' vs vs' b o b' o' W hc hm hc' (ha.imp (fun e => by rw [e]; rfl) And.left) (ha'.imp (fun e => by rw [e]; rfl) And.left)
        (fun i hi => ((hcs i hi).fr hw0 fun e => e).fr hW fun e => e) (fun i hi => ((hcs' i hi).fr hw1 fun e => e).fr hW fun e => e)
        (fun i hi => by obtain ⟨k, n, a, l, c, e, _⟩ := (hel i hi).parts; exact ⟨_, _, _, e⟩) (fun i hi => by obtain ⟨k, n, a, l, c, e, _⟩ := (hel' i hi).parts; exact ⟨_, _, _, e⟩)
        (fun i hi W' hW' => ih i hi w1 S' _ (hel' i hi) W' (hw0.trans (hW.trans hW')) (hw1.trans (hW.trans hW')))
      have HS := Lib.hid hS
      clear hS ih hel hel' hcs hcs' ha ha' hc hc' hm hm' hw0 hw1 hl hl'
      generalize el.length = N at *
      have hbs : (n.toList == n.toList) = true := by simp
      have hFB : Fr nothing w ((w.alloc (.cells #[.int .u8 k, .string n, .slice a N cap] 37 (0, 0))).alloc (.cells #[.int .u8 k, .string n, .slice a' N cap'] 37 (0, 0))) := (Fr.alloc _ _).trans (Fr.alloc _ _)
      have HB := Lib.hid hFB
      have HC := Lib.hid (HS.out _ hFB)
      clear hFB
      go_enter Try.func11, Try.ntmps11
      go_wp2_with (go_at_call 24; refine HC.out.mono ?_; rintro e w' ⟨rfl, hb⟩)
      go_ret
      exact ⟨rfl, HB.out.below_new.trans (hb.mono HB.out.size)⟩
end Go.Proofs.Yticdoccaabfjaaa
