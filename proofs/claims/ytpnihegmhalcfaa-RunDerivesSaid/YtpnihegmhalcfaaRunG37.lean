/-
  What stands behind the place of an error makes no difference (plain); gristmilllaw25.light.
-/
import Derived.Test.YtpnihegmhalcfaaRunG36
import Derived.Test.YtpnihegmhalcfaaRunG07
namespace Go.Proofs.Ytpnihegmhalcfaa
open Go.RowKit Go.MapKept Go.ChangeMaps
set_option maxHeartbeats 400000

theorem step_pos {G : Gram} {T : Tbl} {ts : List Int} {st st' : Au} (h : stepU G T ts st = .inr st') : st.pos ≤ st'.pos := by
  unfold stepU at h
  split at h
  · cases h
  · split at h
    · obtain rfl := Sum.inr.inj h
      exact Nat.le_succ _
    · split at h
      · split at h
        · cases h
        · split at h
          · cases h
          · split at h
            · cases h
            · obtain rfl := Sum.inr.inj h
              exact Nat.le_refl _
      · split at h
        · split at h <;> cases h
        · cases h
theorem step_end {G : Gram} {T : Tbl} {ts : List Int} {st st' : Au} {e : Int} (h : stepU G T ts st = .inl (e, st')) : st' = st := by
  unfold stepU at h
  split at h
  · exact ((Prod.mk.inj (Sum.inl.inj h)).2).symm
  · split at h
    · cases h
    · split at h
      · split at h
        · exact ((Prod.mk.inj (Sum.inl.inj h)).2).symm
        · split at h
          · exact ((Prod.mk.inj (Sum.inl.inj h)).2).symm
          · split at h
            · exact ((Prod.mk.inj (Sum.inl.inj h)).2).symm
            · cases h
      · split at h
        · split at h
          · exact ((Prod.mk.inj (Sum.inl.inj h)).2).symm
          · exact ((Prod.mk.inj (Sum.inl.inj h)).2).symm
        · exact ((Prod.mk.inj (Sum.inl.inj h)).2).symm
theorem run_pos {G : Gram} {T : Tbl} {ts : List Int} {e : Int} {stf : Au} : ∀ (k : Nat) (st : Au), runU G T ts k st = some (e, stf) → st.pos ≤ stf.pos
  | 0, st, h => by simp [runU] at h
  | k + 1, st, h => by
    unfold runU at h
    cases hs : stepU G T ts st with
    | inl r =>
      rw [hs] at h
      obtain rfl := Option.some.inj h
      rw [step_end hs]
      exact Nat.le_refl _
    | inr st' =>
      rw [hs] at h
      exact Nat.le_trans (step_pos hs) (run_pos k st' h)
theorem next_same {G : Gram} {ts ts' : List Int} {p : Nat} (hp : p < ts.length) (hp' : p < ts'.length) (h : ∀ i, i ≤ p → ts.getD i 0 = ts'.getD i 0) {q : Nat} (hq : q ≤ p) : nextT G ts q = nextT G ts' q := by
  have h1 : q < ts.length := by omega
  have h2 : q < ts'.length := by omega
  unfold nextT
  rw [if_pos h1, if_pos h2, h q hq]
theorem step_same {G : Gram} {T : Tbl} {ts ts' : List Int} {st : Au} (h : nextT G ts st.pos = nextT G ts' st.pos) : stepU G T ts st = stepU G T ts' st := by
  unfold stepU
  rw [h]
theorem run_same {G : Gram} {T : Tbl} {ts ts' : List Int} {e : Int} {stf : Au} (hp : stf.pos < ts.length) (hp' : stf.pos < ts'.length) (h : ∀ i, i ≤ stf.pos → ts.getD i 0 = ts'.getD i 0) : ∀ (k : Nat) (st : Au), runU G T ts k st = some (e, stf) → runU G T ts' k st = some (e, stf)
  | 0, st, hr => by simp [runU] at hr
  | k + 1, st, hr => by
    have hpos := run_pos (k + 1) st hr
    have hs := step_same (G := G) (T := T) (next_same (G := G) hp hp' h hpos)
    unfold runU at hr ⊢
    rw [← hs]
    cases e1 : stepU G T ts st with
    | inl r => rw [e1] at hr; exact hr
    | inr st' =>
      rw [e1] at hr
      exact run_same hp hp' h k st' hr
/-- What stands behind the place of an error makes no difference. -/
theorem ahead_law {G : Gram} {T : Tbl} {ts more : List Int} {e : Int} {st : Au} (h : RunTo G T ts (e, st)) (hp : st.pos < ts.length) : RunTo G T (ts.take (st.pos + 1) ++ more) (e, st) := by
  unfold RunTo at h ⊢
  split at h
  · rename_i hT
    rw [if_pos hT]
    obtain ⟨k, hk⟩ := h
    refine ⟨k, run_same hp (by simp; omega) (fun i hi => ?_) k _ hk⟩
    rw [List.getD_eq_getElem?_getD, List.getD_eq_getElem?_getD, List.getElem?_append_left (by simp; omega), List.getElem?_take_of_lt (by omega)]
  · rename_i hT
    rw [if_neg hT]
    exact h

def LightP (w : World) (e : Ending) (w' : World) : Prop := (∃ b : Bool, e = .returned (.bool b)) ∧ Below w.heap.size w w'
set_option maxRecDepth 100000 in
set_option maxHeartbeats 8000000 in
theorem light_any (G : Gram) (T : Tbl) (terms : List Int) (gv tv nv : Value) (w : World) (hg : IsGram w gv G) (ht : IsTbl w tv T) (hn : Ints w nv terms) (hf : Fits G) :
    Calls Try.prog 8 #[gv, tv, nv] w (LightP w) := by
  obtain ⟨_, vs, vp, rfl, hs, hp⟩ := id hg
  obtain ⟨-, sa, sc, rfl, -, -, -⟩ := id hs
  obtain ⟨-, pa, pc, rfl, -, -, -⟩ := id hp
  obtain ⟨av, gvv, rfl, hta, htg⟩ := ht
  obtain ⟨aa, ac, rfl, haa, -, han⟩ := Rows'.parts hta
  obtain ⟨ga, gc, rfl, hgg, -, hgn⟩ := Rows'.parts htg
  obtain ⟨-, hnl, na, nc, rfl, -, -, -⟩ := id hn
  have hx := two_boxes w (.cells #[.int .i64 G.terms, .slice sa G.syms.length sc, .slice pa G.prods.length pc] 25 (0, 0)) (.cells #[.slice aa T.acts.length ac, .slice ga T.gotos.length gc] 29 (0, 0))
  have HX := Lib.hid hx
  have HI := Lib.hid (And.intro hg (And.intro hta htg))
  clear hg hs hp hta htg hn hx
  obtain ⟨an, hae⟩ : ∃ n, T.acts.length = n := ⟨_, rfl⟩
  obtain ⟨gn, hge⟩ : ∃ n, T.gotos.length = n := ⟨_, rfl⟩
  rw [hae] at HX han haa HI ⊢
  rw [hge] at HX hgn hgg HI ⊢
  have hws : IntKind.i64.wrap ((an : Int) + (gn : Int)) = (an : Int) + (gn : Int) := IntWalk.i64_in _ (by omega)
  have HL := Lib.hid (And.intro hae hge)
  clear hae hge
  go_enter Try.func8, Try.ntmps8
  go_upto_region 1 with fail
  generalize (w.alloc (Obj.cells #[.int .i64 G.terms, .slice sa G.syms.length sc, .slice pa G.prods.length pc] 25 (0, 0))).alloc (Obj.cells #[.slice aa an ac, .slice ga gn gc] 29 (0, 0)) = W1 at *
  have e0 := obj_cell HX.out.2.1 0 (v := .slice aa an ac) rfl
  have e1 := obj_cell HX.out.2.1 1 (v := .slice ga gn gc) rfl
  have d0 := obj_cell HX.out.1 0 (v := .int .i64 G.terms) rfl
  have d1 := obj_cell HX.out.1 1 (v := .slice sa G.syms.length sc) rfl
  have d2 := obj_cell HX.out.1 2 (v := .slice pa G.prods.length pc) rfl
  have k1 := Fr.new HX.out.2.2
  have HA := Lib.hid (And.intro (actRows_fr HI.out.2.1 k1) (numRows_fr HI.out.2.2 k1))
  have HP := Lib.hid (grammarOf_any G 200 _ W1 (HI.out.1.fr k1) hf (by decide))
  clear k1
  go_wp2
  go_loopw [7, 8] (fun zv iv wr => ∃ (z : Int) (i : Nat), i ≤ an ∧ zv = .int .i64 z ∧ iv = .int .i64 (i : Int) ∧ W1 = wr) (fun _ iv _ => an - (intOf iv).toNat)
  case atStart => exact ⟨0, 0, Nat.zero_le _, rfl, rfl, rfl⟩
  case round =>
    obtain ⟨z, i, hi, rfl, rfl, rfl⟩ := hrel
    by_cases hlt : i < an
    · by_cases hz : z < 3000
      · have dz : decide (z < 3000) = true := decide_eq_true hz
        have hia : i < T.acts.length := by rw [HL.out.1]; exact hlt
        obtain ⟨rb, ro, rfl, -, ra, a0, hra⟩ := Rows'.at HA.out.1 hia
        rw [Nat.mul_one] at a0
        obtain ⟨ra, rc, rfl, -, -, -⟩ := Rows'.parts hra
        clear hra hz
        generalize T.acts[i].length = rl at *
        go_wp2
        go_roundw
        case rel => exact ⟨_, i + 1, by omega, rfl, by simp, (by first | rfl | trivial)⟩
        case measure => simp [intOf]; omega
      · have dz : decide (z < 3000) = false := decide_eq_false hz
        clear hi
        go_wp2
        go_loopw [7, 9] (fun zv iv wr => ∃ (z : Int) (i : Nat), i ≤ gn ∧ zv = .int .i64 z ∧ iv = .int .i64 (i : Int) ∧ W1 = wr) (fun _ iv _ => gn - (intOf iv).toNat)
        case atStart => exact ⟨z, 0, Nat.zero_le _, rfl, rfl, (by first | rfl | trivial)⟩
        case round =>
          obtain ⟨y, q, hq, rfl, rfl, rfl⟩ := hrel
          by_cases hlq : q < gn
          · by_cases hy : y < 3000
            · have dy : decide (y < 3000) = true := decide_eq_true hy
              have hqa : q < T.gotos.length := by rw [HL.out.2]; exact hlq
              obtain ⟨rb, ro, rfl, -, ra, a0, hra⟩ := Rows'.at HA.out.2 hqa
              rw [Nat.mul_one] at a0
              obtain ⟨-, -, ra, rc, rfl, -, -, -⟩ := hra
              clear hy
              generalize T.gotos[q].length = rl at *
              go_wp2
              go_roundw
              case rel => exact ⟨_, q + 1, by omega, rfl, by simp, (by first | rfl | trivial)⟩
              case measure => simp [intOf]; omega
            · have dy : decide (y < 3000) = false := decide_eq_false hy
              by_cases hp : partsG G 200 ≤ 200
              rotate_left
              · have dp : decide (partsG G 200 ≤ 200) = false := decide_eq_false hp
                go_wp2_with (go_at_call 10; refine HP.out.mono ?_; rintro e w2 ⟨rfl, hb2⟩; have e0 := (Fr.new hb2).cell e0 id; have e1 := (Fr.new hb2).cell e1 id)
                go_ret
                exact ⟨⟨_, rfl⟩, HX.out.2.2.trans (hb2.mono HX.out.2.2.size)⟩
              have dp : decide (partsG G 200 ≤ 200) = true := decide_eq_true hp
              by_cases hs : (an : Int) + (gn : Int) ≤ 100
              rotate_left
              · have ds : decide ((an : Int) + (gn : Int) ≤ 100) = false := decide_eq_false hs
                go_wp2_with (go_at_call 10; refine HP.out.mono ?_; rintro e w2 ⟨rfl, hb2⟩; have e0 := (Fr.new hb2).cell e0 id; have e1 := (Fr.new hb2).cell e1 id)
                go_ret
                exact ⟨⟨_, rfl⟩, HX.out.2.2.trans (hb2.mono HX.out.2.2.size)⟩
              have ds : decide ((an : Int) + (gn : Int) ≤ 100) = true := decide_eq_true hs
              go_wp2_with (go_at_call 10; refine HP.out.mono ?_; rintro e w2 ⟨rfl, hb2⟩; have e0 := (Fr.new hb2).cell e0 id; have e1 := (Fr.new hb2).cell e1 id)
              go_ret
              exact ⟨⟨_, rfl⟩, HX.out.2.2.trans (hb2.mono HX.out.2.2.size)⟩
          · obtain rfl : gn = q := by omega
            by_cases hp : partsG G 200 ≤ 200
            rotate_left
            · have dp : decide (partsG G 200 ≤ 200) = false := decide_eq_false hp
              go_wp2_with (go_at_call 10; refine HP.out.mono ?_; rintro e w2 ⟨rfl, hb2⟩; have e0 := (Fr.new hb2).cell e0 id; have e1 := (Fr.new hb2).cell e1 id)
              go_ret
              exact ⟨⟨_, rfl⟩, HX.out.2.2.trans (hb2.mono HX.out.2.2.size)⟩
            have dp : decide (partsG G 200 ≤ 200) = true := decide_eq_true hp
            by_cases hs : (an : Int) + (gn : Int) ≤ 100
            rotate_left
            · have ds : decide ((an : Int) + (gn : Int) ≤ 100) = false := decide_eq_false hs
              go_wp2_with (go_at_call 10; refine HP.out.mono ?_; rintro e w2 ⟨rfl, hb2⟩; have e0 := (Fr.new hb2).cell e0 id; have e1 := (Fr.new hb2).cell e1 id)
              go_ret
              exact ⟨⟨_, rfl⟩, HX.out.2.2.trans (hb2.mono HX.out.2.2.size)⟩
            have ds : decide ((an : Int) + (gn : Int) ≤ 100) = true := decide_eq_true hs
            by_cases hz2 : y < 3000
            rotate_left
            · have dz2 : decide (y < 3000) = false := decide_eq_false hz2
              go_wp2_with (go_at_call 10; refine HP.out.mono ?_; rintro e w2 ⟨rfl, hb2⟩; have e0 := (Fr.new hb2).cell e0 id; have e1 := (Fr.new hb2).cell e1 id)
              go_ret
              exact ⟨⟨_, rfl⟩, HX.out.2.2.trans (hb2.mono HX.out.2.2.size)⟩
            have dz2 : decide (y < 3000) = true := decide_eq_true hz2
            by_cases ht : (terms.length : Int) ≤ 60
            · have dt : decide ((terms.length : Int) ≤ 60) = true := decide_eq_true ht
              have dt2 : decide (terms.length ≤ 60) = true := decide_eq_true (by omega)
              go_wp2_with (go_at_call 10; refine HP.out.mono ?_; rintro e w2 ⟨rfl, hb2⟩; have e0 := (Fr.new hb2).cell e0 id; have e1 := (Fr.new hb2).cell e1 id)
              go_ret
              exact ⟨⟨_, rfl⟩, HX.out.2.2.trans (hb2.mono HX.out.2.2.size)⟩
            · have dt : decide ((terms.length : Int) ≤ 60) = false := decide_eq_false ht
              have dt2 : decide (terms.length ≤ 60) = false := decide_eq_false (by omega)
              go_wp2_with (go_at_call 10; refine HP.out.mono ?_; rintro e w2 ⟨rfl, hb2⟩; have e0 := (Fr.new hb2).cell e0 id; have e1 := (Fr.new hb2).cell e1 id)
              go_ret
              exact ⟨⟨_, rfl⟩, HX.out.2.2.trans (hb2.mono HX.out.2.2.size)⟩
    · obtain rfl : an = i := by omega
      clear hi
      go_wp2
      go_loopw [7, 9] (fun zv iv wr => ∃ (z : Int) (i : Nat), i ≤ gn ∧ zv = .int .i64 z ∧ iv = .int .i64 (i : Int) ∧ W1 = wr) (fun _ iv _ => gn - (intOf iv).toNat)
      case atStart => exact ⟨z, 0, Nat.zero_le _, rfl, rfl, (by first | rfl | trivial)⟩
      case round =>
        obtain ⟨y, q, hq, rfl, rfl, rfl⟩ := hrel
        by_cases hlq : q < gn
        · by_cases hy : y < 3000
          · have dy : decide (y < 3000) = true := decide_eq_true hy
            have hqa : q < T.gotos.length := by rw [HL.out.2]; exact hlq
            obtain ⟨rb, ro, rfl, -, ra, a0, hra⟩ := Rows'.at HA.out.2 hqa
            rw [Nat.mul_one] at a0
            obtain ⟨-, -, ra, rc, rfl, -, -, -⟩ := hra
            clear hy
            generalize T.gotos[q].length = rl at *
            go_wp2
            go_roundw
            case rel => exact ⟨_, q + 1, by omega, rfl, by simp, (by first | rfl | trivial)⟩
            case measure => simp [intOf]; omega
          · have dy : decide (y < 3000) = false := decide_eq_false hy
            by_cases hp : partsG G 200 ≤ 200
            rotate_left
            · have dp : decide (partsG G 200 ≤ 200) = false := decide_eq_false hp
              go_wp2_with (go_at_call 10; refine HP.out.mono ?_; rintro e w2 ⟨rfl, hb2⟩; have e0 := (Fr.new hb2).cell e0 id; have e1 := (Fr.new hb2).cell e1 id)
              go_ret
              exact ⟨⟨_, rfl⟩, HX.out.2.2.trans (hb2.mono HX.out.2.2.size)⟩
            have dp : decide (partsG G 200 ≤ 200) = true := decide_eq_true hp
            by_cases hs : (an : Int) + (gn : Int) ≤ 100
            rotate_left
            · have ds : decide ((an : Int) + (gn : Int) ≤ 100) = false := decide_eq_false hs
              go_wp2_with (go_at_call 10; refine HP.out.mono ?_; rintro e w2 ⟨rfl, hb2⟩; have e0 := (Fr.new hb2).cell e0 id; have e1 := (Fr.new hb2).cell e1 id)
              go_ret
              exact ⟨⟨_, rfl⟩, HX.out.2.2.trans (hb2.mono HX.out.2.2.size)⟩
            have ds : decide ((an : Int) + (gn : Int) ≤ 100) = true := decide_eq_true hs
            go_wp2_with (go_at_call 10; refine HP.out.mono ?_; rintro e w2 ⟨rfl, hb2⟩; have e0 := (Fr.new hb2).cell e0 id; have e1 := (Fr.new hb2).cell e1 id)
            go_ret
            exact ⟨⟨_, rfl⟩, HX.out.2.2.trans (hb2.mono HX.out.2.2.size)⟩
        · obtain rfl : gn = q := by omega
          by_cases hp : partsG G 200 ≤ 200
          rotate_left
          · have dp : decide (partsG G 200 ≤ 200) = false := decide_eq_false hp
            go_wp2_with (go_at_call 10; refine HP.out.mono ?_; rintro e w2 ⟨rfl, hb2⟩; have e0 := (Fr.new hb2).cell e0 id; have e1 := (Fr.new hb2).cell e1 id)
            go_ret
            exact ⟨⟨_, rfl⟩, HX.out.2.2.trans (hb2.mono HX.out.2.2.size)⟩
          have dp : decide (partsG G 200 ≤ 200) = true := decide_eq_true hp
          by_cases hs : (an : Int) + (gn : Int) ≤ 100
          rotate_left
          · have ds : decide ((an : Int) + (gn : Int) ≤ 100) = false := decide_eq_false hs
            go_wp2_with (go_at_call 10; refine HP.out.mono ?_; rintro e w2 ⟨rfl, hb2⟩; have e0 := (Fr.new hb2).cell e0 id; have e1 := (Fr.new hb2).cell e1 id)
            go_ret
            exact ⟨⟨_, rfl⟩, HX.out.2.2.trans (hb2.mono HX.out.2.2.size)⟩
          have ds : decide ((an : Int) + (gn : Int) ≤ 100) = true := decide_eq_true hs
          by_cases hz2 : y < 3000
          rotate_left
          · have dz2 : decide (y < 3000) = false := decide_eq_false hz2
            go_wp2_with (go_at_call 10; refine HP.out.mono ?_; rintro e w2 ⟨rfl, hb2⟩; have e0 := (Fr.new hb2).cell e0 id; have e1 := (Fr.new hb2).cell e1 id)
            go_ret
            exact ⟨⟨_, rfl⟩, HX.out.2.2.trans (hb2.mono HX.out.2.2.size)⟩
          have dz2 : decide (y < 3000) = true := decide_eq_true hz2
          by_cases ht : (terms.length : Int) ≤ 60
          · have dt : decide ((terms.length : Int) ≤ 60) = true := decide_eq_true ht
            have dt2 : decide (terms.length ≤ 60) = true := decide_eq_true (by omega)
            go_wp2_with (go_at_call 10; refine HP.out.mono ?_; rintro e w2 ⟨rfl, hb2⟩; have e0 := (Fr.new hb2).cell e0 id; have e1 := (Fr.new hb2).cell e1 id)
            go_ret
            exact ⟨⟨_, rfl⟩, HX.out.2.2.trans (hb2.mono HX.out.2.2.size)⟩
          · have dt : decide ((terms.length : Int) ≤ 60) = false := decide_eq_false ht
            have dt2 : decide (terms.length ≤ 60) = false := decide_eq_false (by omega)
            go_wp2_with (go_at_call 10; refine HP.out.mono ?_; rintro e w2 ⟨rfl, hb2⟩; have e0 := (Fr.new hb2).cell e0 id; have e1 := (Fr.new hb2).cell e1 id)
            go_ret
            exact ⟨⟨_, rfl⟩, HX.out.2.2.trans (hb2.mono HX.out.2.2.size)⟩
end Go.Proofs.Ytpnihegmhalcfaa
