/-
  gristmillref23: may.
-/
import Derived.Test.YtpnihegmhalcfaaRunG25
namespace Go.Proofs.Ytpnihegmhalcfaa
open Go.RowKit Go.MapKept Go.ChangeMaps
set_option maxHeartbeats 400000

theorem Try.infoActR : (Try.prog.info? 81).map (fun i => (i.zero, i.size, i.bytes)) = some (some (.agg #[.int .u8 0, .int .i64 0]), 2, 16) := by kernel_rfl
def kerL (term : Nat) (K : List It) : List Ac := if term = 0 then (K.filter fun x => decide (x = (0, 1))).map fun _ => ⟨3, 0⟩ else []
def ahdL (at_ term : Nat) (l : List Ah) : List Ac := (l.filter fun a => decide (a.1 = (at_ : Int)) && decide ((term : Int) ∈ a.2.2)).map fun a => ⟨2, a.2.1⟩
def shfL (E : List (Int × Int)) (term : Nat) : List Ac := if 0 ≤ toE (-1) (term : Int) E then [⟨1, toE (-1) (term : Int) E⟩] else []
/-- What may stand at a state and a terminal. -/
def mayL (K : List It) (E : List (Int × Int)) (at_ term : Nat) (l : List Ah) : List Ac := shfL E term ++ kerL term K ++ ahdL at_ term l
theorem kerL_take {term : Nat} {K : List It} {k : Nat} (hk : k < K.length) : kerL term (K.take (k + 1)) = if term = 0 ∧ K[k] = (0, 1) then kerL term (K.take k) ++ [⟨3, 0⟩] else kerL term (K.take k) := by
  have e : K.take (k + 1) = K.take k ++ [K[k]] := by rw [List.take_add_one, List.getElem?_eq_getElem hk]; rfl
  unfold kerL
  rw [e]
  by_cases h : term = 0
  · rw [if_pos h, if_pos h, List.filter_append, List.map_append]
    by_cases h2 : K[k] = (0, 1)
    · rw [if_pos ⟨h, h2⟩, List.filter_cons, if_pos (decide_eq_true h2)]
      rfl
    · rw [if_neg fun h3 => h2 h3.2, List.filter_cons, if_neg (by simp [h2])]
      simp
  · simp [h]
theorem ahdL_take {at_ term : Nat} {l : List Ah} {k : Nat} (hk : k < l.length) : ahdL at_ term (l.take (k + 1)) = if l[k].1 = (at_ : Int) ∧ (term : Int) ∈ l[k].2.2 then ahdL at_ term (l.take k) ++ [⟨2, l[k].2.1⟩] else ahdL at_ term (l.take k) := by
  have e : l.take (k + 1) = l.take k ++ [l[k]] := by rw [List.take_add_one, List.getElem?_eq_getElem hk]; rfl
  unfold ahdL
  rw [e, List.filter_append, List.map_append]
  by_cases h : l[k].1 = (at_ : Int)
  · by_cases h2 : (term : Int) ∈ l[k].2.2
    · simp [h, h2]
    · simp [h, h2]
  · simp [h]
theorem kerL_len (term : Nat) (K : List It) : (kerL term K).length ≤ K.length := by
  unfold kerL
  split
  · rw [List.length_map]; exact List.length_filter_le _ _
  · simp
theorem ahdL_len (at_ term : Nat) (l : List Ah) : (ahdL at_ term l).length ≤ l.length := by
  unfold ahdL
  rw [List.length_map]
  exact List.length_filter_le _ _
theorem shfL_len (E : List (Int × Int)) (term : Nat) : (shfL E term).length ≤ 1 := by unfold shfL; split <;> simp
/-- Entries in a list of their own. -/
def OwnAc (w : World) (B : Nat) (v : Value) (l : List Ac) : Prop := w.ownsRow B 81 2 v l.length (l.flatMap acCells)

set_option maxRecDepth 100000 in
set_option maxHeartbeats 8000000 in
theorem may23_any (kv gv lv : Value) (K : List It) (E : List (Int × Int)) (l : List Ah) (at_ term : Nat) (w : World) (hK : IsItems w kv K) (hE : IsItems w gv E) (hl : IsAheads w lv l) (hkl : K.length ≤ 1000000) (hll : l.length ≤ 1000000) :
    Calls Try.prog 59 #[.agg #[kv, gv], .int .i64 (at_ : Int), .int .i64 (term : Int), lv] w fun e w' => ∃ r, e = .returned r ∧ OwnAc w' w.heap.size r (mayL K E at_ term l) ∧ Below w.heap.size w w' := by
  obtain ⟨ka, kc, rfl, -, -, -⟩ := id hK.parts
  obtain ⟨la, lc, rfl, -, -, -⟩ := id hl.parts
  have hk := Fr.alloc (ch := nothing) w (Obj.cells #[.slice ka K.length kc, gv] 106 (0, 0))
  have hob := alloc_obj w (Obj.cells #[.slice ka K.length kc, gv] 106 (0, 0))
  have c0 := obj_cell hob 0 (v := .slice ka K.length kc) rfl
  have c1 := obj_cell hob 1 (v := gv) rfl
  have HTO := Lib.hid (to23_any (.slice ka K.length kc) gv E (term : Int) _ (hE.fr hk))
  have HK := Lib.hid (And.intro (hK.fr hk) (And.intro (hE.fr hk) (hl.fr hk)))
  have HKB := Lib.hid hk.below_new
  obtain ⟨i0, hi, hz0, hz1, hz2⟩ := info_parts Try.infoActR
  obtain ⟨kn, hkn⟩ : ∃ n, K.length = n := ⟨_, rfl⟩
  obtain ⟨ln, hln⟩ : ∃ n, l.length = n := ⟨_, rfl⟩
  obtain ⟨ga, gc, rfl, -, -, -⟩ := id hE.parts
  clear hK hE hl hk hob
  rw [hkn] at HTO HK HKB hkl c0 c1 ⊢
  rw [hln] at HK hll ⊢
  have HN := Lib.hid (And.intro hkn hln)
  obtain ⟨tz, htz⟩ : ∃ z, toE (-1) (term : Int) E = z := ⟨_, rfl⟩
  have hsh : shfL E term = if 0 ≤ tz then [⟨1, tz⟩] else [] := by unfold shfL; rw [htz]
  rw [htz] at HTO
  clear hkn hln htz
  go_enter Try.func59, Try.ntmps59
  go_upto_region 2 with fail
  generalize w.alloc (Obj.cells #[.slice ka kn kc, .slice ga E.length gc] 106 (0, 0)) = W1 at *
  go_upto_region 3 with (go_at_call 61; refine HTO.out.mono ?_; rintro e w2 ⟨rfl, hb2⟩)
  have HB2 := Lib.hid hb2
  have HC0 := Lib.hid c0
  clear hb2 HTO c1 c0
  by_cases h0 : 0 ≤ tz
  · have hsh2 : shfL E term = [⟨1, tz⟩] := by rw [hsh, if_pos h0]
    have hown2 := (World.ownsRow_nil w2 W1.heap.size 81 2).alloc (Obj.cells #[.int .u8 1, .int .i64 tz] 81 (0, 0))
    have hna := two_news (alloc_obj w2 (Obj.cells #[.int .u8 1, .int .i64 tz] 81 (0, 0)))
    have hBa : W1.heap.size ≤ (w2.alloc (Obj.cells #[.int .u8 1, .int .i64 tz] 81 (0, 0))).heap.size := by have := HB2.out.size; simp; omega
    go_upto_region 5 with (at_builtin; refine wpList_append_lies _ rfl _ _ 52 rfl W1.heap.size 81 i0 _ 2 16 Try.underlying52 hi hz0 hz1 hz2 rfl (by decide) (.slice none 0 0) _ _ rfl hown2 ⟨w2.heap.size, 0, none⟩ 1 1 [.int .u8 1, .int .i64 tz] rfl rfl hna (by simp [Value.oneCell']) (by omega) (by unfold maxLen; omega) (by omega) hBa _ rfl ?_
                           intro g cap w4 hown4 hgrow4 hat4 hlt4)
    have k4 : Fr nothing w2 w4 := ((Fr.alloc _ _).trans (Fr.grown hgrow4)).mono fun b _ e => by cases e
    have hb4 := HB2.out.trans (k4.below HB2.out.size fun _ e => e.elim)
    have hown5 : OwnAc w4 W1.heap.size (.slice (some ⟨g, 0, none⟩) 1 cap) [⟨1, tz⟩] := by simpa [OwnAc, acCells] using hown4
    have HS := Lib.hid (And.intro hown5 hb4)
    have HSH := Lib.hid hsh2
    clear hsh2 hown2 hna hBa hown4 hgrow4 hat4 hlt4 k4 hb4 hown5 hsh HB2
    go_wp2
    go_loopw [9, 11] (fun o iv wr => ∃ k : Nat, k ≤ kn ∧ iv = .int .i64 (k : Int) ∧ OwnAc wr W1.heap.size o (shfL E term ++ kerL term (K.take k)) ∧ Below W1.heap.size W1 wr) (fun _ iv _ => kn - (intOf iv).toNat)
    case atStart => exact ⟨0, Nat.zero_le _, rfl, by rw [HSH.out]; simpa [kerL] using HS.out.1, HS.out.2⟩
    case round =>
      obtain ⟨k, hk, rfl, hown, hbel⟩ := hrel
      have c0 := (Fr.new hbel).cell HC0.out id
      by_cases hlt : k < kn
      · have hkl : k < K.length := by rw [HN.out.1]; exact hlt
        by_cases hte0 : term = 0
        · have hte' : ((term : Int) == 0) = true := by simp [hte0]
          obtain ⟨b, o2, rfl, x0, x1, -, -⟩ := (HK.out.1.fr (Fr.new hbel)).at hkl
          have htk := kerL_take (term := term) hkl
          have heq := fun w => eqItem K[k] (0, 1) w
          have hlen := kerL_len term (K.take k)
          have hlen2 : (K.take k).length ≤ K.length := List.length_take_le' _ _
          have hlen4 := shfL_len E term
          generalize K[k] = x at *
          have hOl : (shfL E term ++ kerL term (K.take k)).length ≤ 2000000 := by
            have h1 := HN.out.1
            simp only [List.length_append]
            omega
          have happ : ∀ y, shfL E term ++ (kerL term (K.take k) ++ [y]) = shfL E term ++ kerL term (K.take k) ++ [y] := fun y => by simp
          have HAP := Lib.hid happ
          clear hlen hlen2 hlen4 happ
          generalize hO : shfL E term ++ kerL term (K.take k) = O at *
          have HO := Lib.hid hO
          clear hO
          by_cases hx : x = (0, 1)
          · rw [if_pos ⟨hte0, hx⟩] at htk
            clear hte0
            rw [decide_eq_true hx] at heq
            unfold itVal at heq
            obtain ⟨xa, xb⟩ := x
            simp only at x0 x1 heq
            obtain ⟨qa, qc, rfl, -, -, -⟩ := own_as_cells2 hown
            have hown2 := hown.alloc (Obj.cells #[.int .u8 3, .int .i64 0] 81 (0, 0))
            have hna := two_news (alloc_obj wr (Obj.cells #[.int .u8 3, .int .i64 0] 81 (0, 0)))
            have hBa : W1.heap.size ≤ (wr.alloc (Obj.cells #[.int .u8 3, .int .i64 0] 81 (0, 0))).heap.size := by have := hbel.size; simp; omega
            have HE := Lib.hid (And.intro htk (And.intro hown hbel))
            clear htk hown hbel hx
            generalize hon : O.length = on at *
            have HON := Lib.hid hon
            clear hon
            go_wp2_with (at_builtin; refine wpList_append_lies _ rfl _ _ 52 rfl W1.heap.size 81 i0 _ 2 16 Try.underlying52 hi hz0 hz1 hz2 rfl (by decide) (.slice qa on qc) _ _ rfl hown2 ⟨wr.heap.size, 0, none⟩ 1 1 [.int .u8 3, .int .i64 0] rfl rfl hna (by simp [Value.oneCell']) (by omega) (by unfold maxLen; omega) (by omega) hBa _ rfl ?_
                         intro g cap w4 hown4 hgrow4 hat4 hlt4)
            go_roundw
            case rel =>
              obtain ⟨htk, hown, hbel⟩ := HE.out
              have k4 : Fr (fun b => (Value.slice qa on qc).ownBlock = some b) wr w4 := (Fr.alloc _ _).trans (Fr.grown hgrow4)
              refine ⟨k + 1, by omega, by simp, ?_, hbel.trans (k4.below hbel.size fun g e => (ownObj hown g e).1)⟩
              rw [htk, HAP.out]
              unfold OwnAc
              rw [List.length_append, List.flatMap_append, HON.out]
              simpa [acCells] using hown4
            case measure => simp [intOf]; omega
          · rw [if_neg fun h => hx h.2] at htk
            clear hte0
            rw [decide_eq_false hx] at heq
            unfold itVal at heq
            obtain ⟨xa, xb⟩ := x
            simp only at x0 x1 heq
            have HE := Lib.hid (And.intro htk (And.intro hown hbel))
            clear htk hown hbel hx
            go_wp2
            go_roundw
            case rel => exact ⟨k + 1, by omega, by simp, by rw [HE.out.1, HO.out]; exact HE.out.2.1, HE.out.2.2⟩
            case measure => simp [intOf]; omega
        · have hte' : ((term : Int) == 0) = false := beq_eq_false_iff_ne.2 (by omega)
          have hke : kerL term (K.take k) = kerL term K := by unfold kerL; rw [if_neg hte0, if_neg hte0]
          rw [hke] at hown
          have HA := Lib.hid (And.intro hown hbel)
          clear hown hbel hke
          go_wp2
          go_loopw [9, 12] (fun o iv wr => ∃ i : Nat, i ≤ ln ∧ iv = .int .i64 (i : Int) ∧ OwnAc wr W1.heap.size o (shfL E term ++ kerL term K ++ ahdL at_ term (l.take i)) ∧ Below W1.heap.size W1 wr) (fun _ iv _ => ln - (intOf iv).toNat)
          case atStart => exact ⟨0, Nat.zero_le _, rfl, by simpa [ahdL] using HA.out.1, HA.out.2⟩
          case round =>
            obtain ⟨i, hi2, rfl, hown, hbel⟩ := hrel
            by_cases hlt2 : i < ln
            · have hil : i < l.length := by rw [HN.out.2]; exact hlt2
              obtain ⟨lb, lo, ra, rc, rfl, e0, e1, e2, hri⟩ := (HK.out.2.2.fr (Fr.new hbel)).at hil
              have htk := ahdL_take (at_ := at_) (term := term) hil
              have hlen := ahdL_len at_ term (l.take i)
              have hlen2 : (l.take i).length ≤ l.length := List.length_take_le' _ _
              have hlen3 := kerL_len term K
              have hlen4 := shfL_len E term
              generalize l[i] = x at *
              obtain ⟨xs, xp, xt⟩ := x
              simp only at e0 e1 e2 hri htk
              have hOl : (shfL E term ++ kerL term K ++ ahdL at_ term (l.take i)).length ≤ 3000000 := by
                have h1 := HN.out.1
                have h2 := HN.out.2
                simp only [List.length_append]
                omega
              have happ : ∀ y, shfL E term ++ kerL term K ++ (ahdL at_ term (l.take i) ++ [y]) = shfL E term ++ kerL term K ++ ahdL at_ term (l.take i) ++ [y] := fun y => by simp
              have HAP := Lib.hid happ
              clear hlen hlen2 hlen3 hlen4 happ
              generalize hO : shfL E term ++ kerL term K ++ ahdL at_ term (l.take i) = O at *
              have HO := Lib.hid hO
              clear hO
              by_cases hxe : xs = (at_ : Int)
              · have hxe' : (xs == (at_ : Int)) = true := by simp [hxe]
                have HHS := Lib.hid (has23_any _ xt (term : Int) wr hri)
                cases hm : decide ((term : Int) ∈ xt) with
                | true =>
                  rw [hm] at HHS
                  rw [if_pos ⟨hxe, of_decide_eq_true hm⟩] at htk
                  obtain ⟨qa, qc, rfl, -, -, -⟩ := own_as_cells2 hown
                  have hown2 := hown.alloc (Obj.cells #[.int .u8 2, .int .i64 xp] 81 (0, 0))
                  have hna := two_news (alloc_obj wr (Obj.cells #[.int .u8 2, .int .i64 xp] 81 (0, 0)))
                  have hBa : W1.heap.size ≤ (wr.alloc (Obj.cells #[.int .u8 2, .int .i64 xp] 81 (0, 0))).heap.size := by have := hbel.size; simp; omega
                  have HE := Lib.hid (And.intro htk (And.intro hown hbel))
                  clear htk hown hbel hri hm hxe
                  generalize hon : O.length = on at *
                  have HON := Lib.hid hon
                  clear hon
                  go_wp2_with (first
                    | (go_at_call 93; refine HHS.out.mono ?_; rintro e w' ⟨rfl, rfl⟩)
                    | (at_builtin; refine wpList_append_lies _ rfl _ _ 52 rfl W1.heap.size 81 i0 _ 2 16 Try.underlying52 hi hz0 hz1 hz2 rfl (by decide) (.slice qa on qc) _ _ rfl hown2 ⟨wr.heap.size, 0, none⟩ 1 1 [.int .u8 2, .int .i64 xp] rfl rfl hna (by simp [Value.oneCell']) (by omega) (by unfold maxLen; omega) (by omega) hBa _ rfl ?_
                       intro g cap w4 hown4 hgrow4 hat4 hlt4))
                  go_roundw
                  case rel =>
                    obtain ⟨htk, hown, hbel⟩ := HE.out
                    have k4 : Fr (fun b => (Value.slice qa on qc).ownBlock = some b) wr w4 := (Fr.alloc _ _).trans (Fr.grown hgrow4)
                    refine ⟨i + 1, by omega, by simp, ?_, hbel.trans (k4.below hbel.size fun g e => (ownObj hown g e).1)⟩
                    rw [htk, HAP.out]
                    unfold OwnAc
                    rw [List.length_append, List.flatMap_append, HON.out]
                    simpa [acCells] using hown4
                  case measure => simp [intOf]; omega
                | false =>
                  rw [hm] at HHS
                  rw [if_neg fun h => by have := of_decide_eq_false hm; exact this h.2] at htk
                  have HE := Lib.hid (And.intro htk (And.intro hown hbel))
                  clear htk hown hbel hri hm hxe
                  go_wp2_with (go_at_call 93; refine HHS.out.mono ?_; rintro e w' ⟨rfl, rfl⟩)
                  go_roundw
                  case rel => exact ⟨i + 1, by omega, by simp, by rw [HE.out.1, HO.out]; exact HE.out.2.1, HE.out.2.2⟩
                  case measure => simp [intOf]; omega
              · have hxe' : (xs == (at_ : Int)) = false := beq_eq_false_iff_ne.2 hxe
                rw [if_neg fun h => hxe h.1] at htk
                have HE := Lib.hid (And.intro htk (And.intro hown hbel))
                clear htk hown hbel hri hxe
                go_wp2
                go_roundw
                case rel => exact ⟨i + 1, by omega, by simp, by rw [HE.out.1, HO.out]; exact HE.out.2.1, HE.out.2.2⟩
                case measure => simp [intOf]; omega
            · obtain rfl : i = ln := by omega
              rw [List.take_of_length_le (by rw [HN.out.2]; omega)] at hown
              have HE := Lib.hid (And.intro hown hbel)
              clear hown hbel
              go_wp2
              go_ret
              exact ⟨_, rfl, own_base HE.out.1 HKB.out.size, HKB.out.trans (HE.out.2.mono HKB.out.size)⟩
      · obtain rfl : k = kn := by omega
        rw [List.take_of_length_le (by rw [HN.out.1]; omega)] at hown
        have HA := Lib.hid (And.intro hown hbel)
        clear hown hbel
        go_wp2
        go_loopw [9, 12] (fun o iv wr => ∃ i : Nat, i ≤ ln ∧ iv = .int .i64 (i : Int) ∧ OwnAc wr W1.heap.size o (shfL E term ++ kerL term K ++ ahdL at_ term (l.take i)) ∧ Below W1.heap.size W1 wr) (fun _ iv _ => ln - (intOf iv).toNat)
        case atStart => exact ⟨0, Nat.zero_le _, rfl, by simpa [ahdL] using HA.out.1, HA.out.2⟩
        case round =>
          obtain ⟨i, hi2, rfl, hown, hbel⟩ := hrel
          by_cases hlt2 : i < ln
          · have hil : i < l.length := by rw [HN.out.2]; exact hlt2
            obtain ⟨lb, lo, ra, rc, rfl, e0, e1, e2, hri⟩ := (HK.out.2.2.fr (Fr.new hbel)).at hil
            have htk := ahdL_take (at_ := at_) (term := term) hil
            have hlen := ahdL_len at_ term (l.take i)
            have hlen2 : (l.take i).length ≤ l.length := List.length_take_le' _ _
            have hlen3 := kerL_len term K
            have hlen4 := shfL_len E term
            generalize l[i] = x at *
            obtain ⟨xs, xp, xt⟩ := x
            simp only at e0 e1 e2 hri htk
            have hOl : (shfL E term ++ kerL term K ++ ahdL at_ term (l.take i)).length ≤ 3000000 := by
              have h1 := HN.out.1
              have h2 := HN.out.2
              simp only [List.length_append]
              omega
            have happ : ∀ y, shfL E term ++ kerL term K ++ (ahdL at_ term (l.take i) ++ [y]) = shfL E term ++ kerL term K ++ ahdL at_ term (l.take i) ++ [y] := fun y => by simp
            have HAP := Lib.hid happ
            clear hlen hlen2 hlen3 hlen4 happ
            generalize hO : shfL E term ++ kerL term K ++ ahdL at_ term (l.take i) = O at *
            have HO := Lib.hid hO
            clear hO
            by_cases hxe : xs = (at_ : Int)
            · have hxe' : (xs == (at_ : Int)) = true := by simp [hxe]
              have HHS := Lib.hid (has23_any _ xt (term : Int) wr hri)
              cases hm : decide ((term : Int) ∈ xt) with
              | true =>
                rw [hm] at HHS
                rw [if_pos ⟨hxe, of_decide_eq_true hm⟩] at htk
                obtain ⟨qa, qc, rfl, -, -, -⟩ := own_as_cells2 hown
                have hown2 := hown.alloc (Obj.cells #[.int .u8 2, .int .i64 xp] 81 (0, 0))
                have hna := two_news (alloc_obj wr (Obj.cells #[.int .u8 2, .int .i64 xp] 81 (0, 0)))
                have hBa : W1.heap.size ≤ (wr.alloc (Obj.cells #[.int .u8 2, .int .i64 xp] 81 (0, 0))).heap.size := by have := hbel.size; simp; omega
                have HE := Lib.hid (And.intro htk (And.intro hown hbel))
                clear htk hown hbel hri hm hxe
                generalize hon : O.length = on at *
                have HON := Lib.hid hon
                clear hon
                go_wp2_with (first
                  | (go_at_call 93; refine HHS.out.mono ?_; rintro e w' ⟨rfl, rfl⟩)
                  | (at_builtin; refine wpList_append_lies _ rfl _ _ 52 rfl W1.heap.size 81 i0 _ 2 16 Try.underlying52 hi hz0 hz1 hz2 rfl (by decide) (.slice qa on qc) _ _ rfl hown2 ⟨wr.heap.size, 0, none⟩ 1 1 [.int .u8 2, .int .i64 xp] rfl rfl hna (by simp [Value.oneCell']) (by omega) (by unfold maxLen; omega) (by omega) hBa _ rfl ?_
                     intro g cap w4 hown4 hgrow4 hat4 hlt4))
                go_roundw
                case rel =>
                  obtain ⟨htk, hown, hbel⟩ := HE.out
                  have k4 : Fr (fun b => (Value.slice qa on qc).ownBlock = some b) wr w4 := (Fr.alloc _ _).trans (Fr.grown hgrow4)
                  refine ⟨i + 1, by omega, by simp, ?_, hbel.trans (k4.below hbel.size fun g e => (ownObj hown g e).1)⟩
                  rw [htk, HAP.out]
                  unfold OwnAc
                  rw [List.length_append, List.flatMap_append, HON.out]
                  simpa [acCells] using hown4
                case measure => simp [intOf]; omega
              | false =>
                rw [hm] at HHS
                rw [if_neg fun h => by have := of_decide_eq_false hm; exact this h.2] at htk
                have HE := Lib.hid (And.intro htk (And.intro hown hbel))
                clear htk hown hbel hri hm hxe
                go_wp2_with (go_at_call 93; refine HHS.out.mono ?_; rintro e w' ⟨rfl, rfl⟩)
                go_roundw
                case rel => exact ⟨i + 1, by omega, by simp, by rw [HE.out.1, HO.out]; exact HE.out.2.1, HE.out.2.2⟩
                case measure => simp [intOf]; omega
            · have hxe' : (xs == (at_ : Int)) = false := beq_eq_false_iff_ne.2 hxe
              rw [if_neg fun h => hxe h.1] at htk
              have HE := Lib.hid (And.intro htk (And.intro hown hbel))
              clear htk hown hbel hri hxe
              go_wp2
              go_roundw
              case rel => exact ⟨i + 1, by omega, by simp, by rw [HE.out.1, HO.out]; exact HE.out.2.1, HE.out.2.2⟩
              case measure => simp [intOf]; omega
          · obtain rfl : i = ln := by omega
            rw [List.take_of_length_le (by rw [HN.out.2]; omega)] at hown
            have HE := Lib.hid (And.intro hown hbel)
            clear hown hbel
            go_wp2
            go_ret
            exact ⟨_, rfl, own_base HE.out.1 HKB.out.size, HKB.out.trans (HE.out.2.mono HKB.out.size)⟩
  · have hsh2 : shfL E term = [] := by rw [hsh, if_neg h0]
    have hown5 : OwnAc w2 W1.heap.size (.slice none 0 0) [] := World.ownsRow_nil _ _ _ _
    have HS := Lib.hid (And.intro hown5 HB2.out)
    have HSH := Lib.hid hsh2
    clear hsh2 hown5 hsh HB2
    go_wp2
    go_loopw [9, 11] (fun o iv wr => ∃ k : Nat, k ≤ kn ∧ iv = .int .i64 (k : Int) ∧ OwnAc wr W1.heap.size o (shfL E term ++ kerL term (K.take k)) ∧ Below W1.heap.size W1 wr) (fun _ iv _ => kn - (intOf iv).toNat)
    case atStart => exact ⟨0, Nat.zero_le _, rfl, by rw [HSH.out]; simpa [kerL] using HS.out.1, HS.out.2⟩
    case round =>
      obtain ⟨k, hk, rfl, hown, hbel⟩ := hrel
      have c0 := (Fr.new hbel).cell HC0.out id
      by_cases hlt : k < kn
      · have hkl : k < K.length := by rw [HN.out.1]; exact hlt
        by_cases hte0 : term = 0
        · have hte' : ((term : Int) == 0) = true := by simp [hte0]
          obtain ⟨b, o2, rfl, x0, x1, -, -⟩ := (HK.out.1.fr (Fr.new hbel)).at hkl
          have htk := kerL_take (term := term) hkl
          have heq := fun w => eqItem K[k] (0, 1) w
          have hlen := kerL_len term (K.take k)
          have hlen2 : (K.take k).length ≤ K.length := List.length_take_le' _ _
          have hlen4 := shfL_len E term
          generalize K[k] = x at *
          have hOl : (shfL E term ++ kerL term (K.take k)).length ≤ 2000000 := by
            have h1 := HN.out.1
            simp only [List.length_append]
            omega
          have happ : ∀ y, shfL E term ++ (kerL term (K.take k) ++ [y]) = shfL E term ++ kerL term (K.take k) ++ [y] := fun y => by simp
          have HAP := Lib.hid happ
          clear hlen hlen2 hlen4 happ
          generalize hO : shfL E term ++ kerL term (K.take k) = O at *
          have HO := Lib.hid hO
          clear hO
          by_cases hx : x = (0, 1)
          · rw [if_pos ⟨hte0, hx⟩] at htk
            clear hte0
            rw [decide_eq_true hx] at heq
            unfold itVal at heq
            obtain ⟨xa, xb⟩ := x
            simp only at x0 x1 heq
            obtain ⟨qa, qc, rfl, -, -, -⟩ := own_as_cells2 hown
            have hown2 := hown.alloc (Obj.cells #[.int .u8 3, .int .i64 0] 81 (0, 0))
            have hna := two_news (alloc_obj wr (Obj.cells #[.int .u8 3, .int .i64 0] 81 (0, 0)))
            have hBa : W1.heap.size ≤ (wr.alloc (Obj.cells #[.int .u8 3, .int .i64 0] 81 (0, 0))).heap.size := by have := hbel.size; simp; omega
            have HE := Lib.hid (And.intro htk (And.intro hown hbel))
            clear htk hown hbel hx
            generalize hon : O.length = on at *
            have HON := Lib.hid hon
            clear hon
            go_wp2_with (at_builtin; refine wpList_append_lies _ rfl _ _ 52 rfl W1.heap.size 81 i0 _ 2 16 Try.underlying52 hi hz0 hz1 hz2 rfl (by decide) (.slice qa on qc) _ _ rfl hown2 ⟨wr.heap.size, 0, none⟩ 1 1 [.int .u8 3, .int .i64 0] rfl rfl hna (by simp [Value.oneCell']) (by omega) (by unfold maxLen; omega) (by omega) hBa _ rfl ?_
                         intro g cap w4 hown4 hgrow4 hat4 hlt4)
            go_roundw
            case rel =>
              obtain ⟨htk, hown, hbel⟩ := HE.out
              have k4 : Fr (fun b => (Value.slice qa on qc).ownBlock = some b) wr w4 := (Fr.alloc _ _).trans (Fr.grown hgrow4)
              refine ⟨k + 1, by omega, by simp, ?_, hbel.trans (k4.below hbel.size fun g e => (ownObj hown g e).1)⟩
              rw [htk, HAP.out]
              unfold OwnAc
              rw [List.length_append, List.flatMap_append, HON.out]
              simpa [acCells] using hown4
            case measure => simp [intOf]; omega
          · rw [if_neg fun h => hx h.2] at htk
            clear hte0
            rw [decide_eq_false hx] at heq
            unfold itVal at heq
            obtain ⟨xa, xb⟩ := x
            simp only at x0 x1 heq
            have HE := Lib.hid (And.intro htk (And.intro hown hbel))
            clear htk hown hbel hx
            go_wp2
            go_roundw
            case rel => exact ⟨k + 1, by omega, by simp, by rw [HE.out.1, HO.out]; exact HE.out.2.1, HE.out.2.2⟩
            case measure => simp [intOf]; omega
        · have hte' : ((term : Int) == 0) = false := beq_eq_false_iff_ne.2 (by omega)
          have hke : kerL term (K.take k) = kerL term K := by unfold kerL; rw [if_neg hte0, if_neg hte0]
          rw [hke] at hown
          have HA := Lib.hid (And.intro hown hbel)
          clear hown hbel hke
          go_wp2
          go_loopw [9, 12] (fun o iv wr => ∃ i : Nat, i ≤ ln ∧ iv = .int .i64 (i : Int) ∧ OwnAc wr W1.heap.size o (shfL E term ++ kerL term K ++ ahdL at_ term (l.take i)) ∧ Below W1.heap.size W1 wr) (fun _ iv _ => ln - (intOf iv).toNat)
          case atStart => exact ⟨0, Nat.zero_le _, rfl, by simpa [ahdL] using HA.out.1, HA.out.2⟩
          case round =>
            obtain ⟨i, hi2, rfl, hown, hbel⟩ := hrel
            by_cases hlt2 : i < ln
            · have hil : i < l.length := by rw [HN.out.2]; exact hlt2
              obtain ⟨lb, lo, ra, rc, rfl, e0, e1, e2, hri⟩ := (HK.out.2.2.fr (Fr.new hbel)).at hil
              have htk := ahdL_take (at_ := at_) (term := term) hil
              have hlen := ahdL_len at_ term (l.take i)
              have hlen2 : (l.take i).length ≤ l.length := List.length_take_le' _ _
              have hlen3 := kerL_len term K
              have hlen4 := shfL_len E term
              generalize l[i] = x at *
              obtain ⟨xs, xp, xt⟩ := x
              simp only at e0 e1 e2 hri htk
              have hOl : (shfL E term ++ kerL term K ++ ahdL at_ term (l.take i)).length ≤ 3000000 := by
                have h1 := HN.out.1
                have h2 := HN.out.2
                simp only [List.length_append]
                omega
              have happ : ∀ y, shfL E term ++ kerL term K ++ (ahdL at_ term (l.take i) ++ [y]) = shfL E term ++ kerL term K ++ ahdL at_ term (l.take i) ++ [y] := fun y => by simp
              have HAP := Lib.hid happ
              clear hlen hlen2 hlen3 hlen4 happ
              generalize hO : shfL E term ++ kerL term K ++ ahdL at_ term (l.take i) = O at *
              have HO := Lib.hid hO
              clear hO
              by_cases hxe : xs = (at_ : Int)
              · have hxe' : (xs == (at_ : Int)) = true := by simp [hxe]
                have HHS := Lib.hid (has23_any _ xt (term : Int) wr hri)
                cases hm : decide ((term : Int) ∈ xt) with
                | true =>
                  rw [hm] at HHS
                  rw [if_pos ⟨hxe, of_decide_eq_true hm⟩] at htk
                  obtain ⟨qa, qc, rfl, -, -, -⟩ := own_as_cells2 hown
                  have hown2 := hown.alloc (Obj.cells #[.int .u8 2, .int .i64 xp] 81 (0, 0))
                  have hna := two_news (alloc_obj wr (Obj.cells #[.int .u8 2, .int .i64 xp] 81 (0, 0)))
                  have hBa : W1.heap.size ≤ (wr.alloc (Obj.cells #[.int .u8 2, .int .i64 xp] 81 (0, 0))).heap.size := by have := hbel.size; simp; omega
                  have HE := Lib.hid (And.intro htk (And.intro hown hbel))
                  clear htk hown hbel hri hm hxe
                  generalize hon : O.length = on at *
                  have HON := Lib.hid hon
                  clear hon
                  go_wp2_with (first
                    | (go_at_call 93; refine HHS.out.mono ?_; rintro e w' ⟨rfl, rfl⟩)
                    | (at_builtin; refine wpList_append_lies _ rfl _ _ 52 rfl W1.heap.size 81 i0 _ 2 16 Try.underlying52 hi hz0 hz1 hz2 rfl (by decide) (.slice qa on qc) _ _ rfl hown2 ⟨wr.heap.size, 0, none⟩ 1 1 [.int .u8 2, .int .i64 xp] rfl rfl hna (by simp [Value.oneCell']) (by omega) (by unfold maxLen; omega) (by omega) hBa _ rfl ?_
                       intro g cap w4 hown4 hgrow4 hat4 hlt4))
                  go_roundw
                  case rel =>
                    obtain ⟨htk, hown, hbel⟩ := HE.out
                    have k4 : Fr (fun b => (Value.slice qa on qc).ownBlock = some b) wr w4 := (Fr.alloc _ _).trans (Fr.grown hgrow4)
                    refine ⟨i + 1, by omega, by simp, ?_, hbel.trans (k4.below hbel.size fun g e => (ownObj hown g e).1)⟩
                    rw [htk, HAP.out]
                    unfold OwnAc
                    rw [List.length_append, List.flatMap_append, HON.out]
                    simpa [acCells] using hown4
                  case measure => simp [intOf]; omega
                | false =>
                  rw [hm] at HHS
                  rw [if_neg fun h => by have := of_decide_eq_false hm; exact this h.2] at htk
                  have HE := Lib.hid (And.intro htk (And.intro hown hbel))
                  clear htk hown hbel hri hm hxe
                  go_wp2_with (go_at_call 93; refine HHS.out.mono ?_; rintro e w' ⟨rfl, rfl⟩)
                  go_roundw
                  case rel => exact ⟨i + 1, by omega, by simp, by rw [HE.out.1, HO.out]; exact HE.out.2.1, HE.out.2.2⟩
                  case measure => simp [intOf]; omega
              · have hxe' : (xs == (at_ : Int)) = false := beq_eq_false_iff_ne.2 hxe
                rw [if_neg fun h => hxe h.1] at htk
                have HE := Lib.hid (And.intro htk (And.intro hown hbel))
                clear htk hown hbel hri hxe
                go_wp2
                go_roundw
                case rel => exact ⟨i + 1, by omega, by simp, by rw [HE.out.1, HO.out]; exact HE.out.2.1, HE.out.2.2⟩
                case measure => simp [intOf]; omega
            · obtain rfl : i = ln := by omega
              rw [List.take_of_length_le (by rw [HN.out.2]; omega)] at hown
              have HE := Lib.hid (And.intro hown hbel)
              clear hown hbel
              go_wp2
              go_ret
              exact ⟨_, rfl, own_base HE.out.1 HKB.out.size, HKB.out.trans (HE.out.2.mono HKB.out.size)⟩
      · obtain rfl : k = kn := by omega
        rw [List.take_of_length_le (by rw [HN.out.1]; omega)] at hown
        have HA := Lib.hid (And.intro hown hbel)
        clear hown hbel
        go_wp2
        go_loopw [9, 12] (fun o iv wr => ∃ i : Nat, i ≤ ln ∧ iv = .int .i64 (i : Int) ∧ OwnAc wr W1.heap.size o (shfL E term ++ kerL term K ++ ahdL at_ term (l.take i)) ∧ Below W1.heap.size W1 wr) (fun _ iv _ => ln - (intOf iv).toNat)
        case atStart => exact ⟨0, Nat.zero_le _, rfl, by simpa [ahdL] using HA.out.1, HA.out.2⟩
        case round =>
          obtain ⟨i, hi2, rfl, hown, hbel⟩ := hrel
          by_cases hlt2 : i < ln
          · have hil : i < l.length := by rw [HN.out.2]; exact hlt2
            obtain ⟨lb, lo, ra, rc, rfl, e0, e1, e2, hri⟩ := (HK.out.2.2.fr (Fr.new hbel)).at hil
            have htk := ahdL_take (at_ := at_) (term := term) hil
            have hlen := ahdL_len at_ term (l.take i)
            have hlen2 : (l.take i).length ≤ l.length := List.length_take_le' _ _
            have hlen3 := kerL_len term K
            have hlen4 := shfL_len E term
            generalize l[i] = x at *
            obtain ⟨xs, xp, xt⟩ := x
            simp only at e0 e1 e2 hri htk
            have hOl : (shfL E term ++ kerL term K ++ ahdL at_ term (l.take i)).length ≤ 3000000 := by
              have h1 := HN.out.1
              have h2 := HN.out.2
              simp only [List.length_append]
              omega
            have happ : ∀ y, shfL E term ++ kerL term K ++ (ahdL at_ term (l.take i) ++ [y]) = shfL E term ++ kerL term K ++ ahdL at_ term (l.take i) ++ [y] := fun y => by simp
            have HAP := Lib.hid happ
            clear hlen hlen2 hlen3 hlen4 happ
            generalize hO : shfL E term ++ kerL term K ++ ahdL at_ term (l.take i) = O at *
            have HO := Lib.hid hO
            clear hO
            by_cases hxe : xs = (at_ : Int)
            · have hxe' : (xs == (at_ : Int)) = true := by simp [hxe]
              have HHS := Lib.hid (has23_any _ xt (term : Int) wr hri)
              cases hm : decide ((term : Int) ∈ xt) with
              | true =>
                rw [hm] at HHS
                rw [if_pos ⟨hxe, of_decide_eq_true hm⟩] at htk
                obtain ⟨qa, qc, rfl, -, -, -⟩ := own_as_cells2 hown
                have hown2 := hown.alloc (Obj.cells #[.int .u8 2, .int .i64 xp] 81 (0, 0))
                have hna := two_news (alloc_obj wr (Obj.cells #[.int .u8 2, .int .i64 xp] 81 (0, 0)))
                have hBa : W1.heap.size ≤ (wr.alloc (Obj.cells #[.int .u8 2, .int .i64 xp] 81 (0, 0))).heap.size := by have := hbel.size; simp; omega
                have HE := Lib.hid (And.intro htk (And.intro hown hbel))
                clear htk hown hbel hri hm hxe
                generalize hon : O.length = on at *
                have HON := Lib.hid hon
                clear hon
                go_wp2_with (first
                  | (go_at_call 93; refine HHS.out.mono ?_; rintro e w' ⟨rfl, rfl⟩)
                  | (at_builtin; refine wpList_append_lies _ rfl _ _ 52 rfl W1.heap.size 81 i0 _ 2 16 Try.underlying52 hi hz0 hz1 hz2 rfl (by decide) (.slice qa on qc) _ _ rfl hown2 ⟨wr.heap.size, 0, none⟩ 1 1 [.int .u8 2, .int .i64 xp] rfl rfl hna (by simp [Value.oneCell']) (by omega) (by unfold maxLen; omega) (by omega) hBa _ rfl ?_
                     intro g cap w4 hown4 hgrow4 hat4 hlt4))
                go_roundw
                case rel =>
                  obtain ⟨htk, hown, hbel⟩ := HE.out
                  have k4 : Fr (fun b => (Value.slice qa on qc).ownBlock = some b) wr w4 := (Fr.alloc _ _).trans (Fr.grown hgrow4)
                  refine ⟨i + 1, by omega, by simp, ?_, hbel.trans (k4.below hbel.size fun g e => (ownObj hown g e).1)⟩
                  rw [htk, HAP.out]
                  unfold OwnAc
                  rw [List.length_append, List.flatMap_append, HON.out]
                  simpa [acCells] using hown4
                case measure => simp [intOf]; omega
              | false =>
                rw [hm] at HHS
                rw [if_neg fun h => by have := of_decide_eq_false hm; exact this h.2] at htk
                have HE := Lib.hid (And.intro htk (And.intro hown hbel))
                clear htk hown hbel hri hm hxe
                go_wp2_with (go_at_call 93; refine HHS.out.mono ?_; rintro e w' ⟨rfl, rfl⟩)
                go_roundw
                case rel => exact ⟨i + 1, by omega, by simp, by rw [HE.out.1, HO.out]; exact HE.out.2.1, HE.out.2.2⟩
                case measure => simp [intOf]; omega
            · have hxe' : (xs == (at_ : Int)) = false := beq_eq_false_iff_ne.2 hxe
              rw [if_neg fun h => hxe h.1] at htk
              have HE := Lib.hid (And.intro htk (And.intro hown hbel))
              clear htk hown hbel hri hxe
              go_wp2
              go_roundw
              case rel => exact ⟨i + 1, by omega, by simp, by rw [HE.out.1, HO.out]; exact HE.out.2.1, HE.out.2.2⟩
              case measure => simp [intOf]; omega
          · obtain rfl : i = ln := by omega
            rw [List.take_of_length_le (by rw [HN.out.2]; omega)] at hown
            have HE := Lib.hid (And.intro hown hbel)
            clear hown hbel
            go_wp2
            go_ret
            exact ⟨_, rfl, own_base HE.out.1 HKB.out.size, HKB.out.trans (HE.out.2.mono HKB.out.size)⟩
end Go.Proofs.Ytpnihegmhalcfaa
