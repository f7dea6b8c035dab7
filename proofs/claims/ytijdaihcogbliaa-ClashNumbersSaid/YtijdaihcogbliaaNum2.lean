/-
  Each two entries of all kinds are told as the document says: the law's walk.
-/
import Derived.Test.YtijdaihcogbliaaNum1
namespace Go.Proofs.Ytijdaihcogbliaa
open Go.RowKit
set_option maxHeartbeats 400000

def numList : List Int := [-9223372036854775808, -1, 0, 1, 2, 3, 4, 9223372036854775807]
def entCells (a : Ent) : List Value := [.int .u8 a.kind, .int .i64 a.to]
theorem Try.infoAct : (Try.prog.info? 28).map (fun i => (i.zero, i.size, i.bytes)) = some (some (.agg #[.int .u8 0, .int .i64 0]), 2, 16) := by kernel_rfl
theorem ents_row {w : World} {B : Nat} {v : Value} {L : List Ent} {e : TypeId} (h : w.ownsRow B e 2 v L.length (L.flatMap entCells)) (hok : ∀ x ∈ L, EntOk x) (hl : L.length ≤ 1000) : IsEnts w v L := by
  obtain ⟨a, cap, rfl, h1, h2, h3⟩ := own_cells h
  refine ⟨by omega, a, cap, rfl, h1, h2, ?_⟩
  rcases h3 with h3 | ⟨g, rfl, _, hc⟩
  · refine .inl (List.eq_nil_of_length_eq_zero ?_)
    have : (L.flatMap entCells).length = 0 := by rw [h3]; rfl
    rw [flat_len entCells 2 (fun _ => rfl)] at this
    omega
  · exact .inr ⟨g, 0, rfl, fun i hi => ⟨hok _ (List.getElem_mem hi), flat_cells (m := 2) (fun _ => rfl) hc i hi⟩⟩
theorem num_all : ∀ x ∈ numList, -9223372036854775808 ≤ x ∧ x ≤ 9223372036854775807 := by unfold numList; decide
theorem num_bound (i : Nat) (h : i < numList.length) : i64 numList[i] := num_all _ (List.getElem_mem h)
theorem own_block_ge {w : World} {B : Nat} {e : TypeId} {size : Nat} {v : Value} {n : Nat} {xs : List Value} (h : w.ownsRow B e size v n xs) : ∀ g, v.ownBlock = some g → B ≤ g := fun g hg => by
  rcases h.2 with ⟨rfl, _⟩ | ⟨g', cap, cur, rfl, hb, _⟩
  · cases hg
  · simp only [Value.ownBlock, Option.some.injEq] at hg
    omega

theorem IsEnts.get {w : World} {b : Option Addr} {n cap : Nat} {l : List Ent} (h : IsEnts w (.slice b n cap) l) (k : Nat) (hk : k < l.length) :
    ∃ g o, b = some ⟨g, o, none⟩ ∧ EntOk l[k] ∧ Cells w g (o + k * 2) [.int .u8 l[k].kind, .int .i64 l[k].to] := by
  obtain ⟨h1, a, c, hv, hc, hm, hx⟩ := h
  simp only [Value.slice.injEq] at hv
  obtain ⟨rfl, rfl, rfl⟩ := hv
  rcases hx with rfl | ⟨g, o, rfl, hx⟩
  · simp at hk
  · exact ⟨g, o, rfl, (hx k hk).1, (hx k hk).2⟩
theorem gram_zero (w : World) : IsGram w (.agg #[.int .i64 0, .slice none 0 0, .slice none 0 0]) ⟨0, [], []⟩ :=
  ⟨show i64 0 by unfold i64; decide, _, _, rfl, ⟨by simp, none, 0, rfl, Nat.le_refl _, by unfold maxLen; omega, .inl rfl⟩, ⟨by simp, none, 0, rfl, Nat.le_refl _, by unfold maxLen; omega, .inl rfl⟩⟩
theorem fits_zero : Fits ⟨0, [], []⟩ := ⟨fun s h => by simp at h, fun s h => by simp at h, fun s h => by simp at h⟩

set_option maxRecDepth 100000 in
set_option maxHeartbeats 8000000 in
theorem numbers_any (w : World) : Calls Try.prog 4 #[] w fun e w' => e = .returned (.bool true) ∧ Below w.heap.size w w' := by
  obtain ⟨i0, hi, hz0, hz1, hz2⟩ := info_parts Try.infoAct
  have HA := Lib.hid act_any
  unfold entVal at HA
  go_enter Try.func4, Try.ntmps4
  go_wp2
  go_loopw [1, 3, 4] (fun v k _ wr => ∃ (j : Nat) (L : List Ent), j ≤ 5 ∧ k = .int .i64 j ∧ L.length = 8 * j ∧ (∀ x ∈ L, EntOk x) ∧ wr.ownsRow (w.heap.size + 1) 28 2 v L.length (L.flatMap entCells) ∧
      wr.heap[w.heap.size]? = some (.cells (numList.map (Value.int .i64)).toArray 3 (0, 0)) ∧ Below w.heap.size w wr)
    (fun _ k _ _ => 5 - (intOf k).toNat)
  case atStart => exact ⟨0, [], by omega, rfl, rfl, by simp, ⟨rfl, .inl ⟨rfl, rfl⟩⟩, alloc_obj _ _, (Below.refl _ _).alloc (Nat.le_refl _) _⟩
  case round =>
    obtain ⟨j, L, hj, rfl, hL, hok, hown, hnum, hB⟩ := hrel
    by_cases hlt : j < 5
    · have tj : decide ((j : Int) < 5) = true := decide_eq_true (by omega)
      have xk : IntKind.u8.wrap (j : Int) = j := by
        rcases (by omega : j = 0 ∨ j = 1 ∨ j = 2 ∨ j = 3 ∨ j = 4) with rfl | rfl | rfl | rfl | rfl <;> rfl
      go_wp2
      go_loopw [1, 4] (fun v i wq => ∃ (m : Nat) (L : List Ent), m ≤ 8 ∧ i = .int .i64 m ∧ L.length = 8 * j + m ∧ (∀ x ∈ L, EntOk x) ∧ wq.ownsRow (w.heap.size + 1) 28 2 v L.length (L.flatMap entCells) ∧
          wq.heap[w.heap.size]? = some (.cells (numList.map (Value.int .i64)).toArray 3 (0, 0)) ∧ Below w.heap.size w wq)
        (fun _ i _ => 8 - (intOf i).toNat)
      case atStart => exact ⟨0, L, by omega, rfl, by omega, hok, hown, hnum, hB⟩
      case round =>
        clear hown hL hok hnum hB
        obtain ⟨m, L, hm, rfl, hL, hok, hown, hnum, hB⟩ := hrel
        by_cases hlt2 : m < 8
        · have tm : decide ((m : Int) < 8) = true := decide_eq_true (by omega)
          have hm8 : m < numList.length := hlt2
          have hc : wr.cell? ⟨w.heap.size, m, none⟩ = some (.int .i64 numList[m]) := obj_cell hnum m (by simp [hm8])
          have hbd := num_bound m hm8
          generalize numList[m] = x at *
          have HX := Lib.hid (And.intro hok (And.intro hnum hL))
          have hlen : L.length ≤ 40 := by omega
          clear hok hnum
          go_wp2_with (first | (go_at_call 15; refine (HA.out _ _ _).mono ?_; rintro e w' ⟨rfl, hb⟩) | (at_builtin; refine wpList_append_own _ rfl _ _ 36 rfl (w.heap.size + 1) 28 i0 _ 2 16 Try.underlying36 hi hz0 hz1 hz2 rfl (by decide) _ _ _ rfl ((own_below hown hb).alloc _) ⟨w'.heap.size, 0, none⟩ 1 1 (entCells ⟨j, x⟩) rfl rfl (cells_add (cells_new_at rfl _ _ rfl _ _)) (by simp [entCells, Value.oneCell']) (by unfold maxLen; omega) (by omega) (by have := hB.size; have := hb.size; have := (Array.getElem?_eq_some_iff.1 HX.out.2.1).1; simp; omega) ?_; intro v' w2 hown2 hgrow2 _))
          go_roundw
          case rel =>
            have hg : (w'.alloc (.cells #[.int .u8 j, .int .i64 x] 28 (0, 0))).grownBy w2 (Value.ownBlock u1) := hgrow2
            have hge := own_block_ge hown
            have hsz : w.heap.size < wr.heap.size := (Array.getElem?_eq_some_iff.1 HX.out.2.1).1
            have hfr : Fr (fun k => Value.ownBlock u1 = some k) w' w2 := (Fr.alloc _ _).trans (Fr.grown hg)
            refine ⟨m + 1, L ++ [⟨j, x⟩], by omega, by simp, by rw [List.length_append, HX.out.2.2]; simp; omega, ?_, ?_, ?_, ?_⟩
            · intro y hy
              rcases List.mem_append.1 hy with hy | hy
              · exact HX.out.1 y hy
              · simp only [List.mem_singleton] at hy
                subst hy
                exact ⟨by simp only; omega, hbd⟩
            · rw [List.length_append, List.flatMap_append, List.flatMap_singleton]
              exact hown2
            · exact hfr.obj ((Fr.new hb).obj HX.out.2.1 fun e => e) fun e => by have := hge _ e; omega
            · exact (hB.trans (hb.mono hB.size)).trans (hfr.below (Nat.le_trans hB.size hb.size) fun k e => by have := hge _ e; omega)
          case measure => simp [intOf]; omega
        · obtain rfl : m = 8 := by omega
          have HX := Lib.hid (And.intro hok (And.intro hnum (And.intro hL (And.intro hown hB))))
          clear hok hnum hown hB hlt2
          go_wp2
          go_roundw
          case rel => exact ⟨j + 1, L, by omega, by simp, by rw [HX.out.2.2.1]; omega, HX.out.1, HX.out.2.2.2.1, HX.out.2.1, HX.out.2.2.2.2⟩
          case measure => simp [intOf]; omega
    · obtain rfl : j = 5 := by omega
      have hLen : L.length = 40 := by omega
      obtain ⟨sa, sc, rfl, hr2, hr3, hr4⟩ := own_cells hown
      have hE := ents_row hown hok (by omega)
      rw [hLen] at hE ⊢
      have hnums : Ints wr (.slice (some ⟨w.heap.size, 0, none⟩) 8 8) numList := ints_obj hnum rfl num_all rfl (by decide)
      clear hok hown hr2 hr3 hr4 hlt hL
      generalize wr = wA at *
      have HE := Lib.hid hE
      have HNM := Lib.hid hnum
      have HB := Lib.hid hB
      clear hE hnums hnum hB
      go_wp2
      go_loopw [0, 5, 6, 7, 8, 9, 10, 11, 12, 13, 14, 15, 16] (fun _ n _ _ _ _ _ _ _ _ _ _ _ wq => ∃ m : Nat, m ≤ 16 ∧ n = .int .i64 m ∧ Below wA.heap.size wA wq)
        (fun _ n _ _ _ _ _ _ _ _ _ _ _ _ => 16 - (intOf n).toNat)
      case atStart => exact ⟨0, by omega, rfl, Below.refl _ _⟩
      case round =>
        obtain ⟨m, hm, rfl, hB⟩ := hrel
        by_cases hlt : m < 16
        · have tm : decide ((m : Int) < 16) = true := decide_eq_true (by omega)
          have hb1 : i64 (if 1 < (m : Int) % 4 then 1 else (m : Int) % 4) ∧ 0 ≤ (m : Int) % 4 ∧ (m : Int) % 4 ≤ 255 := by
            unfold i64
            split <;> omega
          have hb2 : i64 (if 1 < (m : Int) / 4 then 1 else (m : Int) / 4) ∧ 0 ≤ (m : Int) / 4 ∧ (m : Int) / 4 ≤ 255 := by
            unfold i64
            split <;> omega
          have HGR := Lib.hid grammarObjs_any
          have HBD := Lib.hid (And.intro hb1 hb2)
          clear hb1 hb2
          go_upto_region 16 with (go_at_call 16; refine (HGR.out _ _ _ _ _).mono ?_; rintro e w5 ⟨B, hB5, rfl, hobj, hb5⟩; have hc10 : ∀ ob, (w5.alloc ob).cell? ⟨B, 10, none⟩ = some (.int .i64 (if 1 < (m : Int) / 4 then 1 else (m : Int) / 4)) := fun ob => (Fr.alloc (ch := nothing) w5 ob).cell (obj_cell hobj.1 10 rfl) fun e => e; have hf10 := fun ob => obj_frozen ((Fr.alloc (ch := nothing) w5 ob).obj hobj.1 fun e => e) 10)
          have hsB : wr.heap.size ≤ B := by
            simp at hB5
            omega
          have hBr5 : Below wr.heap.size wr w5 := ((Below.refl _ wr).alloc (Nat.le_refl _) _ |>.alloc (by simp) _).trans (hb5.mono (by simp; omega))
          have hB5s : B + 1 + 1 + 1 + 1 < w5.heap.size := (Array.getElem?_eq_some_iff.1 hobj.2.2.2.2).1
          clear hb5 hB5
          have hcond : (decide (0 < (m : Int) / 4) = true ∧ ((m : Int) % 2 == 0) = true) ∨ (decide (0 < (m : Int) / 4) = false ∨ decide (0 < (m : Int) / 4) = true ∧ ((m : Int) % 2 == 0) = false) := by
            cases decide (0 < (m : Int) / 4) <;> cases ((m : Int) % 2 == 0) <;> simp
          have HF := Lib.hid (And.intro hobj (And.intro hBr5 (And.intro hsB hB5s)))
          clear hobj hBr5 hsB hB5s
          rcases hcond with ⟨n1, n2⟩ | n1 | ⟨n1, n2⟩
          all_goals
            go_upto_region 18 with fail
            refine wp_atW (F := fun W => (∃ la aa lb ab, IsGram W (.agg #[.int .i64 3, .slice (some ⟨B, 0, none⟩) 5 5, .slice (some ⟨B + 1 + 1 + 1 + 1, 0, none⟩) 4 4]) ⟨3, symsOf la aa lb ab, numProds⟩) ∧ W.heap[w5.heap.size]? = some (.cells #[.int .i64 3, .slice (some ⟨B, 0, none⟩) 5 5, .slice (some ⟨B + 1 + 1 + 1 + 1, 0, none⟩) 4 4] 25 (0, 0)) ∧ Below wr.heap.size wr W) ?_ ?_
            · obtain ⟨⟨hobj, hBr5, hsB, hB5s⟩, hbd1, hbd2⟩ := And.intro HF.out HBD.out
              first
                | exact ⟨⟨_, _, _, _, (hobj.fr (ch := nothing) (Fr.alloc _ _) fun _ _ e => e).gram hbd1 hbd2⟩, alloc_obj _ _, below_alloc hBr5⟩
                | exact ⟨⟨_, _, _, _, (NumObjs.turn (hobj.fr (ch := nothing) (Fr.alloc _ _) fun _ _ e => e)).gram hbd1 ⟨by unfold i64; omega, hbd2.2⟩⟩, (Fr.setCell' (ch := only B) ⟨B, 10, none⟩ _ rfl).obj (alloc_obj _ _) (fun e => by unfold only at e; omega), (below_alloc hBr5).trans ((Fr.setCell' (ch := only B) ⟨B, 10, none⟩ _ rfl).below (by have := hBr5.size; simp; omega) (fun k e => by unfold only at e; omega))⟩
            rintro W ⟨⟨la, aa, lb, ab, hgW⟩, hbox, hBW⟩
            have hcap : Below wA.heap.size wA W := hB.trans (hBW.mono hB.size)
            have hfit := NumObjs.fits la aa lb ab
            generalize (⟨3, symsOf la aa lb ab, numProds⟩ : Gram) = G at *
            have HGW := Lib.hid (And.intro hgW (And.intro hfit (And.intro hbox hcap)))
            clear hgW hfit hbox hcap hBW HF HBD HGR hB
            generalize (if 1 < (m : Int) % 4 then (1 : Int) else (m : Int) % 4) = ee1
            generalize (if 1 < (m : Int) / 4 then (1 : Int) else (m : Int) / 4) = ee2
            go_wp2
            go_loopw [0, 9, 10, 11, 12, 13, 14, 15] (fun _ i _ _ _ _ _ _ wq => ∃ x : Nat, x ≤ 40 ∧ i = .int .i64 x ∧ Below W.heap.size W wq) (fun _ i _ _ _ _ _ _ _ => 40 - (intOf i).toNat)
            case atStart => exact ⟨0, by omega, rfl, Below.refl _ _⟩
            case round =>
              obtain ⟨x, hx40, rfl, hB4⟩ := hrel
              by_cases hltx : x < 40
              · have tx : decide (x < 40) = true := by simp [hltx]
                have tx' : decide ((x : Int) < 40) = true := decide_eq_true (by omega)
                go_wp2
                go_loopw [0, 10, 11, 12, 13, 14, 15] (fun _ i _ _ _ _ _ wq => ∃ y : Nat, y ≤ 40 ∧ i = .int .i64 y ∧ Below W.heap.size W wq) (fun _ i _ _ _ _ _ _ => 40 - (intOf i).toNat)
                case atStart => exact ⟨0, by omega, rfl, hB4⟩
                case round =>
                  clear hB4
                  obtain ⟨y, hy40, rfl, hB4⟩ := hrel
                  by_cases hlty : y < 40
                  · have ty : decide (y < 40) = true := by simp [hlty]
                    have ty' : decide ((y : Int) < 40) = true := decide_eq_true (by omega)
                    go_wp2
                    go_loopw [0, 11, 12, 13, 14, 15] (fun _ i _ _ _ _ wq => ∃ z : Nat, z ≤ 3 ∧ i = .int .i64 z ∧ Below W.heap.size W wq) (fun _ i _ _ _ _ _ => 3 - (intOf i).toNat)
                    case atStart => exact ⟨0, by omega, rfl, hB4⟩
                    case round =>
                      clear hB4
                      obtain ⟨z, hz3, rfl, hB4⟩ := hrel
                      by_cases hltz : z < 3
                      · have tz' : decide ((z : Int) < 3) = true := decide_eq_true (by omega)
                        have hBA : Below wA.heap.size wA wr := HGW.out.2.2.2.trans (hB4.mono HGW.out.2.2.2.size)
                        obtain ⟨eb, eo, hsa, okx, hcx⟩ := HE.out.get x (by rw [hLen]; exact hltx)
                        obtain ⟨eb', eo', hsa', oky, hcy⟩ := HE.out.get y (by rw [hLen]; exact hlty)
                        subst hsa
                        simp only [Option.some.injEq, Addr.mk.injEq, and_true] at hsa'
                        obtain ⟨rfl, rfl⟩ := hsa'
                        generalize L[x]'(by rw [hLen]; exact hltx) = ex at *
                        generalize L[y]'(by rw [hLen]; exact hlty) = ey at *
                        have x0 := after_cell ((Fr.new hBA).cell (hcx 0 (by simp)) fun e => e)
                        have x1 := after_cell ((Fr.new hBA).cell (hcx 1 (by simp)) fun e => e)
                        have y0 := after_cell ((Fr.new hBA).cell (hcy 0 (by simp)) fun e => e)
                        have y1 := after_cell ((Fr.new hBA).cell (hcy 1 (by simp)) fun e => e)
                        simp only [List.getElem_cons_zero, List.getElem_cons_succ, Nat.add_zero] at x0 x1 y0 y1
                        have obx := (Fr.new hB4).obj HGW.out.2.2.1 fun e => e
                        have v0 : ∀ p : After wr, p.w.cell? ⟨w5.heap.size, 0, none⟩ = some (.int .i64 3) := after_obj obx 0 rfl
                        have v1 : ∀ p : After wr, p.w.cell? ⟨w5.heap.size, 1, none⟩ = some (.slice (some ⟨B, 0, none⟩) 5 5) := after_obj obx 1 rfl
                        have v2 : ∀ p : After wr, p.w.cell? ⟨w5.heap.size, 2, none⟩ = some (.slice (some ⟨B + 1 + 1 + 1 + 1, 0, none⟩) 4 4) := after_obj obx 2 rfl
                        have hp1 := fun p : After wr => after_call p (pick_any G z ex ey _ p.w ((HGW.out.1.fr (Fr.new hB4)).fr (Fr.new p.ok)) okx oky)
                        have hp2 := fun p : After wr => after_call p (pick22_any G z ex ey _ p.w ((HGW.out.1.fr (Fr.new hB4)).fr (Fr.new p.ok)))
                        unfold entVal at hp1 hp2
                        generalize pickE G z ex ey = u at *
                        obtain ⟨ua, ub⟩ := u
                        have HP1 := Lib.hid hp1
                        have HP2 := Lib.hid hp2
                        have hne := after_ne wr
                        have HB4 := Lib.hid hB4
                        clear hp1 hp2 hcx hcy obx hBA hB4
                        go_wp2_with fail
                        refine wp_region_after wr (by kernel_rfl) (by kernel_rfl) (Below.refl _ _) ?_
                        repeat (go_big_quiet_step (exact HP1.out _))
                        refine wpQuiet_nil ?_
                        intro _ hw'
                        obtain ⟨q, hw''⟩ := hw'
                        subst hw''
                        go_wp2_with fail
                        refine wp_region_after wr (by kernel_rfl) (by kernel_rfl) q.ok ?_
                        repeat (go_big_quiet_step (exact HP2.out _))
                        refine wpQuiet_nil ?_
                        intro _ hw'
                        obtain ⟨q2, hw''⟩ := hw'
                        subst hw''
                        go_wp2
                        go_roundw
                        case rel => exact ⟨z + 1, by omega, by simp, HB4.out.trans (q2.ok.mono HB4.out.size)⟩
                        case measure => simp [intOf]; omega
                      · obtain rfl : z = 3 := by omega
                        clear hltz
                        go_wp2
                        go_roundw
                        case rel => exact ⟨y + 1, by omega, by simp, hB4⟩
                        case measure => simp [intOf]; omega
                  · obtain rfl : y = 40 := by omega
                    clear hlty
                    go_wp2
                    go_roundw
                    case rel => exact ⟨x + 1, by omega, by simp, hB4⟩
                    case measure => simp [intOf]; omega
              · obtain rfl : x = 40 := by omega
                clear hltx
                go_wp2
                go_loopw [0, 16] (fun _ i wq => ∃ z : Nat, z ≤ 8 ∧ i = .int .i64 z ∧ Below W.heap.size W wq) (fun _ i _ => 8 - (intOf i).toNat)
                case atStart => exact ⟨0, by omega, rfl, hB4⟩
                case round =>
                  clear hB4
                  obtain ⟨z, hz8, rfl, hB4⟩ := hrel
                  by_cases hltz : z < 8
                  · have tz' : decide ((z : Int) < 8) = true := decide_eq_true (by omega)
                    have hBA : Below wA.heap.size wA wr := HGW.out.2.2.2.trans (hB4.mono HGW.out.2.2.2.size)
                    have hz : z < numList.length := hltz
                    have c0 := after_cell (obj_cell ((Fr.new hBA).obj HNM.out fun e => e) z (v := .int .i64 numList[z]) (by simp [hz]))
                    generalize numList[z] = nz at *
                    have obx := (Fr.new hB4).obj HGW.out.2.2.1 fun e => e
                    have v0 : ∀ p : After wr, p.w.cell? ⟨w5.heap.size, 0, none⟩ = some (.int .i64 3) := after_obj obx 0 rfl
                    have v1 : ∀ p : After wr, p.w.cell? ⟨w5.heap.size, 1, none⟩ = some (.slice (some ⟨B, 0, none⟩) 5 5) := after_obj obx 1 rfl
                    have v2 : ∀ p : After wr, p.w.cell? ⟨w5.heap.size, 2, none⟩ = some (.slice (some ⟨B + 1 + 1 + 1 + 1, 0, none⟩) 4 4) := after_obj obx 2 rfl
                    have HACT := Lib.hid fun (p : After wr) (k t : Int) => after_call p (HA.out k t p.w)
                    have hp1 := fun p : After wr => after_call p (picksLaw_any G nz ⟨1, 1⟩ ⟨2, 2⟩ _ p.w ((HGW.out.1.fr (Fr.new hB4)).fr (Fr.new p.ok)) HGW.out.2.1 ⟨by decide, by unfold i64; decide⟩ ⟨by decide, by unfold i64; decide⟩)
                    have hp2 := fun p : After wr => after_call p (picksLaw_any G nz ⟨3, 0⟩ ⟨2, 1⟩ _ p.w ((HGW.out.1.fr (Fr.new hB4)).fr (Fr.new p.ok)) HGW.out.2.1 ⟨by decide, by unfold i64; decide⟩ ⟨by decide, by unfold i64; decide⟩)
                    unfold entVal at hp1 hp2
                    have HP1 := Lib.hid hp1
                    have HP2 := Lib.hid hp2
                    have hne := after_ne wr
                    have HB4 := Lib.hid hB4
                    clear hp1 hp2 obx hBA hB4
                    go_wp2_with fail
                    refine wp_region_after wr (by kernel_rfl) (by kernel_rfl) (Below.refl _ _) ?_
                    repeat (go_big_quiet_step (first | (go_at_call 15; exact HACT.out _ _ _) | with_reducible exact HP1.out _ | with_reducible exact HP2.out _))
                    refine wpQuiet_nil ?_
                    intro _ hw'
                    obtain ⟨q, hw''⟩ := hw'
                    subst hw''
                    go_wp2
                    go_roundw
                    case rel => exact ⟨_, _, _, _, _, _, _, _, _, _, _, _, _, _, _, _, _, _, _, _, _, _, _, _, _, _, _, _, ⟨z + 1, by omega, by simp, HB4.out.trans (q.ok.mono HB4.out.size)⟩, rfl⟩
                    case measure => simp [intOf]; omega
                  · obtain rfl : z = 8 := by omega
                    clear hltz
                    go_wp2
                    go_roundw
                    case rel =>
                      exact ⟨_, _, _, _, _, _, _, _, _, _, _, _, _, _, _, _, _, _, _, _, _, _, _, _, _, _, _, _, _, _, _, _, _, _, _, _, _, _, _, _, _, _, _, _, _, _, _, _, _, _, _, _, _, _, _, _, _, _, _, _, _, _, _, _, _, _, _, _, _, _, _, _, _, _, _, _, _, _, _, _, _, _, _, _, _, _, _, _, _, _, _, _, _, _, _, _, _, _, _, _, _, _, _, _, _, _, _, _, _, _, _, _, _, _, _, _, _, _, _, _, _, _, _, _, ⟨m + 1, by omega, by simp, HGW.out.2.2.2.trans (hB4.mono HGW.out.2.2.2.size)⟩, rfl⟩
                    case measure => simp [intOf]; omega
        · obtain rfl : m = 16 := by omega
          have hAW := fun (x : World) => awake_any x
          have hpl := fun (x : World) => picksLaw_any ⟨0, [], []⟩ 0 ⟨2, 1⟩ ⟨2, 1⟩ _ x (gram_zero x) fits_zero ⟨by decide, by unfold i64; decide⟩ ⟨by decide, by unfold i64; decide⟩
          unfold entVal at hpl
          have HAW := Lib.hid hAW
          have HPL := Lib.hid hpl
          have HBR := Lib.hid (HB.out.trans (hB.mono HB.out.size))
          clear hAW hpl hB hlt
          go_wp2_with (first | (go_at_call 15; refine (HA.out _ _ _).mono ?_; rintro e w' ⟨rfl, hb⟩; have HBR := Lib.hid (HBR.out.trans (hb.mono HBR.out.size)); clear hb) | (go_at_call 3; refine (HPL.out _).mono ?_; rintro e w' ⟨rfl, hb⟩; have HBR := Lib.hid (HBR.out.trans (hb.mono HBR.out.size)); clear hb) | (go_at_call 10; refine (HAW.out _).mono ?_; rintro e w' ⟨rfl, hb⟩; have HBR := Lib.hid (HBR.out.trans (hb.mono HBR.out.size)); clear hb))
          go_ret
          exact ⟨rfl, HBR.out⟩
end Go.Proofs.Ytijdaihcogbliaa
