/-
  BitsJoins: what joins others has just the numbers that one of them has: the walk.
-/
import Derived.Test.YtlilegbdjnhfjaaDoorBits8
namespace Go.Proofs.YtlilegbdjnhfjaaDoor
open Go.RowKit Go.Shelf
set_option maxHeartbeats 400000

/-- The sets that are joined, and the two that join them. -/
structure JEnv (w3 : World) (S0 Ba Bb : Nat) (ps : List (Nat × Value)) (rows : List (List Int)) (pa : Nat) (va : Value) (pb : Nat) (vb : Value) : Prop where
  sets : ∀ (i : Nat) (p : Nat × Value) (r : List Int), ps[i]? = some p → rows[i]? = some r → PSet w3 S0 p.1 p.2 (rowB r) ∧ p.1 < Ba ∧ ∀ g, p.2.ownBlock = some g → g < Ba
  pa : Ba ≤ pa ∧ pa < Bb
  va : ∀ g, va.ownBlock = some g → Ba ≤ g ∧ g < Bb
  pb : Bb ≤ pb
  vb : ∀ g, vb.ownBlock = some g → Bb ≤ g
  tab : Tab w3
  tl : 0 < Ba
def chJ (va vb : Value) (g : Nat) : Prop := va.ownBlock = some g ∨ vb.ownBlock = some g
def JS (w3 : World) (Ba Bb pa : Nat) (va : Value) (pb : Nat) (vb : Value) (wq : World) (A C : List Bool) : Prop :=
  Fr (chJ va vb) w3 wq ∧ PSet wq Ba pa va A ∧ PSet wq Bb pb vb C
theorem JEnv.off {w3 : World} {S0 Ba Bb : Nat} {ps : List (Nat × Value)} {rows : List (List Int)} {pa pb : Nat} {va vb : Value} (E : JEnv w3 S0 Ba Bb ps rows pa va pb vb) {g : Nat} (h : g < Ba) : ¬ chJ va vb g := fun e => by
  have hb := E.pa
  rcases e with e | e
  · have := E.va g e; omega
  · have := E.vb g e; omega
theorem JS.set {w3 wq : World} {S0 Ba Bb : Nat} {ps : List (Nat × Value)} {rows : List (List Int)} {pa pb : Nat} {va vb : Value} {A C : List Bool} (E : JEnv w3 S0 Ba Bb ps rows pa va pb vb) (h : JS w3 Ba Bb pa va pb vb wq A C) {i : Nat} {p : Nat × Value} {r : List Int} (hp : ps[i]? = some p) (hr : rows[i]? = some r) : PSet wq S0 p.1 p.2 (rowB r) := by
  obtain ⟨h1, h2, h3⟩ := E.sets i p r hp hr
  exact h1.fr h.1 (E.off h2) fun g e => E.off (h3 g e)
theorem JS.a {w3 wq : World} {S0 Ba Bb : Nat} {ps : List (Nat × Value)} {rows : List (List Int)} {pa pb : Nat} {va vb : Value} {A C : List Bool} (E : JEnv w3 S0 Ba Bb ps rows pa va pb vb) (h : JS w3 Ba Bb pa va pb vb wq A C) {i : Nat} {p : Nat × Value} {r : List Int} (hp : ps[i]? = some p) (hr : rows[i]? = some r) :
    Calls Tryd.prog 16 #[.pointer (some ⟨pa, 0, none⟩), ptrV p] wq fun e w' => e = .returned (.bool (newB A (trues (rowB r)))) ∧ JS w3 Ba Bb pa va pb vb w' (orB A (trues (rowB r))) C ∧ Fr (chJ va vb) wq w' := by
  obtain ⟨_, h2, h3⟩ := E.sets i p r hp hr
  have hpa := E.pa
  have hpb := E.pb
  refine (pJoin wq _ _ _ _ h.2.1 _ _ _ _ (h.set E hp hr) (fun e => by omega) (fun _ g e e' => by have := E.va g e; have := h3 g e'; omega) (E.tab.fr h.1 (E.off E.tl)) (fun e => by have := E.va _ e; have := E.tl; omega)).mono ?_
  rintro e w' ⟨rfl, hA, hF⟩
  exact ⟨rfl, ⟨h.1.trans (hF.mono fun g _ e => .inl e.2), hA, h.2.2.fr hF (fun e => by have := E.va _ e.2; omega) (fun g e e' => by have := E.va _ e'.2; have := E.vb _ e; omega)⟩, hF.mono fun g _ e => .inl e.2⟩
theorem JS.b {w3 wq : World} {S0 Ba Bb : Nat} {ps : List (Nat × Value)} {rows : List (List Int)} {pa pb : Nat} {va vb : Value} {A C : List Bool} (E : JEnv w3 S0 Ba Bb ps rows pa va pb vb) (h : JS w3 Ba Bb pa va pb vb wq A C) {i : Nat} {p : Nat × Value} {r : List Int} (hp : ps[i]? = some p) (hr : rows[i]? = some r) :
    Calls Tryd.prog 16 #[.pointer (some ⟨pb, 0, none⟩), ptrV p] wq fun e w' => e = .returned (.bool (newB C (trues (rowB r)))) ∧ JS w3 Ba Bb pa va pb vb w' A (orB C (trues (rowB r))) ∧ Fr (chJ va vb) wq w' := by
  obtain ⟨_, h2, h3⟩ := E.sets i p r hp hr
  have hpa := E.pa
  have hpb := E.pb
  refine (pJoin wq _ _ _ _ h.2.2 _ _ _ _ (h.set E hp hr) (fun e => by omega) (fun _ g e e' => by have := E.vb g e; have := h3 g e'; omega) (E.tab.fr h.1 (E.off E.tl)) (fun e => by have := E.vb _ e; have := E.tl; omega)).mono ?_
  rintro e w' ⟨rfl, hA, hF⟩
  exact ⟨rfl, ⟨h.1.trans (hF.mono fun g _ e => .inr e.2), h.2.1.fr hF (fun e => by have := E.vb _ e.2; omega) (fun g e e' => by have := E.vb _ e'.2; have := E.va _ e; omega), hA⟩, hF.mono fun g _ e => .inr e.2⟩

set_option maxRecDepth 100000 in
set_option maxHeartbeats 4000000 in
theorem bitsJoins_any (u v : Value) (rows : List (List Int)) (order : List Int) (w : World) (hx : IntRows w u rows) (hy : Ints w v order) (hT : Tab w) :
    Calls Tryd.prog 5 #[u, v] w fun e w' => e = .returned (.bool true) ∧ Below w.heap.size w w' := by
  have HA := Lib.hid (awake_any w hT)
  have HY := Lib.hid hy
  have HT := Lib.hid hT
  have hgl : 0 < w.heap.size := World.block_lt_of_cell? w _ (hT 0 (by omega))
  obtain ⟨ar, cr, rfl, hrl, hrows⟩ := hx
  have HR := Lib.hid hrows
  obtain ⟨ao, co, rfl, hol, _⟩ := hy.parts
  clear hy hT hrows
  by_cases g1 : 20 < rows.length
  · go_enter Tryd.func5, Tryd.ntmps5
    go_wp2_with (go_at_call 7; refine HA.out.mono ?_; rintro e w1 ⟨rfl, hB1⟩)
    go_ret
    exact ⟨rfl, hB1⟩
  · by_cases g2 : 100 < order.length
    · go_enter Tryd.func5, Tryd.ntmps5
      go_wp2_with (go_at_call 7; refine HA.out.mono ?_; rintro e w1 ⟨rfl, hB1⟩)
      go_ret
      exact ⟨rfl, hB1⟩
    · obtain ⟨i0, hi, hz0, hz1, hz2⟩ := info_parts Tryd.infoBool
      obtain ⟨j0, hj, hy0, hy1, hy2⟩ := info_parts Tryd.infoSetP
      obtain ⟨K, hK⟩ : ∃ K : Nat, K = 300 := ⟨_, rfl⟩
      go_enter Tryd.func5, Tryd.ntmps5
      go_wp2_with (first | (go_at_call 7; refine HA.out.mono ?_; rintro e w1 ⟨rfl, hB1⟩) | (at_make; refine wpList_make_full _ rfl _ _ 31 rfl w1.heap.size 4 i0 (.bool false) 1 Tryd.underlying31 hi hz0 hz1 .i64 .i64 _ _ 300 rfl rfl rfl rfl (by rw [hz2]; omega) (by unfold maxLen; omega) (Nat.le_refl _) ?_; intro W hown hgrow))
      have hb0 := made_bools hown
      have hB0 : Below w.heap.size w W := hB1.grown hgrow hB1.size (fun k e => by cases e)
      obtain ⟨ib, hib⟩ : ∃ ib, ib = w1.heap.size := ⟨_, rfl⟩
      have hibl : ib < W.heap.size := (Array.getElem?_eq_some_iff.1 (hib ▸ hb0)).1
      have hibw : w.heap.size ≤ ib := by rw [hib]; exact hB1.size
      rw [← hib] at hb0
      rw [← hib]
      obtain ⟨S0, hS0⟩ : ∃ S0, S0 = W.heap.size := ⟨_, rfl⟩
      rw [← hS0] at hibl
      have hSW : S0 ≤ W.heap.size := by omega
      clear hown hgrow hib hB1 w1 HA hS0
      go_loopw [6, 7] (fun sv i wr => ∃ (k : Nat) (ps : List (Nat × Value)), k ≤ rows.length ∧ i = .int .i64 k ∧ SetsI wr S0 ps (rows.take k) ∧ wr.ownsRow S0 33 1 sv k (ps.map ptrV) ∧ wr.heap[ib]? = some (boolsObj (isB (rows.take k))) ∧ Below w.heap.size w wr ∧ S0 ≤ wr.heap.size)
        (fun _ i _ => rows.length - (intOf i).toNat)
      case atStart => exact ⟨0, [], Nat.zero_le _, rfl, ⟨rfl, fun i p r h => by simp at h⟩, World.ownsRow_nil _ _ _ _, hb0, hB0, hSW⟩
      case round =>
        obtain ⟨k, ps, hk, rfl, hS, hO, hI, hB, hSz⟩ := hrel
        clear hB0 hb0
        by_cases hlt : k < rows.length
        · have hpl : ps.length = k := by have := hS.1; rw [List.length_take] at this; omega
          have htk : rows.take (k + 1) = rows.take k ++ [rows[k]] := by rw [List.take_add_one, List.getElem?_eq_getElem hlt]; rfl
          obtain ⟨b, o, x, rfl, hcx0, hxi0⟩ := HR.out k hlt
          have hbw := World.block_lt_of_cell? w _ hcx0
          have hcx := (hB.cell (p := ⟨b, o + k, none⟩) hbw).trans hcx0
          have HXC := Lib.hid hcx0
          have HXK := Lib.hid hxi0
          have hxi := hxi0
          clear hcx0 hxi0
          obtain ⟨ax, cx, rfl, hxl, _⟩ := hxi.parts
          clear hxi
          by_cases hbig : 300 < rows[k].length
          · clear hS hO hI
            generalize rows[k] = row at *
            go_wp2
            go_ret
            exact ⟨rfl, hB⟩
          · have HNEW := Lib.hid (pNew 300 wr (by omega))
            have HS := Lib.hid hS
            have HO := Lib.hid hO
            have HI := Lib.hid hI
            have HTK := Lib.hid htk
            clear hS hO hI htk
            generalize rows[k] = row at *
            have hb3 : decide (300 < (row.length : Int)) = false := decide_eq_false (by omega)
            have hrow3 : row.length ≤ 300 := by omega
            clear hbig
            go_wp2_with (go_at_call 13; refine HNEW.out.mono ?_; rintro e w2 ⟨p, vv, rfl, hP2, hB2⟩)
            have hPg := hP2.ge
            have HP2 := Lib.hid hP2
            have HI2 := Lib.hid ((Fr.new hB2).obj HI.out fun e => e)
            have HBw2 := Lib.hid (hB.trans (hB2.mono hB.size))
            generalize hA : wr = wA at *
            clear hA hcx hP2
            go_loopw [9] (fun i wr => ∃ m : Nat, m ≤ row.length ∧ i = .int .i64 m ∧ PSet wr wA.heap.size p vv (rowB (row.take m)) ∧ wr.heap[ib]? = some (boolsObj (isB (rows.take k ++ [row.take m]))) ∧ Below w.heap.size w wr ∧ Fr (fun g => g = ib ∨ vv.ownBlock = some g) w2 wr)
              (fun i _ => row.length - (intOf i).toNat)
            case atStart => exact ⟨0, Nat.zero_le _, rfl, HP2.out, by rw [List.take_zero, isB_nil]; exact HI2.out, HBw2.out, Fr.refl _ _⟩
            case round =>
              obtain ⟨m, hm, rfl, hP, hI, hB', hF⟩ := hrel
              have hB2' := Lib.hid hB2
              clear hB hB2
              have hcx := (hB'.cell (p := ⟨b, o + k, none⟩) hbw).trans HXC.out
              obtain ⟨hrange, hrl', a2, c2, he, _, _, hcs⟩ := HXK.out
              cases he
              by_cases hltm : m < row.length
              · obtain ⟨b2, o2, rfl, hcs2⟩ : ∃ b2 o2, ax = some ⟨b2, o2, none⟩ ∧ Cells w b2 o2 (row.map (Value.int .i64)) := by
                  rcases hcs with rfl | h
                  · simp at hltm
                  · exact h
                have hc2 : wr.cell? ⟨b2, o2 + m, none⟩ = some (.int .i64 row[m]) := by
                  have h0 := hcs2 m (by simpa using hltm)
                  rw [List.getElem_map] at h0
                  exact (hB'.cell (p := ⟨b2, o2 + m, none⟩) (World.block_lt_of_cell? w _ h0)).trans h0
                have hxr := hrange _ (List.getElem_mem hltm)
                have htm : row.take (m + 1) = row.take m ++ [row[m]] := by rw [List.take_add_one, List.getElem?_eq_getElem hltm]; rfl
                have e1 : rowB (row.take (m + 1)) = addB (rowB (row.take m)) (pickN 300 row[m] : Nat) := by rw [htm, rowB_snoc]
                have e2 : isB (rows.take k ++ [row.take (m + 1)]) = (isB (rows.take k ++ [row.take m])).set (pickN 300 row[m]) true := by rw [htm, isB_snoc]
                generalize row[m] = y at *
                have HPK := Lib.hid (pick_any y 300 (by omega) (by omega) wr hxr)
                have hpk := pickN_lt 300 y (by omega)
                generalize pickN 300 y = z at *
                have HAD := Lib.hid (pAdd wr _ p vv _ hP z)
                have hibP : vv.ownBlock ≠ some ib := fun e => by have := hPg.2 _ e; omega
                have HI' := Lib.hid hI
                have HE := Lib.hid (And.intro e1 e2)
                have HF := Lib.hid (And.intro hB' hF)
                have hvg : ∀ g, vv.ownBlock = some g → w.heap.size ≤ g := fun g e => by have := hPg.2 _ e; omega
                clear hI hP e1 e2 hB' hF hcs hcs2 htm hxr hrange
                go_wp2_with (first | (go_at_call 14; refine HPK.out.mono ?_; rintro e w' ⟨rfl, rfl⟩) | (go_at_call 15; refine HAD.out.mono ?_; rintro e w3 ⟨rfl, hP3, hF3⟩; have hI3 := hF3.obj HI'.out (fun e => hibP e.2); have hf3 := obj_frozen hI3 z; have hc3 := bools_cell hI3 z (by rw [isB_len]; exact hpk)))
                have hset : Fr (only ib) w3 (w3.setCell ⟨ib, z, none⟩ (.bool true)) := Fr.setCell _ ⟨ib, z, none⟩ _
                have hF3' : Fr (fun g => g = ib ∨ vv.ownBlock = some g) wr (w3.setCell ⟨ib, z, none⟩ (.bool true)) := (hF3.mono fun _ _ e => .inr e.2).trans (hset.mono fun _ _ e => .inl e)
                go_roundw
                case rel =>
                  exact ⟨m + 1, by omega, by simp, by rw [HE.out.1]; exact hP3.fr hset (fun e => by have e' : p = ib := e; have := hPg.1; omega) (fun g e e' => by have e'' : g = ib := e'; exact hibP (e'' ▸ e)),
                    by rw [HE.out.2]; exact bools_set hI3 _ _, HF.out.1.trans (hF3'.below HF.out.1.size fun g e => e.elim (fun e => by rw [e]; exact hibw) (hvg g)), HF.out.2.trans hF3'⟩
                case measure => simp [intOf]; omega
              · obtain rfl : m = row.length := by omega
                rw [List.take_of_length_le (Nat.le_refl _)] at hP hI
                have hAw : wA.heap.size ≤ w2.heap.size := hB2'.out.size
                have hwr : wA.heap.size ≤ wr.heap.size := Nat.le_trans hAw hF.size
                rw [← HTK.out] at hI
                have hFA : Fr (only ib) wA wr := ((Fr.new hB2'.out).wide.trans hF).mono fun g hg e => e.elim (fun e => e) fun e => by have := hPg.2 _ e; omega
                have hS3 := HS.out.fr hFA fun p v bs h => ⟨fun e => by have e' : p = ib := e; have := h.ge.1; omega, fun g e e' => by have e'' : g = ib := e'; have := h.ge.2 g e; omega⟩
                have hO3 := own_fr HO.out hFA fun g e e' => by have e'' : g = ib := e'; have := (HO.out.lt g e).1; omega
                have hS4 := hS3.snoc (p, vv) row (hP.weaken hSz)
                have hpn : pickN 0 0 = pickN 0 0 := rfl
                have HS4 := Lib.hid hS4
                have HI4 := Lib.hid hI
                have HB4 := Lib.hid hB'
                clear hltm HXK hcs hrange hF hS3 hS4 hI hB' hpn hP HP2 HI2 HBw2 HS HO HI HNEW
                go_wp2_with (at_builtin; refine wpList_append_own _ rfl _ _ 32 rfl S0 33 j0 (.pointer none) 1 8 Tryd.underlying32 hj hy0 hy1 hy2 rfl (by decide) _ _ _ rfl (hO3.alloc _) ⟨wr.heap.size, 0, none⟩ 1 1 [.pointer (some ⟨p, 0, none⟩)] rfl rfl (cell_one_new _ _ _) (by simp [Value.oneCell']) (by unfold maxLen; omega) (by omega) (by simp; omega) ?_; intro v' w4 hown4 hgrow _)
                have hFa : Fr (fun g => u6.ownBlock = some g) wr (wr.alloc (.cells #[.pointer (some ⟨p, 0, none⟩)] 33)) := Fr.alloc _ _
                have hF4 : Fr (fun g => u6.ownBlock = some g) wr w4 := hFa.trans (Fr.grown hgrow)
                have hog := hO3.lt
                go_roundw
                case rel =>
                  exact ⟨k + 1, ps ++ [(p, vv)], by omega, by simp, by rw [HTK.out]; exact HS4.out.fr hF4 fun p v bs h => (h.off hO3 (by decide) (by decide)),
                    by rw [List.map_append]; exact hown4, hF4.obj HI4.out (fun e => by have := (hog _ e).1; omega), HB4.out.trans (hF4.below HB4.out.size fun g e => by have := (hog _ e).1; omega), Nat.le_trans hSz (Nat.le_trans hwr hF4.size)⟩
                case measure => simp [intOf]; omega
        · obtain rfl : k = rows.length := by omega
          rw [List.take_of_length_le (Nat.le_refl _)] at hS hI
          have hpl := hS.1
          have HS := Lib.hid hS
          have HO := Lib.hid hO
          have HI := Lib.hid hI
          have hog := hO.lt
          have HN1 := Lib.hid (pNew 300 wr (by omega))
          have HN2 := Lib.hid fun w => pNew 300 w (by omega)
          clear hlt hS hO hI hSW hi hz0 hz1 hz2 hj hy0 hy1 hy2
          go_wp2_with (go_at_call 13; refine (HN2.out _).mono ?_; first | (clear HN1; rintro e w2 ⟨pa, va, rfl, hPa, hB2⟩) | (rintro e w3 ⟨pb, vb, rfl, hPb, hB3⟩))
          have hPa3 := hPa.fresh (Fr.new hB3)
          have hF3 : Fr nothing wr w3 := (Fr.new hB2).trans (Fr.new hB3)
          have hE : JEnv w3 S0 wr.heap.size w2.heap.size ps rows pa va pb vb :=
            ⟨fun i p r h1 h2 => by
                have hs := HS.out.2 i p r h1 h2
                exact ⟨hs.fresh hF3, hs.lt.1, hs.lt.2⟩,
              ⟨hPa.ge.1, hPa.lt.1⟩, fun g e => ⟨hPa.ge.2 g e, hPa.lt.2 g e⟩, hPb.ge.1, fun g e => hPb.ge.2 g e, (HT.out.fr (Fr.new (hB.trans (hF3.below_new.mono hB.size))) (fun e => e)), by have := hB.size; omega⟩
          have hJ0 : JS w3 wr.heap.size w2.heap.size pa va pb vb w3 (zeros 300) (zeros 300) := ⟨Fr.refl _ _, hPa3, hPb⟩
          have hI3 := hF3.obj HI.out (fun e => e)
          have hO3 := own_fr HO.out hF3 fun _ _ e => e
          have hBw3 : Below w.heap.size w w3 := hB.trans (hF3.below_new.mono hB.size)
          obtain ⟨a6, c6, rfl, _, _, hx6⟩ := own_as_cells hO3
          have hg6 : ∀ g, a6 = some ⟨g, 0, none⟩ → g < wr.heap.size := fun g e => (hog g (by rw [e]; rfl)).2
          have hib6 : ib < wr.heap.size := by omega
          have hBaw := hB.size
          clear HS HO HI HN2 hog hPa hPb hPa3 hB2 hB3 hF3 hO3
          obtain ⟨Ba, hBa⟩ : ∃ Ba, Ba = wr.heap.size := ⟨_, rfl⟩
          obtain ⟨Bb, hBb⟩ : ∃ Bb, Bb = w2.heap.size := ⟨_, rfl⟩
          rw [← hBa, ← hBb] at hE hJ0
          rw [← hBa] at hg6 hib6 hBaw
          clear hBa hBb hB hSz
          generalize hw3 : w3 = wC at *
          clear hw3
          obtain ⟨I, hIs⟩ : ∃ I, I = isB rows := ⟨_, rfl⟩
          have hIl : I.length = 300 := by rw [hIs, isB_len]
          have HSUB := Lib.hid (fun (r : List Int) (h : r ∈ rows) => (hIs ▸ rowB_sub h : Sub (rowB r) I))
          have HALL := Lib.hid (fun (a : List Bool) (h : ∀ r ∈ rows, Sub (rowB r) a) => (hIs ▸ isB_sub h : Sub I a))
          rw [← hIs] at hI3
          have HE := Lib.hid hE
          have HI3 := Lib.hid hI3
          have HJ0 := Lib.hid hJ0
          have HX6 := Lib.hid hx6
          have HG6 := Lib.hid hg6
          have HBC := Lib.hid hBw3
          clear hE hI3 hJ0 hx6 hg6 hBw3 hIs
          have hfrB : ∀ (wq : World) (A C : List Bool), JS wC Ba Bb pa va pb vb wq A C → Below w.heap.size w wq := fun wq A C h => HBC.out.trans (h.1.below HBC.out.size fun g e => Nat.le_of_not_lt fun hl => HE.out.off (by omega) e)
          have HFB := Lib.hid hfrB
          have hset : ∀ (wq : World) (A C : List Bool), JS wC Ba Bb pa va pb vb wq A C → ∀ i, (hi : i < rows.length) → ∃ (g6 : Nat) (p : Nat × Value), a6 = some ⟨g6, 0, none⟩ ∧ wq.cell? ⟨g6, i, none⟩ = some (ptrV p) ∧ ps[i]? = some p ∧ rows[i]? = some rows[i] := by
            intro wq A C h i hi
            have hps : i < ps.length := by omega
            rcases HX6.out with h0 | ⟨g6, hg, _, hc⟩
            · simp at h0; rw [h0] at hps; simp at hps
            · refine ⟨g6, ps[i], hg, ?_, List.getElem?_eq_getElem hps, List.getElem?_eq_getElem hi⟩
              have h1 := hc i (by simpa using hps)
              rw [List.getElem_map, Nat.zero_add] at h1
              exact h.1.cell h1 (HE.out.off (HG6.out g6 hg))
          have HSET := Lib.hid hset
          clear hfrB hset
          go_loopw [13] (fun i wr => ∃ (m : Nat) (A : List Bool), m ≤ order.length ∧ i = .int .i64 m ∧ A.length = 300 ∧ Sub A I ∧ JS wC Ba Bb pa va pb vb wr A (zeros 300))
            (fun i _ => order.length - (intOf i).toNat)
          case atStart => exact ⟨0, _, Nat.zero_le _, rfl, zeros_len 300, sub_zeros 300 I, HJ0.out⟩
          case round =>
            obtain ⟨m, A, hm, rfl, hAl, hAs, hJ⟩ := hrel
            have HJ := Lib.hid hJ
            have HAS := Lib.hid hAs
            clear hJ hAs HJ0
            by_cases hltm : m < order.length ∧ 0 < rows.length
            · obtain ⟨hltm, hn0⟩ := hltm
              obtain ⟨b2, o2, rfl, hcs⟩ : ∃ b o, ao = some ⟨b, o, none⟩ ∧ Cells w b o (order.map (Value.int .i64)) := by
                obtain ⟨_, _, a2, c2, he, _, _, hcs⟩ := HY.out
                cases he
                rcases hcs with rfl | h
                · simp at hltm
                · exact h
              have hc2 : wr.cell? ⟨b2, o2 + m, none⟩ = some (.int .i64 order[m]) := by
                have h0 := hcs m (by simpa using hltm)
                rw [List.getElem_map] at h0
                exact ((HFB.out _ _ _ HJ.out).cell (p := ⟨b2, o2 + m, none⟩) (World.block_lt_of_cell? w _ h0)).trans h0
              have hyr := HY.out.1 _ (List.getElem_mem hltm)
              generalize order[m] = y at *
              have HPK := Lib.hid (pick_any y rows.length hn0 (by omega) wr hyr)
              have hpk := pickN_lt rows.length y hn0
              generalize pickN rows.length y = z at *
              obtain ⟨g6, p, rfl, hc6, hp6, hr6⟩ := HSET.out _ _ _ HJ.out z hpk
              have HJA := Lib.hid (JS.a HE.out HJ.out hp6 hr6)
              have hsz : Sub (rowB rows[z]) I := HSUB.out _ (List.getElem_mem hpk)
              have hszl := rowB_len rows[z]
              have HSZ := Lib.hid hsz
              have ht1 : decide ((m : Int) < order.length) = true := decide_eq_true (by omega)
              have ht2 : decide ((0 : Int) < rows.length) = true := decide_eq_true (by omega)
              clear hcs hyr hp6 hr6 hsz
              go_wp2_with (first | (go_at_call 14; refine HPK.out.mono ?_; rintro e w' ⟨rfl, rfl⟩) | (go_at_call 16; refine HJA.out.mono ?_; rintro e w4 ⟨rfl, hJ4, _⟩))
              go_roundw
              case rel => exact ⟨m + 1, _, by omega, by simp, by rw [orB_len]; exact hAl, sub_join (by omega) HAS.out HSZ.out, hJ4⟩
              case measure => simp [intOf]; omega
            · have HNO := Lib.hid hltm
              have HJS := Lib.hid (show ∃ A, A.length = 300 ∧ Sub A I ∧ JS wC Ba Bb pa va pb vb wr A (zeros 300) from ⟨A, hAl, HAS.out, HJ.out⟩)
              have hend : (¬ m < order.length) ∨ (m < order.length ∧ ¬ 0 < rows.length) := by
                rcases Nat.lt_or_ge m order.length with h | h
                · exact .inr ⟨h, fun h0 => hltm ⟨h, h0⟩⟩
                · exact .inl (by omega)
              clear hltm hAl HAS HNO
              have hend4 := hend
              clear hend
              rcases hend4 with ht1 | ⟨ht1, ht2⟩ <;> go_wp2
              all_goals
                clear ht1
                try clear ht2
                have HJ5 := Lib.hid (show ∃ A, A.length = 300 ∧ Sub A I ∧ JS wC Ba Bb pa va pb vb wr A (zeros 300) from HJS.out)
                clear HJS HJ
                generalize hwD : wr = wD at *
                clear hwD
                go_loopw [14] (fun i wr => ∃ (m : Nat) (A C : List Bool), m ≤ rows.length ∧ i = .int .i64 m ∧ A.length = 300 ∧ C.length = 300 ∧ Sub A I ∧ Sub C I ∧ (∀ j, (hj : j < rows.length) → j < m → Sub (rowB rows[j]) A) ∧ (∀ j, (hj : j < rows.length) → rows.length - m ≤ j → Sub (rowB rows[j]) C) ∧ JS wC Ba Bb pa va pb vb wr A C)
                  (fun i _ => rows.length - (intOf i).toNat)
                case atStart =>
                  obtain ⟨A, h1, h2, h3⟩ := HJ5.out
                  exact ⟨0, A, _, Nat.zero_le _, rfl, h1, zeros_len 300, h2, sub_zeros 300 I, fun j _ h => by omega, fun j hj h => by omega, h3⟩
                case round =>
                  obtain ⟨m, A, C, hm, rfl, hAl, hCl, hAs, hCs, hAa, hCa, hJ⟩ := hrel
                  clear HJ5
                  have HJ := Lib.hid hJ
                  have HS4 := Lib.hid (And.intro hAs (And.intro hCs (And.intro hAa hCa)))
                  clear hJ hAs hCs hAa hCa
                  by_cases hlt : m < rows.length
                  · obtain ⟨z, hz⟩ : ∃ z : Nat, z + m + 1 = rows.length := ⟨rows.length - 1 - m, by omega⟩
                    have hzi : (rows.length : Int) - 1 - (m : Int) = (z : Int) := by omega
                    have hzl : z < rows.length := by omega
                    obtain ⟨g6, p, rfl, hc6, hp6, hr6⟩ := HSET.out _ _ _ HJ.out m hlt
                    have HJA := Lib.hid (JS.a HE.out HJ.out hp6 hr6)
                    have ht1 : decide ((m : Int) < rows.length) = true := decide_eq_true (by omega)
                    clear hp6 hr6
                    go_wp2_with (go_at_call 16; first | (refine HJA.out.mono ?_; clear HJA; rintro e w4 ⟨rfl, hJ4, _⟩; obtain ⟨g7, q, hg7, hc7, hq7, hr7⟩ := HSET.out _ _ _ hJ4 z hzl; cases hg7; have HJB := Lib.hid (JS.b HE.out hJ4 hq7 hr7); clear hq7 hr7) | (refine HJB.out.mono ?_; clear HJB; rintro e w5 ⟨rfl, hJ5, _⟩))
                    go_roundw
                    case rel =>
                      have hm1 := HSUB.out _ (List.getElem_mem hlt)
                      have hz1 := HSUB.out _ (List.getElem_mem hzl)
                      have hl1 := rowB_len rows[m]
                      have hl2 := rowB_len rows[z]
                      refine ⟨m + 1, _, _, by omega, by simp, by rw [orB_len]; exact hAl, by rw [orB_len]; exact hCl, sub_join (by omega) HS4.out.1 hm1, sub_join (by omega) HS4.out.2.1 hz1, fun j hj h => ?_, fun j hj h => ?_, hJ5⟩
                      · rcases Nat.lt_or_ge j m with hjm | hjm
                        · exact (HS4.out.2.2.1 j hj hjm).trans (join_old (by omega))
                        · obtain rfl : j = m := by omega
                          exact join_new (by omega)
                      · rcases Nat.lt_or_ge z j with hjz | hjz
                        · exact (HS4.out.2.2.2 j hj (by omega)).trans (join_old (by omega))
                        · obtain rfl : j = z := by omega
                          exact join_new (by omega)
                    case measure => simp [intOf]; omega
                  · obtain rfl : m = rows.length := by omega
                    have hA : A = I := sub_eq (by omega) HS4.out.1 (HALL.out _ fun r hr => by obtain ⟨j, hj, rfl⟩ := List.mem_iff_getElem.1 hr; exact HS4.out.2.2.1 j hj hj)
                    have hC : C = I := sub_eq (by omega) HS4.out.2.1 (HALL.out _ fun r hr => by obtain ⟨j, hj, rfl⟩ := List.mem_iff_getElem.1 hr; exact HS4.out.2.2.2 j hj (by omega))
                    rw [hA, hC] at HJ
                    clear hlt hA hC hAl hCl HS4
                    generalize hwE : wr = wE at *
                    clear hwE
                    have hibE : wE.heap[ib]? = some (boolsObj I) := HJ.out.1.obj HI3.out (HE.out.off hib6)
                    have hBE := HFB.out _ _ _ HJ.out
                    have HIE := Lib.hid hibE
                    have HBE := Lib.hid hBE
                    obtain ⟨i0, hi, hz0, hz1, hz2⟩ := info_parts Tryd.infoInt
                    clear hibE hBE
                    go_wp2
                    go_loopw [15, 16] (fun wv i wr => ∃ m : Nat, m ≤ 300 ∧ i = .int .i64 m ∧ wr.ownsRow wE.heap.size 3 1 wv (wantTo I m).length ((wantTo I m).map fun x : Nat => Value.int .i64 (x : Int)) ∧ Below wE.heap.size wE wr)
                      (fun _ i _ => 300 - (intOf i).toNat)
                    case atStart => exact ⟨0, Nat.zero_le _, rfl, World.ownsRow_nil _ _ _ _, Below.refl _ _⟩
                    case round =>
                      obtain ⟨m, hm, rfl, hO, hB⟩ := hrel
                      by_cases hlt : m < 300
                      · have hcm := bools_cell ((Fr.new hB).obj HIE.out fun e => e) m (by omega)
                        have hws := wantTo_succ I m
                        have hwl := wantTo_len I m
                        have hHas : hasB I (m : Int) = I[m]?.getD false := by
                          unfold hasB
                          rw [decide_eq_true (show (0 : Int) ≤ m by omega), decide_eq_true (show (m : Int) < I.length by omega), Bool.true_and, Bool.true_and, Int.toNat_natCast]
                        cases hbit : I[m]?.getD false
                        · rw [hbit] at hcm hHas hws
                          rw [if_neg (by simp)] at hws
                          have HPH := Lib.hid fun n => hHas ▸ pHas (wr.drewN n) _ _ _ _ ((HJ.out.2.1.fresh (Fr.new hB)).fresh (Fr.drewN _ _)) (m : Int)
                          have HOO := Lib.hid (And.intro hO hB)
                          have HWS := Lib.hid hws
                          clear hO hB hws hHas hbit
                          go_wp2
                          go_quiet ((go_at_call 17; exact Calls.quiet_of_same ((HPH.out _).mono fun _ _ ⟨he, hw⟩ => ⟨he, hw.symm⟩)))
                          go_wp2
                          go_roundw
                          case rel => exact ⟨m + 1, by omega, by simp, by rw [HWS.out]; exact own_fr HOO.out.1 (Fr.drewN (ch := nothing) wr nq) fun _ _ e => e, HOO.out.2.trans ((Fr.drewN (ch := nothing) wr nq).below_new.mono HOO.out.2.size)⟩
                          case measure => simp [intOf]; omega
                        · rw [hbit] at hcm hHas hws
                          rw [if_pos rfl] at hws
                          have HWS := Lib.hid hws
                          have HBIT := Lib.hid hbit
                          have hogB := hO.lt
                          have HPHF := Lib.hid fun W' (h : Fr nothing wE W') => hHas ▸ pHas W' _ _ _ _ (HJ.out.2.1.fresh h) (m : Int)
                          have HB := Lib.hid hB
                          clear hws hHas hbit hB
                          go_wp2_with (at_builtin; refine wpList_append_own _ rfl _ _ 22 rfl wE.heap.size 3 i0 (.int .i64 0) 1 8 Tryd.underlying22 hi hz0 hz1 hz2 rfl (by decide) _ _ _ rfl (hO.alloc _) ⟨wr.heap.size, 0, none⟩ 1 1 [.int .i64 (m : Int)] rfl rfl (cell_one_new _ _ _) (by simp [Value.oneCell']) (by unfold maxLen; omega) (by omega) (by have := HB.out.size; simp; omega) ?_; intro v' w4 hown4 hgrow _)
                          have hF4 : Fr (fun g => u15.ownBlock = some g) wr w4 := (Fr.alloc _ _).trans (Fr.grown hgrow)
                          have hB4 : Below wE.heap.size wE w4 := HB.out.trans (hF4.below HB.out.size fun g e => (hogB g e).1)
                          have hcm4 := bools_cell ((Fr.new hB4).obj HIE.out fun e => e) m (by omega)
                          rw [HBIT.out] at hcm4
                          have HPH := Lib.hid fun n => HPHF.out (w4.drewN n) ((Fr.new hB4).trans (Fr.drewN _ _))
                          have HB4 := Lib.hid hB4
                          have HO4 := Lib.hid hown4
                          clear HPHF hB4 hown4 hF4 hgrow HB HBIT
                          go_quiet ((go_at_call 17; exact Calls.quiet_of_same ((HPH.out _).mono fun _ _ ⟨he, hw⟩ => ⟨he, hw.symm⟩)))
                          go_wp2
                          go_roundw
                          case rel =>
                            refine ⟨m + 1, by omega, by simp, ?_, HB4.out.trans ((Fr.drewN (ch := nothing) w4 nq).below_new.mono HB4.out.size)⟩
                            rw [HWS.out, List.length_append, List.map_append]
                            exact own_fr HO4.out (Fr.drewN (ch := nothing) w4 nq) fun _ _ e => e
                          case measure => simp [intOf]; omega
                      · have hm300 : m = 300 := by omega
                        have hall : wantTo I m = trues I := by rw [hm300, ← hIl]; exact wantTo_all I
                        rw [hall] at hO
                        have hJF : JS wC Ba Bb pa va pb vb wr I I := ⟨HJ.out.1.trans (Fr.new hB).wide, HJ.out.2.1.fresh (Fr.new hB), HJ.out.2.2.fresh (Fr.new hB)⟩
                        have hnoJ : ∀ g, wE.heap.size ≤ g → ¬ chJ va vb g := fun g hg e => by
                          rcases e with e | e
                          · have := HJ.out.2.1.lt.2 g e; omega
                          · have := HJ.out.2.2.lt.2 g e; omega
                        have HNO := Lib.hid hnoJ
                        have HJF := Lib.hid hJF
                        have HO := Lib.hid hO
                        have hEF := hB.size
                        clear hall hO hJF hnoJ hB HJ HIE HBE hi hz0 hz1 hz2 hm300
                        generalize hwF : wr = wF at *
                        clear hwF
                        go_wp2
                        clear hlt hm
                        go_loopw [17] (fun i wr => ∃ m : Nat, m ≤ rows.length ∧ i = .int .i64 m ∧ JS wC Ba Bb pa va pb vb wr I I ∧ Fr (chJ va vb) wF wr)
                          (fun i _ => rows.length - (intOf i).toNat)
                        case atStart => exact ⟨0, Nat.zero_le _, rfl, HJF.out, Fr.refl _ _⟩
                        case round =>
                          obtain ⟨m, hm, rfl, hJ, hF⟩ := hrel
                          by_cases hlt : m < rows.length
                          · obtain ⟨g6, p, rfl, _, hp6, hr6⟩ := HSET.out _ _ _ hJ m hlt
                            obtain ⟨b, o, x, rfl, hcx0, hxi0⟩ := HR.out m hlt
                            obtain ⟨ax, cx, rfl, hxl, _⟩ := hxi0.parts
                            have hcl : ∀ q : OfC (fun W => JS wC Ba Bb pa va pb vb W I I ∧ Fr (chJ va vb) wF W), q.w.cell? ⟨b, o + m, none⟩ = some (.slice ax rows[m].length cx) := fun q => ((HFB.out _ _ _ q.ok.1).cell (p := ⟨b, o + m, none⟩) (World.block_lt_of_cell? w _ hcx0)).trans hcx0
                            have hcs : ∀ q : OfC (fun W => JS wC Ba Bb pa va pb vb W I I ∧ Fr (chJ va vb) wF W), q.w.cell? ⟨g6, m, none⟩ = some (ptrV p) := fun q => by
                              obtain ⟨g7, p', hg7, hc7, hp7, _⟩ := HSET.out _ _ _ q.ok.1 m hlt
                              cases hg7
                              rw [hp6] at hp7
                              cases hp7
                              exact hc7
                            have hsub := HSUB.out _ (List.getElem_mem hlt)
                            have hjn : ∀ q : OfC (fun W => JS wC Ba Bb pa va pb vb W I I ∧ Fr (chJ va vb) wF W), Calls Tryd.prog 16 #[.pointer (some ⟨pa, 0, none⟩), ptrV p] q.w fun e w' => e = .returned (.bool false) ∧ ∃ q' : OfC (fun W => JS wC Ba Bb pa va pb vb W I I ∧ Fr (chJ va vb) wF W), w' = q'.w := fun q => by
                              refine (JS.a HE.out q.ok.1 hp6 hr6).mono ?_
                              rintro e w' ⟨rfl, h1, h2⟩
                              rw [newB_sub hsub]
                              have hsame : orB I (trues (rowB rows[m])) = I := sub_eq (orB_len _ _) (sub_join (by rw [rowB_len]; omega) (Sub.refl _) hsub) (join_old (by rw [rowB_len]; omega))
                              rw [hsame] at h1
                              exact ⟨rfl, ⟨w', h1, q.ok.2.trans h2⟩, rfl⟩
                            have hln : ∀ q : OfC (fun W => JS wC Ba Bb pa va pb vb W I I ∧ Fr (chJ va vb) wF W), Calls Tryd.prog 18 #[ptrV p] q.w fun e w' => e = .returned (.int .i64 ((trues (rowB rows[m])).length : Nat)) ∧ ∃ q' : OfC (fun W => JS wC Ba Bb pa va pb vb W I I ∧ Fr (chJ va vb) wF W), w' = q'.w := fun q =>
                              (pLen q.w _ _ _ _ (q.ok.1.set HE.out hp6 hr6)).mono fun e w' ⟨he, hw⟩ => ⟨he, q, hw.symm⟩
                            have hcnt := rowB_count rows[m]
                            have hne : Nonempty (OfC (fun W => JS wC Ba Bb pa va pb vb W I I ∧ Fr (chJ va vb) wF W)) := ⟨⟨wr, hJ, hF⟩⟩
                            have h0 : (fun W => JS wC Ba Bb pa va pb vb W I I ∧ Fr (chJ va vb) wF W) wr.drew := ⟨⟨hJ.1.trans (Fr.drew _), hJ.2.1.fresh (Fr.drew _), hJ.2.2.fresh (Fr.drew _)⟩, hF.trans (Fr.drew _)⟩
                            generalize (trues (rowB rows[m])).length = tl at *
                            have hdl : decide ((rows[m].length : Int) < (tl : Int)) = false := decide_eq_false (by omega)
                            have hdl2 : decide (rows[m].length < tl) = false := decide_eq_false (by omega)
                            have HJN := Lib.hid hjn
                            have HLN := Lib.hid hln
                            clear hp6 hr6 hcx0 hxi0 hsub hjn hln hcnt hJ hF
                            unfold ptrV at *
                            go_wp2_with fail
                            refine wp_region_class (fun W => JS wC Ba Bb pa va pb vb W I I ∧ Fr (chJ va vb) wF W) (by kernel_rfl) (by kernel_rfl) h0 ?_
                            repeat (go_big_quiet_step (first | exact HJN.out _ | exact HLN.out _))
                            refine wpQuiet_nil ?_
                            rintro _ ⟨q, rfl⟩
                            have hq := q.ok
                            generalize q.w = wq at *
                            clear HJN HLN hcl hcs h0 hne q
                            go_wp2
                            go_roundw
                            case rel => exact ⟨m + 1, by omega, by simp, hq⟩
                            case measure => simp [intOf]; omega
                          · obtain ⟨xs, hxs⟩ : ∃ xs : List Int, xs = (trues I).map fun x : Nat => (x : Int) := ⟨_, rfl⟩
                            have hxv : ((trues I).map fun x : Nat => Value.int .i64 (x : Int)) = xs.map (Value.int .i64) := by rw [hxs, List.map_map]; rfl
                            have hxl : (trues I).length = xs.length := by rw [hxs, List.length_map]
                            have hxn : xs.length ≤ 300 := by rw [← hxl, ← hIl]; exact trues_len I
                            have hxr : ∀ x ∈ xs, -9223372036854775808 ≤ x ∧ x ≤ 9223372036854775807 := fun x hx => by
                              rw [hxs] at hx
                              obtain ⟨y, hy, rfl⟩ := List.mem_map.1 hx
                              have := trues_lt I y hy
                              omega
                            have hOI : ∀ W, Fr (chJ va vb) wF W → Ints W u15 xs := fun W h => by
                              have h1 := own_fr HO.out h fun g e => HNO.out g (HO.out.lt g e).1
                              rw [hxv, hxl] at h1
                              exact ints_of_own h1 hxr (by omega)
                            have hO9 := HO.out
                            rw [hxv, hxl] at hO9
                            obtain ⟨a9, c9, rfl, _⟩ := own_as_cells hO9
                            clear hO9
                            have hTr := HE.out.tab.fr hJ.1 (HE.out.off HE.out.tl)
                            have hA1 := pAll wr _ _ _ _ hJ.2.1 hTr
                            have hA2 : ∀ W, Fr nothing wr W → Calls Tryd.prog 19 #[.pointer (some ⟨pb, 0, none⟩)] W fun e w' => ∃ r, e = .returned r ∧ Below W.heap.size W w' ∧ w'.ownsRow W.heap.size 3 1 r (trues I).length ((trues I).map fun x : Nat => Value.int .i64 (x : Int)) := fun W h => pAll W _ _ _ _ (hJ.2.2.fresh h) (hTr.fr h fun e => e)
                            have hL1 : ∀ W, Fr nothing wr W → Calls Tryd.prog 18 #[.pointer (some ⟨pa, 0, none⟩)] W fun e w' => e = .returned (.int .i64 (xs.length : Nat)) ∧ W = w' := fun W h => by
                              have := pLen W _ _ _ _ (hJ.2.1.fresh h)
                              rw [hxl] at this
                              exact this
                            have hBr := HFB.out _ _ _ hJ
                            have hself : sameI xs xs = true := by simp [sameI]
                            rw [hxv, hxl] at hA1
                            simp only [hxv, hxl] at hA2
                            have hA1' := hA1
                            have HA1 := Lib.hid hA1
                            have HA2 := Lib.hid hA2
                            have HL1 := Lib.hid hL1
                            have HOI := Lib.hid hOI
                            have HF := Lib.hid hF
                            have HXR := Lib.hid hxr
                            clear hA1 hA2 hL1 hOI hA1' hxr hxs hxv hTr hJ hF HO HNO HJF
                            go_wp2_with (first | (go_at_call 19; refine HA1.out.mono ?_; clear HA1; rintro e w5 ⟨r, rfl, hB5, ho5⟩; have HSA := Lib.hid (same_any _ _ xs xs w5 (ints_of_own ho5 HXR.out (by omega)) (HOI.out w5 (HF.out.trans (Fr.new hB5).wide))); rw [hself] at HSA) | (go_at_call 12; refine HSA.out.mono ?_; clear HSA; rintro e w6 ⟨rfl, n, rfl⟩) | (go_at_call 19; refine (HA2.out _ ((Fr.new hB5).trans (Fr.drewN _ _))).mono ?_; clear HA2; rintro e w7 ⟨r2, rfl, hB7, ho7⟩; have HSA := Lib.hid (same_any _ _ xs xs w7 (ints_of_own ho7 HXR.out (by omega)) (HOI.out w7 (HF.out.trans (((Fr.new hB5).trans (Fr.drewN _ _)).trans (Fr.new hB7)).wide))); rw [hself] at HSA) | (go_at_call 18; refine (HL1.out _ ((((Fr.new hB5).trans (Fr.drewN _ _)).trans (Fr.new hB7)).trans (Fr.drewN _ _))).mono ?_; rintro e w8 ⟨rfl, rfl⟩))
                            go_ret
                            have hF8 : Fr nothing wr (w7.drewN n) := (((Fr.new hB5).trans (Fr.drewN _ _)).trans (Fr.new hB7)).trans (Fr.drewN _ _)
                            exact ⟨by simp, hBr.trans (hF8.below_new.mono hBr.size)⟩
end Go.Proofs.YtlilegbdjnhfjaaDoor
