/-
  FirstDerives: the walk.
-/
import Derived.Test.YtfhleelechbdmaaDoorFiG
import Derived.Test.YtfhleelechbdmaaDoorParts
namespace Go.Proofs.YtfhleelechbdmaaDoor
open Go.RowKit
set_option maxHeartbeats 400000

theorem grown_start (G : Gram) (hr : rightG G = true) (vc : Value) (cs : List Int) (hcl : cs.length ≤ 200) (x : Nat) (v : Value) (w : World) (hx : x < G.syms.length) (h : IsGram w v G) (hc : Ints w vc cs) :
    Calls Tryd.prog 8 #[v, .int .i64 x, vc, .int .i64 0, .int .i64 30] w fun e w' => GrownP G cs 30 x w e w' :=
  grown_any G hr vc cs hcl 30 (Nat.le_refl _) x 0 v w hx (Nat.zero_le _) h hc
theorem fst_lt {G : Gram} {s t : Nat} (h : Fst G s t) : (t : Int) < G.terms := by
  induction h with
  | term h => exact h
  | prod _ _ _ _ ih => exact ih
theorem trues_short {L : List Bool} {N : Nat} (h : ∀ t, atB L t = true → t < N) : (trues L).length ≤ N := by
  have : trues L = trues (L.take N) := trues_of fun t => by
    unfold atB
    rw [List.getElem?_take]
    split
    · exact Iff.rfl
    · rename_i hn
      refine ⟨fun e => absurd (h t e) hn, fun e => by cases e⟩
  rw [this]
  unfold trues
  refine Nat.le_trans (List.length_filter_le _ _) ?_
  rw [List.length_range, List.length_take]
  omega
theorem rowI_ints {w : World} {B : Nat} {v : Value} {l : List Nat} (h : RowI w B v l) (hx : ∀ x ∈ l, x < 1000) (hl : l.length ≤ 1000) : Ints w v (l.map fun x : Nat => (x : Int)) := by
  obtain ⟨a, c, rfl, h1, h2, h3⟩ := own_as_cells h
  refine ⟨fun x hx' => ?_, by rw [List.length_map]; omega, a, c, by rw [List.length_map], by rw [List.length_map]; exact h1, h2, ?_⟩
  · obtain ⟨y, hy, rfl⟩ := List.mem_map.1 hx'
    have := hx y hy
    omega
  · rcases h3 with h3 | ⟨g, rfl, _, hc⟩
    · exact .inl (by rw [List.map_eq_nil_iff] at h3 ⊢; exact h3)
    · refine .inr ⟨g, 0, rfl, ?_⟩
      rw [List.map_map]
      exact hc
/-- What First has told of a symbol, as has reads it. -/
theorem firsts_has {G : Gram} {S : List (List Bool)} (hlaw : ∀ s t, atB (rowAt S s) t = true ↔ Fst G s t) (ht : G.terms ≤ 64) {w : World} {B : Nat} {r : Value} {vs : List Value} (hO : OutM w B r vs S) {x t : Nat} (hx : x < vs.length) (hf : Fst G x t) :
    ∃ xs, Ints w vs[x] xs ∧ (t : Int) ∈ xs := by
  have hlt : ∀ t, atB (rowAt S x) t = true → t < 64 := fun t h => by
    have := fst_lt ((hlaw x t).1 h)
    omega
  refine ⟨(trues (rowAt S x)).map fun x : Nat => (x : Int), rowI_ints (hO.rows x _ (List.getElem?_eq_getElem hx)) (fun y hy => ?_) ?_, ?_⟩
  · have := hlt y ((trues_mem _ _).1 hy)
    omega
  · have := trues_short hlt
    omega
  · exact List.mem_map.2 ⟨t, (trues_mem _ _).2 ((hlaw x t).2 hf), rfl⟩

set_option maxRecDepth 100000 in
set_option maxHeartbeats 4000000 in
theorem firstDerives_any (G : Gram) (v : Value) (sy : Int) (hsy : i64 sy) (lv : Value) (cs : List Int) (w : World) (h : IsGram w v G) (hf : Fits G) (hl : Ints w lv cs) (hT : Tab w) :
    Calls Tryd.prog 3 #[v, .int .i64 sy, lv] w fun e w' => e = .returned (.bool true) ∧ Below w.heap.size w w' := by
  have hG := h
  obtain ⟨hterms, vs, vp, rfl, hs, hp⟩ := h
  obtain ⟨_, hcl, la, lc, rfl, _, _, _⟩ := id hl
  have hO1 := alloc_obj w (Obj.cells #[.int .i64 G.terms, vs, vp] 25 (0, 0))
  have hB1 := (Below.refl _ w).alloc (Nat.le_refl _) (Obj.cells #[.int .i64 G.terms, vs, vp] 25 (0, 0))
  have HAW := Lib.hid (awake18_any (w.alloc (Obj.cells #[.int .i64 G.terms, vs, vp] 25 (0, 0))) (hT.fr (Fr.alloc (ch := nothing) _ _) id))
  have hF := hB1
  have HPT := Lib.hid fun W (k : Below w.heap.size w W) => grammarOf_any G 600 _ W (hG.fr (Fr.new k)) hf (by decide)
  have HRT := Lib.hid fun W (k : Below w.heap.size w W) => right_gram G _ W (hG.fr (Fr.new k))
  have HO := Lib.hid hO1
  have HB1 := Lib.hid hB1
  have HG := Lib.hid hG
  have HL := Lib.hid hl
  have HT := Lib.hid hT
  obtain ⟨_, sa, sc, rfl, _, _, _⟩ := id hs
  obtain ⟨_, pa, pc, rfl, _, _, _⟩ := id hp
  clear hO1 hB1 hF hG hs hp hl hT
  obtain ⟨N, hN⟩ : ∃ N, cs.length = N := ⟨_, rfl⟩
  rw [hN] at HL hcl ⊢
  have HN := Lib.hid hN
  clear hN
  go_enter Tryd.func3, Tryd.ntmps3
  go_upto_region 1 with fail
  go_upto_region 3 with (go_at_call 4; refine HAW.out.mono ?_; rintro e w1 ⟨rfl, hb1⟩)
  have hB := HB1.out.trans (hb1.mono HB1.out.size)
  have hO := (Fr.new hb1).obj HO.out id
  have HB := Lib.hid (And.intro hB hO)
  have c0 := obj_cell hO 0 (v := .int .i64 G.terms) rfl
  have c1 := obj_cell hO 1 (v := .slice sa G.syms.length sc) rfl
  have c2 := obj_cell hO 2 (v := .slice pa G.prods.length pc) rfl
  have HPT := Lib.hid (HPT.out w1 hB)
  clear hb1 HAW hB hO HO HB1
  by_cases h1 : 600 < partsG G 600
  · generalize partsG G 600 = pg at *
    clear HRT
    go_wp2_with (go_at_call 5; refine HPT.out.mono ?_; rintro e w2 ⟨rfl, hb2⟩)
    go_ret
    exact ⟨rfl, HB.out.1.trans (hb2.mono HB.out.1.size)⟩
  have hparts := partsG_len (by omega : partsG G 600 ≤ 600)
  generalize partsG G 600 = pg at *
  have t1 : decide (600 < pg) = false := decide_eq_false h1
  cases hrt : rightG G with
  | false =>
    rw [hrt] at HRT
    go_wp2_with (first | (go_at_call 5; refine HPT.out.mono ?_; rintro e w2 ⟨rfl, hb2⟩; have HR2 := Lib.hid (HRT.out w2 (HB.out.1.trans (hb2.mono HB.out.1.size))); have c0 := (Fr.new hb2).cell c0 id; have c1 := (Fr.new hb2).cell c1 id; have c2 := (Fr.new hb2).cell c2 id) | (go_at_call 6; refine HR2.out.mono ?_; rintro e w3 ⟨rfl, hb3⟩))
    go_ret
    have h2 := HB.out.1.trans (hb2.mono HB.out.1.size)
    exact ⟨rfl, h2.trans (hb3.mono h2.size)⟩
  | true =>
    rw [hrt] at HRT
    by_cases hc : 200 < N
    · go_wp2_with (first | (go_at_call 5; refine HPT.out.mono ?_; rintro e w2 ⟨rfl, hb2⟩; have HR2 := Lib.hid (HRT.out w2 (HB.out.1.trans (hb2.mono HB.out.1.size))); have c0 := (Fr.new hb2).cell c0 id; have c1 := (Fr.new hb2).cell c1 id; have c2 := (Fr.new hb2).cell c2 id) | (go_at_call 6; refine HR2.out.mono ?_; rintro e w3 ⟨rfl, hb3⟩))
      go_ret
      have h2 := HB.out.1.trans (hb2.mono HB.out.1.size)
      exact ⟨rfl, h2.trans (hb3.mono h2.size)⟩
    · go_upto_region 5 with (first | (go_at_call 5; refine HPT.out.mono ?_; rintro e w2 ⟨rfl, hb2⟩; have HR2 := Lib.hid (HRT.out w2 (HB.out.1.trans (hb2.mono HB.out.1.size))); have c0 := (Fr.new hb2).cell c0 id; have c1 := (Fr.new hb2).cell c1 id; have c2 := (Fr.new hb2).cell c2 id) | (go_at_call 6; refine HR2.out.mono ?_; rintro e w3 ⟨rfl, hb3⟩))
      have h2 := HB.out.1.trans (hb2.mono HB.out.1.size)
      have hB3 := h2.trans (hb3.mono h2.size)
      have hO3 := (Fr.new hb3).obj ((Fr.new hb2).obj HB.out.2 id) id
      obtain ⟨⟨ht0, ht1, hn0, hn1, _, _⟩, _, _⟩ := rightG_parts hrt
      have hpos : 0 < G.syms.length := by omega
      have hPI := pick_any sy G.syms.length hpos (by omega) w3 hsy
      have hpn := pickN_lt G.syms.length sy hpos
      generalize pickN G.syms.length sy = x at *
      have HGR := Lib.hid (grown_start G hrt _ cs (by rw [HN.out]; omega) x _ w3 hpn (HG.out.fr (Fr.new hB3)) (HL.out.fr (Fr.new hB3)))
      have HNUL := Lib.hid fun W (k : Below w.heap.size w W) => nullable_any G hrt _ W (HG.out.fr (Fr.new k))
      have HFI := Lib.hid fun W (k : Below w.heap.size w W) => firsts_any G hrt _ W (HG.out.fr (Fr.new k)) (HT.out.fr (Fr.new k) id)
      have HIN := Lib.hid (right_in hrt)
      have c0 := obj_cell hO3 0 (v := .int .i64 G.terms) rfl
      have c1 := obj_cell hO3 1 (v := .slice sa G.syms.length sc) rfl
      have c2 := obj_cell hO3 2 (v := .slice pa G.prods.length pc) rfl
      have H3 := Lib.hid (And.intro hB3 hO3)
      have HPI := Lib.hid hPI
      clear hB3 hO3 h2 hb2 hb3 HR2 HRT HPT HB hPI t1
      go_upto_region 7 with (first | (go_at_call 7; refine HPI.out.mono ?_; rintro e w4 ⟨rfl, rfl⟩) | (go_at_call 8; refine HGR.out.mono ?_; rintro e w5 ⟨r, l, a2, ok, rfl, hx5⟩))
      obtain ⟨-, hrw, -, hder, hb5⟩ := hx5
      obtain ⟨qa, qc, rfl, hqx⟩ := rowI_parts hrw
      have hB5 := H3.out.1.trans (hb5.mono H3.out.1.size)
      have hO5 := (Fr.new hb5).obj H3.out.2 id
      cases ok with
      | false =>
        go_wp2
        go_ret
        exact ⟨rfl, hB5⟩
      | true =>
        have hlaw := der_law (hder rfl)
        have c0 := obj_cell hO5 0 (v := .int .i64 G.terms) rfl
        have c1 := obj_cell hO5 1 (v := .slice sa G.syms.length sc) rfl
        have c2 := obj_cell hO5 2 (v := .slice pa G.prods.length pc) rfl
        have H5 := Lib.hid (And.intro hB5 (And.intro hO5 hrw))
        clear hB5 hO5 hder hb5 H3 HGR HPI hrw
        cases l with
        | nil =>
          have hnul := hlaw.1 rfl
          have HNU := Lib.hid hnul
          have hn5 := HNUL.out w5 H5.out.1
          have HN5 := Lib.hid hn5
          clear hlaw hnul hn5
          simp only [List.length_nil] at *
          go_upto_region 11 with (go_at_call 9; refine HN5.out.mono ?_; rintro e w6 ⟨nb, rfl, hnb, hb6⟩)
          have hb := bools_at hnb x (by rw [nulL_len]; exact hpn)
          rw [(nulL_iff HIN.out).2 HNU.out] at hb
          have c1 := (Fr.new hb6).cell c1 id
          have HB6 := Lib.hid (H5.out.1.trans (hb6.mono H5.out.1.size))
          clear hnb hb6
          go_wp2
          go_ret
          exact ⟨rfl, HB6.out⟩
        | cons t l =>
          have hfst := hlaw.2 t l rfl
          have HFS := Lib.hid hfst
          have HF5 := Lib.hid (HFI.out w5 H5.out.1)
          obtain ⟨qg, rfl, -, hqc⟩ := hqx.resolve_left (by simp)
          have q0 := hqc 0 (by simp)
          simp only [List.map_cons, List.getElem_cons_zero, Nat.zero_add] at q0
          clear hlaw hfst hqc
          simp only [List.length_cons] at *
          go_upto_region 13 with (go_at_call 10; refine HF5.out.mono ?_; rintro e w6 ⟨r2, vs, S, rfl, hvs, hO6, hlaw6, hb6⟩; obtain ⟨oa, oc, rfl, _, _, hox⟩ := own_as_cells hO6.own)
          have hxv : x < vs.length := by rw [hvs]; exact hpn
          obtain ⟨og, rfl, -, hoc⟩ := hox.resolve_left fun e => by rw [e] at hxv; simp at hxv
          have o0 := hoc x hxv
          rw [Nat.zero_add] at o0
          obtain ⟨xs, hxs, hmem⟩ := firsts_has hlaw6 ht1 hO6 hxv HFS.out
          have q0 := (Fr.new hb6).cell q0 id
          have c1 := (Fr.new hb6).cell c1 id
          have HHS := Lib.hid fun n => has_any xs vs[x] t (w6.drewN n) (hxs.fr (Fr.drewN _ _))
          rw [decide_eq_true hmem] at HHS
          have HB6 := Lib.hid (H5.out.1.trans (hb6.mono H5.out.1.size))
          generalize vs[x] = u at o0 HHS
          clear hxs hoc hO6 hlaw6 hb6 hxv hmem
          go_quiet ((go_at_call 11; exact Calls.quiet_of_same ((HHS.out _).mono fun _ _ ⟨he, hw⟩ => ⟨he, hw.symm⟩)))
          go_wp2
          go_ret
          exact ⟨rfl, below_drewN HB6.out _⟩
end Go.Proofs.YtfhleelechbdmaaDoor
