/-
  Package items: the walk of a closure.
-/
import Derived.Test.YtgmkpncpcikecaaIt8
namespace Go.Proofs.Ytgmkpncpcikecaa
open Go.RowKit Go.MapKept Go.ChangeMaps
set_option maxHeartbeats 400000

theorem zBool (w : World) : (zeroValue 4).run Try.prog w = .ok (.bool false) w := by kernel_rfl
theorem two_news {w : World} {b : Nat} {x y : Value} {t : TypeId} {f : Nat × Nat} (h : w.heap[b]? = some (.cells #[x, y] t f)) : ∀ j u, [x, y][j]? = some u → w.cell? ((⟨b, 0, none⟩ : Addr).add j) = some u :=
  cells_add fun i hi => by
    rw [Nat.zero_add]
    refine obj_cell h i ?_
    match i with
    | 0 => rfl
    | 1 => rfl
    | i + 2 => exact absurd hi (by simp)
/-- The set of symbols that have been seen. -/
def seenF (syms : List Int) : Value → Option Value := fun k => match k with | .int .i64 t => if t ∈ syms then some (.bool true) else none | _ => none
theorem seenF_new : seenF [] = fun _ => none := by
  funext k
  unfold seenF
  split <;> simp
theorem seenF_get (syms : List Int) (s : Int) : (seenF syms (.int .i64 s)).getD (.bool false) = .bool (decide (s ∈ syms)) := by
  unfold seenF
  simp only
  split
  · rename_i h; rw [decide_eq_true h]; rfl
  · rename_i h; rw [decide_eq_false h]; rfl
theorem seenF_same (syms : List Int) (s : Int) : seenF (s :: syms) (.int .i64 s) = some (.bool true) := by simp [seenF]
theorem seenF_other (syms : List Int) (s : Int) : ∀ k', IsKey (.int .i64) k' → k' ≠ .int .i64 s → seenF (s :: syms) k' = seenF syms k' := fun k' hk hne => by
  unfold seenF
  split
  · rename_i t
    have : t ≠ s := fun e => hne (by rw [e])
    simp [this]
  · rfl
theorem ownI_ownN (G : Gram) (s : Int) : ownI G s = (ownN G G.prods.length s).map fun p : Nat => ((p : Int), (0 : Int)) := rfl

theorem IsBld.short {w : World} {bp mb : Nat} {vs vp : Value} {G : Gram} (h : IsBld w bp mb vs vp G) : ∀ p ∈ G.prods, p.right.length ≤ 17592186044416 := fun p hp => by
  obtain ⟨i, hi, rfl⟩ := List.mem_iff_getElem.1 hp
  have hP := h.prods
  obtain ⟨-, pa, pc, rfl, -, -, -⟩ := id hP
  obtain ⟨_, _, _, _, _, ⟨_, r, hr, _⟩, _⟩ := hP.get i hi
  exact hr.2.1
theorem inI_i64 {G : Gram} (hm : G.prods.length ≤ 100000) (hs : ∀ p ∈ G.prods, p.right.length ≤ 17592186044416) {x : It} (hx : InI G x) : i64 x.1 ∧ i64 x.2 := by
  obtain ⟨p, d⟩ := x
  obtain ⟨h0, h1, h2, h3⟩ := hx
  simp only at h0 h1 h2 h3 ⊢
  obtain ⟨pn, rfl⟩ : ∃ n : Nat, p = (n : Int) := ⟨p.toNat, by omega⟩
  have hlt : pn < G.prods.length := by omega
  rw [rightOf_at G hlt] at h3
  have := hs _ (List.getElem_mem hlt)
  unfold i64
  omega
theorem clo_next {G : Gram} {l L : List It} {syms : List Int} {k M : Nat} (h : CloAt G l L syms ∧ (∀ j (hj : j < L.length), j < k → ∀ s, behI G L[j] = some s → s ∈ syms) ∧ L.length + remI G syms ≤ M ∧ (∀ x ∈ L, InI G x)) (hk : k < L.length) (hb : ∀ s, behI G L[k] = some s → s ∈ syms) :
    CloAt G l L syms ∧ (∀ j (hj : j < L.length), j < k + 1 → ∀ s, behI G L[j] = some s → s ∈ syms) ∧ L.length + remI G syms ≤ M ∧ (∀ x ∈ L, InI G x) :=
  ⟨h.1, fun j hj hjk s hs => by
    by_cases e : j = k
    · subst e; exact hb s hs
    · exact h.2.1 j hj (by omega) s hs, h.2.2⟩
theorem clo_more {G : Gram} {l L : List It} {syms : List Int} {k M : Nat} {s : Int} (h : CloAt G l L syms ∧ (∀ j (hj : j < L.length), j < k → ∀ s, behI G L[j] = some s → s ∈ syms) ∧ L.length + remI G syms ≤ M ∧ (∀ x ∈ L, InI G x)) (hk : k < L.length) (hb : behI G L[k] = some s) (hs : s ∉ syms) :
    CloAt G l (L ++ ownI G s) (s :: syms) ∧ (∀ j (hj : j < (L ++ ownI G s).length), j < k + 1 → ∀ t, behI G (L ++ ownI G s)[j] = some t → t ∈ s :: syms) ∧ (L ++ ownI G s).length + remI G (s :: syms) ≤ M ∧ (∀ x ∈ L ++ ownI G s, InI G x) := by
  obtain ⟨⟨h1, h2, h3⟩, h4, h5, h6⟩ := h
  refine ⟨⟨fun z hz => List.mem_append_left _ (h1 z hz), fun t ht' z hz => ?_, fun z hz => ?_⟩, fun j hj hjk t ht => ?_, ?_, fun z hz => ?_⟩
  · rcases List.mem_cons.1 ht' with rfl | ht'
    · exact List.mem_append_right _ hz
    · exact List.mem_append_left _ (h2 t ht' z hz)
  · rcases List.mem_append.1 hz with hz | hz
    · exact h3 z hz
    · obtain ⟨p, hp, hl, rfl⟩ := ownI_mem.1 hz
      exact .step hp (h3 _ (List.getElem_mem hk)) hb hl
  · rw [List.getElem_append_left (by omega)] at ht
    by_cases e : j = k
    · subst e
      rw [hb] at ht
      cases ht
      simp
    · exact List.mem_cons_of_mem _ (h4 j (by omega) (by omega) t ht)
  · have := rem_step G s syms hs
    rw [List.length_append]
    omega
  · rcases List.mem_append.1 hz with hz | hz
    · exact h6 z hz
    · exact inI_own hz
set_option maxRecDepth 100000 in
set_option maxHeartbeats 4000000 in
theorem cloWalk_any (G : Gram) (w : World) (bp mb : Nat) (vs vp : Value) (f : Value → Option Value) (Bg : Nat) (h : IsBld w bp mb vs vp G) (hg : GrpM w Bg 3 1 mb f (ownL G G.prods.length)) (hm0 : G.prods.length ≤ 100000) (v : Value) (l : List It) (hv : IsItems w v l) (hl : l.length ≤ 100000) (hin : ∀ x ∈ l, InI G x)
    (hsort : ∀ (u : Value) (L : List It) (W : World), Below w.heap.size w W → OwnI W w.heap.size u L → L.length ≤ 200000 → (∀ x ∈ L, InI G x) → Calls Try.prog 35 #[u] W fun e w' => ∃ u', e = .returned u' ∧ OwnI w' w.heap.size u' (sortI L) ∧ Below w.heap.size W w') :
    Calls Try.prog 20 #[.pointer (some ⟨bp, 0, none⟩), v] w (NewI (cloL G l) w) := by
  have hmm := @run_makeMap Try.prog
  obtain ⟨i0, hi, hz0, hz1, hz2⟩ := info_parts Try.infoItem
  have HCL := Lib.hid (clone_any v l w hv (by omega))
  have HB := Lib.hid (fun W (k : Fr nothing w W) => And.intro (h.fr k) (hg.fr k fun _ _ => id))
  have HBH := Lib.hid (fun W (k : Below w.heap.size w W) (x : It) (hx : InI G x) => behind_any G W bp mb vs vp (h.fr (Fr.new k)) x hx)
  have HI64 := Lib.hid fun x (hx : InI G x) => inI_i64 hm0 h.short hx
  have HIN := Lib.hid hin
  have HS := Lib.hid hsort
  clear h hg hv hin hsort
  go_enter Try.func20, Try.ntmps20
  go_upto_region 3 with (go_at_call 34; refine HCL.out.mono ?_; rintro e w1 ⟨u, rfl, hu, hb1⟩)
  have hmS := mapIs_new w1 (.int .i64)
  rw [← seenF_new] at hmS
  have hu2 := own_fr (ch := nothing) hu (Fr.alloc w1 (.map #[] 0)) fun _ _ => id
  have hb2 := hb1.alloc hb1.size (.map #[] 0)
  have hmSB := hb1.size
  generalize hmSe : w1.heap.size = mS at *
  generalize w1.alloc (.map #[] 0) = W1 at *
  obtain ⟨ua, uc, rfl, -⟩ := own_as_cells2 hu2
  have H1 := Lib.hid (And.intro hmS (And.intro hu2 hb2))
  clear hmS hu2 hb2 hu hb1 hmSe HCL hmm
  obtain ⟨M, hM⟩ : ∃ M, M = l.length + G.prods.length := ⟨_, rfl⟩
  have HM := Lib.hid hM
  have hM2 : M ≤ 200000 := by omega
  clear hM
  go_wp2
  go_loopw [5, 7] (fun out i wr => ∃ (L : List It) (syms : List Int) (k : Nat) (oa : Option Addr) (oc : Nat), out = .slice oa L.length oc ∧ i = .int .i64 k ∧ k ≤ L.length ∧ L.length ≤ M ∧ OwnI wr w.heap.size out L ∧ MapIs wr (.int .i64) mS (seenF syms) ∧
      (CloAt G l L syms ∧ (∀ j (hj : j < L.length), j < k → ∀ s, behI G L[j] = some s → s ∈ syms) ∧ L.length + remI G syms ≤ M ∧ (∀ x ∈ L, InI G x)) ∧ Below w.heap.size w wr) (fun _ i _ => M - (intOf i).toNat)
  case atStart =>
    refine ⟨l, [], 0, ua, uc, rfl, rfl, Nat.zero_le _, by rw [HM.out]; omega, H1.out.2.1, H1.out.1, ⟨⟨fun _ h => h, fun s hs => by simp at hs, fun x hx => .ker hx⟩, fun j _ h => by omega, ?_, HIN.out⟩, H1.out.2.2⟩
    rw [HM.out]
    unfold remI
    have := List.length_filter_le (fun p => decide ((G.prods[p]?.map (·.left)).getD (-1) ∉ ([] : List Int))) (List.range G.prods.length)
    rw [List.length_range] at this
    omega
  case round =>
    obtain ⟨L, syms, k, oa, oc, rfl, rfl, hk, hLM, hown, hms, hpl, hB⟩ := hrel
    have HP := Lib.hid hpl
    clear hpl
    by_cases hlt : k < L.length
    · have hxi := HP.out.2.2.2 _ (List.getElem_mem hlt)
      have hLi := hown.items (fun x hx => HI64.out x (HP.out.2.2.2 x hx)) (by omega)
      obtain ⟨b', o, hoa, c0, c1, -, -⟩ := hLi.at hlt
      subst hoa
      have hbh := HBH.out wr hB L[k] hxi
      unfold itVal at hbh
      have HBC := Lib.hid hbh
      have HO := Lib.hid (And.intro hown (And.intro hms hB))
      clear hown hms hB hLi hbh hxi
      cases hbe : behI G L[k] with
      | none =>
        rw [hbe] at HBC
        unfold behT at HBC
        have HNX := Lib.hid (clo_next HP.out hlt fun s hs => by rw [hbe] at hs; cases hs)
        clear hbe HP
        generalize L[k] = x at c0 c1 HBC
        go_wp2_with (go_at_call 33; refine HBC.out.mono ?_; rintro e w3 ⟨rfl, hb3⟩)
        go_roundw
        case rel => exact ⟨L, syms, k + 1, _, oc, rfl, by simp, by omega, hLM, own_fr (ch := nothing) HO.out.1 (Fr.new hb3) fun _ _ => id, HO.out.2.1.below hb3, HNX.out, HO.out.2.2.trans (hb3.mono HO.out.2.2.size)⟩
        case measure => simp [intOf]; omega
      | some s =>
        rw [hbe] at HBC
        unfold behT at HBC
        by_cases hs : s ∈ syms
        · have HNX := Lib.hid (clo_next HP.out hlt fun t ht => by rw [hbe] at ht; cases ht; exact hs)
          have hsd : decide (s ∈ syms) = true := decide_eq_true hs
          have HSD := Lib.hid hsd
          clear hbe HP hs hsd
          generalize L[k] = x at c0 c1 HBC
          go_wp2_with (go_at_call 33; refine HBC.out.mono ?_; rintro e w3 ⟨rfl, hb3⟩; have hlk := (HO.out.2.1.below hb3).look (P := Try.prog) (t := 83) (kt := 3) (et := 4) (k := .int .i64 s) (by kernel_rfl) (by kernel_rfl) rfl (zBool w3) false; simp only [seenF_get, HSD.out, Bool.false_eq_true, if_false] at hlk)
          go_roundw
          case rel => exact ⟨L, syms, k + 1, _, oc, rfl, by simp, by omega, hLM, own_fr (ch := nothing) HO.out.1 (Fr.new hb3) fun _ _ => id, HO.out.2.1.below hb3, HNX.out, HO.out.2.2.trans (hb3.mono HO.out.2.2.size)⟩
          case measure => simp [intOf]; omega
        · have hnx := clo_more HP.out hlt hbe hs
          have HNX := Lib.hid hnx
          have hsd : decide (s ∈ syms) = false := decide_eq_false hs
          have HSD := Lib.hid hsd
          have hbl : (L ++ ownI G s).length ≤ M := by have := hnx.2.2.1; omega
          have hol : (ownI G s).length = (ownN G G.prods.length s).length := by rw [ownI_ownN, List.length_map]
          rw [List.length_append, hol] at hbl
          clear hbe HP hs hsd hnx
          generalize L[k] = x at c0 c1 HBC
          go_upto_region 9 with (first | (go_at_call 33; refine HBC.out.mono ?_; rintro e w3 ⟨rfl, hb3⟩; have hm3 := HO.out.2.1.below hb3; have hlk := hm3.look (P := Try.prog) (t := 83) (kt := 3) (et := 4) (k := .int .i64 s) (by kernel_rfl) (by kernel_rfl) rfl (zBool w3) false; simp only [seenF_get, HSD.out, Bool.false_eq_true, if_false] at hlk) | (refine wpList_store_map _ rfl _ _ _ 83 rfl 3 4 (.int .i64) (by kernel_rfl) (by kernel_rfl) mS (seenF syms) (seenF (s :: syms)) rfl hm3 (.int .i64 s) (.bool true) rfl rfl rfl (seenF_same _ _) (seenF_other _ _) ?_; intro w4 hm4 hf4))
          have hB3 : Below w.heap.size w w3 := HO.out.2.2.trans (hb3.mono HO.out.2.2.size)
          have hB4 : Below w.heap.size w w4 := hB3.trans (hf4.below hB3.size fun g e => by have e' : g = mS := e; omega)
          have hG4 := HB.out w4 (Fr.new hB4)
          have cb := obj_cell hG4.1.obj 3 (v := .map (some mb)) rfl
          have hu3 := own_fr (ch := nothing) HO.out.1 (Fr.new hb3) fun _ _ => id
          have hu4 := own_fr hu3 hf4 fun g hg e => by
            have e' : g = mS := e
            subst e'
            obtain ⟨_, cs, hc⟩ := ownObj hu3 _ hg
            obtain ⟨es, c, hes⟩ := hm3.obj
            rw [hc] at hes
            cases hes
          have hlk2 := hG4.2.map.look (P := Try.prog) (t := 77) (kt := 3) (et := 46) (k := .int .i64 s) (by kernel_rfl) (by kernel_rfl) rfl (zInts w4) false
          have hvo := fun W (k : Fr nothing w W) => (HB.out W k).2.own s
          generalize hvr : (f (.int .i64 s)).getD (.slice none 0 0) = vr at *
          obtain ⟨ra, rc, rfl, -, -, -⟩ := own_as_cells2 (hvo w4 (Fr.new hB4))
          simp only [Bool.false_eq_true, if_false] at hlk2
          have hn0 : (ownL G G.prods.length s).1 = (ownN G G.prods.length s).length := rfl
          rw [hn0] at hlk2 hvo
          have hps : (ownL G G.prods.length s).2 = (ownN G G.prods.length s).map fun p : Nat => Value.int .i64 (p : Int) := rfl
          rw [hps] at hvo
          have hown : ownI G s = (ownN G G.prods.length s).map fun p : Nat => ((p : Int), (0 : Int)) := rfl
          rw [hown] at HNX
          have hpl : ∀ p ∈ ownN G G.prods.length s, p < 100000 := fun p hp => by
            unfold ownN at hp
            have := List.mem_range.1 (List.mem_filter.1 hp).1
            omega
          have HVO := Lib.hid hvo
          have HPL := Lib.hid hpl
          have H4 := Lib.hid (And.intro hu4 (And.intro hm4 hB4))
          clear hb3 hm3 hlk hf4 hB3 hB4 hG4 hu3 hu4 hm4 hvr hn0 hps hown hol hvo hpl HO HBC HSD c0 c1
          generalize ownN G G.prods.length s = ps at *
          generalize hn : ps.length = n at *
          have HN := Lib.hid hn
          clear hn
          generalize wr = wA at *
          go_wp2
          go_loopw [5, 46] (fun out j wr => ∃ (q : Nat) (oa : Option Addr) (oc : Nat), q ≤ n ∧ j = .int .i64 q ∧ out = .slice oa (L.length + q) oc ∧ wr.ownsRow w.heap.size 41 2 out (L.length + q) ((L ++ (ps.take q).map fun p : Nat => ((p : Int), (0 : Int))).flatMap encI) ∧
            MapIs wr (.int .i64) mS (seenF (s :: syms)) ∧ Below w.heap.size w wr) (fun _ j _ => n - (intOf j).toNat)
          case atStart => exact ⟨0, _, oc, Nat.zero_le _, rfl, rfl, by simpa using H4.out.1, H4.out.2.1, H4.out.2.2⟩
          case round =>
            obtain ⟨q, oa, oc, hq, rfl, rfl, hown, hms, hB⟩ := hrel
            have HO := Lib.hid (And.intro hown (And.intro hms hB))
            by_cases hqn : q < n
            · have hqp : q < ps.length := by rw [HN.out]; exact hqn
              have hv := HVO.out wr (Fr.new hB)
              obtain ⟨ra', rc', e, -, -, hx⟩ := own_as_cells2 hv
              simp only [Value.slice.injEq, true_and] at e
              obtain ⟨rfl, rfl⟩ := e
              obtain ⟨og, rfl, -, hoc⟩ := hx.resolve_left fun e => by rw [List.map_eq_nil_iff] at e; rw [e] at hqp; simp at hqp
              have cq := hoc q (by simpa using hqp)
              rw [List.getElem_map, Nat.zero_add] at cq
              have hpl := HPL.out _ (List.getElem_mem hqp)
              have htk : (ps.take (q + 1)).map (fun p : Nat => ((p : Int), (0 : Int))) = (ps.take q).map (fun p : Nat => ((p : Int), (0 : Int))) ++ [((ps[q] : Int), (0 : Int))] := by
                rw [List.take_add_one, List.getElem?_eq_getElem hqp, List.map_append]
                rfl
              have HTK := Lib.hid htk
              generalize ps[q] = p at cq hpl HTK
              have hBs := hB.size
              clear hown hms hB hv hx hoc htk
              go_wp2_with (at_builtin; refine wpList_append_own _ rfl _ _ 36 rfl w.heap.size 41 i0 _ 2 16 Try.underlying36 hi hz0 hz1 hz2 rfl (by decide) _ _ _ rfl (HO.out.1.alloc _) ⟨wr.heap.size, 0, none⟩ 1 1 [.int .i64 p, .int .i64 0] rfl rfl (two_news (alloc_obj _ _)) (by simp [Value.oneCell']) (by unfold maxLen; omega) (by omega) (by simp; omega) ?_; intro v' w5 hown5 hgrow5 _; obtain ⟨va, vcp, rfl, _⟩ := own_as_cells2 hown5)
              go_roundw
              case rel =>
                refine ⟨q + 1, va, vcp, by omega, by simp, by simp; omega, ?_, ?_, ?_⟩
                · rw [HTK.out, ← List.append_assoc, List.flatMap_append]
                  simpa [encI, Nat.add_assoc] using hown5
                · refine (HO.out.2.1.fr (Fr.alloc (ch := nothing) wr (Obj.cells #[.int .i64 p, .int .i64 0] 41 (0, 0))) id).fr (Fr.grown hgrow5) fun e => ?_
                  obtain ⟨_, cs, hc⟩ := ownObj HO.out.1 mS e
                  obtain ⟨es, c, hes⟩ := HO.out.2.1.obj
                  rw [hc] at hes
                  cases hes
                · exact (HO.out.2.2.alloc hBs _).grown hgrow5 (by simp; omega) fun g e => (ownObj HO.out.1 g e).1
              case measure => simp [intOf]; omega
            · obtain rfl : q = n := by omega
              rw [List.take_of_length_le (by rw [HN.out]; exact Nat.le_refl _)] at hown
              have hlen : (L ++ ps.map fun p : Nat => ((p : Int), (0 : Int))).length = L.length + q := by rw [List.length_append, List.length_map, HN.out]
              have HLEN := Lib.hid hlen
              have HO := Lib.hid (And.intro hown (And.intro hms hB))
              clear hown hms hB hqn hlen
              go_wp2
              go_roundw
              case rel => exact ⟨_, s :: syms, k + 1, oa, oc, by rw [HLEN.out], by simp, by rw [HLEN.out]; omega, by rw [HLEN.out]; exact hbl, by unfold OwnI; rw [HLEN.out]; exact HO.out.1, HO.out.2.1, HNX.out, HO.out.2.2⟩
              case measure => simp [intOf]; omega
    · obtain rfl : k = L.length := by omega
      have hso := HS.out _ L wr hB hown (by omega) HP.out.2.2.2
      have hcl : sortI L = cloL G l := cloL_is (sortI_ris L) fun x => by
        rw [sortI_mem]
        exact clo_done HP.out.1 (fun y hy s hs => by
          obtain ⟨j, hj, rfl⟩ := List.mem_iff_getElem.1 hy
          exact HP.out.2.1 j hj hj s hs) x
      rw [hcl] at hso
      have HSO := Lib.hid hso
      have HBB := Lib.hid hB
      clear hown hms hB hlt hso hcl
      go_wp2_with (go_at_call 35; refine HSO.out.mono ?_; rintro e w3 ⟨u', rfl, hu3, hb3⟩)
      go_ret
      exact ⟨u', rfl, hu3, HBB.out.trans hb3⟩
end Go.Proofs.Ytgmkpncpcikecaa
