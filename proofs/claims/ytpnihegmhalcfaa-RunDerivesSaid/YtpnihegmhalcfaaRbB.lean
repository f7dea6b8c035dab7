/-
  RunDerives in plain Lean: the automaton's steps keep its stack's derivations; where it accepts, the tree derives just the terminals.
-/
import Derived.Test.YtpnihegmhalcfaaRbA
namespace Go.Proofs.Ytpnihegmhalcfaa
set_option maxHeartbeats 400000

theorem right_first {G : Gram} (h : rightG G = true) : (prdAt G 0).left = G.terms ∧ (prdAt G 0).right.length = 1 := by
  obtain ⟨terms, syms, prods⟩ := G
  have := (rightG_parts h).2.2
  cases prods with
  | nil => simp [prodsG] at this
  | cons p r =>
    simp only [prodsG, Bool.and_eq_true] at this
    have h1 := this.1
    unfold firstG at h1
    simp only [Bool.and_eq_true, decide_eq_true_eq] at h1
    exact ⟨h1.1, h1.2.1⟩
theorem right_noAccept {G : Gram} (h : rightG G = true) (k : Nat) (hk : k < G.prods.length) : ∀ s ∈ G.prods[k].right, s ≠ G.terms := by
  obtain ⟨terms, syms, prods⟩ := G
  have := (rightG_parts h).2.2
  have key : ∀ p : Prd, rightSide terms syms.length p.right = true → ∀ s ∈ p.right, s ≠ terms := fun p hp => by
    unfold rightSide rightRow at hp
    simp only [Bool.and_eq_true, List.all_eq_true, decide_eq_true_eq, Bool.not_eq_true', Bool.or_eq_false_iff, decide_eq_false_iff_not] at hp
    exact fun s hs => (hp.1 s hs).2.2
  cases prods with
  | nil => simp at hk
  | cons p r =>
    simp only [prodsG, Bool.and_eq_true, List.all_eq_true] at this
    obtain ⟨h1, h2⟩ := this
    cases k with
    | zero =>
      unfold firstG at h1
      simp only [Bool.and_eq_true] at h1
      exact key p h1.2.2.1
    | succ k =>
      have hk' : k < r.length := by simpa using hk
      have h3 := h2 r[k] (List.getElem_mem _)
      simp only [List.getElem_cons_succ]
      unfold prodG at h3
      simp only [Bool.and_eq_true, Bool.not_eq_true', Bool.or_eq_false_iff, Bool.not_eq_false'] at h3
      exact key _ h3.1.2.2
theorem clo_in {G : Gram} {ks : List (List It)} (hk : KOk G ks) (i : Nat) : ∀ x ∈ cloL G (ks.getD i []), InI G x := fun x hx => by
  refine inClo_in (fun y hy => ?_) (cloL_mem.1 hx)
  by_cases hi : i < ks.length
  · rw [List.getD_eq_getElem?_getD, List.getElem?_eq_getElem hi] at hy
    exact (hk i hi).2 y hy
  · rw [List.getD_eq_getElem?_getD, List.getElem?_eq_none (by omega)] at hy
    cases hy
/-- Where the start stands behind the dot, the stack holds just it. -/
theorem accept_one {G : Gram} {ks : List (List It)} {gs : List (List (Int × Int))} {terms : List Int} (hr : rightG G = true) (hc : colI G = some (ks, gs)) {l : List (Int × Tr)} {p : Nat} {ps : List Int} (h : Stk G gs terms l p ps) (h1 : ((0 : Int), (1 : Int)) ∈ ks.getD (lastN l).toNat []) :
    DerT G terms (lastT l) ((prdAt G 0).right.getD 0 0) 0 p ∧ ps = countT (lastT l) := by
  have hk := colI_kok hr hc
  cases h with
  | start =>
    rw [show (lastN [((0 : Int), noTr)]).toNat = 0 from rfl, (first_kernel hc).2, List.mem_singleton] at h1
    cases h1
  | push h0 he hd =>
    rename_i l0 p0 ps0 s j t
    rw [lastN_snoc] at h1
    have h2 : ((0 : Int), (1 : Int)) ∈ ks.getD j [] := h1
    rw [(edge_to hc he).2] at h2
    obtain ⟨y, hy, hb, e⟩ := onI_mem.1 h2
    have e1 : (0 : Int) = y.1 := congrArg Prod.fst e
    have e2 : (1 : Int) = y.2 + 1 := congrArg Prod.snd e
    have hy' : y = (0, 0) := by
      obtain ⟨a, b⟩ := y
      simp only at e1 e2
      rw [Prod.mk.injEq]
      omega
    subst hy'
    have hs : (prdAt G 0).right.getD 0 0 = s := by
      rw [← rightOf_prd, List.getD_eq_getElem?_getD]
      unfold behI at hb
      have hb' : (rightOf G 0)[0]? = some s := hb
      rw [hb']
      rfl
    rw [lastT_snoc, hs]
    have hker : ((0 : Int), (0 : Int)) ∈ ks.getD (lastN l0).toNat [] := by
      have hin := clo_in hk (lastN l0).toNat
      generalize ks.getD (lastN l0).toNat [] = K at hy hin
      generalize hx : ((0 : Int), (0 : Int)) = x at hy
      cases cloL_mem.1 hy with
      | ker h => exact h
      | step hp hz hzb hzl =>
        rename_i z s' p'
        have hp0 : (p' : Int) = 0 := (congrArg Prod.fst hx).symm
        obtain rfl : p' = 0 := by omega
        exfalso
        have hzi := hin z (cloL_mem.2 hz)
        obtain ⟨g0, g1, -, -⟩ := hzi
        have hzlt : z.1.toNat < G.prods.length := by omega
        unfold behI rightOf at hzb
        rw [List.getElem?_eq_getElem hzlt] at hzb
        have hmem : s' ∈ G.prods[z.1.toNat].right := List.mem_of_getElem? hzb
        refine right_noAccept hr _ hzlt _ hmem ?_
        rw [← hzl, ← (right_first hr).1]
        unfold prdAt
        rw [List.getD_eq_getElem?_getD, show (0 : Int).toNat = 0 from rfl, List.getElem?_eq_getElem hp]
        rfl
    cases h0 with
    | start => exact ⟨hd, by rw [List.nil_append]⟩
    | push h00 he0 hd0 =>
      rename_i l1 p1 ps1 s1 j1 t1
      exfalso
      rw [lastN_snoc] at hker
      have h3 : ((0 : Int), (0 : Int)) ∈ ks.getD j1 [] := hker
      rw [(edge_to hc he0).2] at h3
      obtain ⟨y, hy, -, e⟩ := onI_mem.1 h3
      have e2 : (0 : Int) = y.2 + 1 := congrArg Prod.snd e
      obtain ⟨-, -, g, -⟩ := clo_in hk _ y hy
      omega
theorem gotoAt_make {G : Gram} {ks : List (List It)} {gs : List (List (Int × Int))} {l : List Ah} {n : Nat} {s j : Int} (hs : s.toNat < n) (hj : j.toNat < G.syms.length - G.terms.toNat) :
    gotoAt (makeT G ks gs l n) s j = toE (-1) ((G.terms.toNat + j.toNat : Nat) : Int) (gs.getD s.toNat []) := by
  unfold gotoAt makeT
  have e1 : ((List.range n).map fun i => gotoRow G (gs.getD i [])).getD s.toNat [] = gotoRow G (gs.getD s.toNat []) := by
    rw [List.getD_eq_getElem?_getD, List.getElem?_map, List.getElem?_range hs]
    rfl
  simp only [e1]
  unfold gotoRow
  rw [List.getD_eq_getElem?_getD, List.getElem?_map, List.getElem?_range hj]
  rfl
/-- Each step keeps it. -/
theorem step_stk {G : Gram} {ks : List (List It)} {gs : List (List (Int × Int))} {terms : List Int} (hr : rightG G = true) (hc : colI G = some (ks, gs)) {st st' : Au} (h : Stk G gs terms st.stack st.pos st.prods)
    (hs : stepU G (makeT G ks gs (aheadL G ks gs) ks.length) terms st = .inr st') : Stk G gs terms st'.stack st'.pos st'.prods := by
  have hg := (rightG_parts hr).1
  have hk := colI_kok hr hc
  unfold stepU at hs
  cases hn : nextT G terms st.pos with
  | none => rw [hn] at hs; cases hs
  | some t =>
    rw [hn] at hs
    simp only at hs
    obtain ⟨t0, t1, t2, t3⟩ := nextT_range hg.1 hn
    have hm := fun h => entAt_make (G := G) (ks := ks) (gs := gs) (l := aheadL G ks gs) (n := ks.length) (s := lastN st.stack) (t := t) h
    generalize entAt (makeT G ks gs (aheadL G ks gs) ks.length) (lastN st.stack) t = x at hs hm
    split at hs
    · rename_i hk1
      obtain rfl := Sum.inr.inj hs
      rcases mayL_kinds (hm (by omega)) with ⟨-, d0, hd⟩ | ⟨hk3, -⟩ | ⟨hk2, -⟩
      · have htt : ((t.toNat : Nat) : Int) = t := by omega
        rw [htt] at hd
        obtain ⟨hne, j, hj, -, -⟩ := edge_kernel hc hd
        have hj : x.dst = (j : Int) := hj
        have ht1 : 1 ≤ t := by
          obtain ⟨y, hy⟩ := List.exists_mem_of_ne_nil _ hne
          obtain ⟨z, hz, hzb, -⟩ := onI_mem.1 hy
          exact (beh_sym hr (clo_in hk _ z hz) hzb).1
        have hpl : st.pos < terms.length := by
          refine Classical.byContradiction fun hn => ?_
          have := t3 (by omega)
          omega
        rw [hj] at hd ⊢
        have := Stk.push h hd (t := ⟨-1, (st.pos : Int), .nil⟩) (q := st.pos + 1) (.inl ⟨rfl, rfl, rfl, rfl, hpl, ((t2 hpl).2).symm⟩)
        simpa [countT] using this
      · omega
      · omega
    · split at hs
      · rename_i hk2
        split at hs
        · cases hs
        · split at hs
          · cases hs
          · rename_i hlen
            split at hs
            · cases hs
            · rename_i hgo
              obtain rfl := Sum.inr.inj hs
              rcases mayL_kinds (hm (by omega)) with ⟨hk1, -⟩ | ⟨hk3, -⟩ | ⟨-, a, ha, ha1, ha2⟩
              · omega
              · omega
              · have hitem := aheadL_item ha
                rw [ha2, ha1, Int.toNat_natCast] at hitem
                obtain ⟨-, -, q1, q2, -⟩ := (aheadL_ok G ks gs).all a ha
                rw [ha2] at q1 q2
                obtain ⟨p0, ps0, g1, g2, g3, g4⟩ := pop hc x.dst (rightOf G x.dst).length h hitem
                rw [List.take_length] at g3
                rw [rightOf_prd] at g1 g2 g3 g4
                have hnum := (g2.num hc).2
                have hpx : prdAt G x.dst = G.prods[x.dst.toNat]'(by omega) := by
                  unfold prdAt
                  rw [List.getD_eq_getElem?_getD, List.getElem?_eq_getElem (by omega)]
                  rfl
                have hlf := right_left2 hr x.dst.toNat (by omega) (by omega)
                rw [← hpx] at hlf
                rw [gotoAt_make hnum (by omega)] at hgo ⊢
                have hlt : ((G.terms.toNat + ((prdAt G x.dst).left - G.terms).toNat : Nat) : Int) = (prdAt G x.dst).left := by omega
                rw [hlt] at hgo ⊢
                have he := toE_mem (s := (prdAt G x.dst).left) (l := gs.getD (lastN (st.stack.take (st.stack.length - (prdAt G x.dst).right.length))).toNat []) (by omega)
                obtain ⟨-, j, hj, -, -⟩ := edge_kernel hc he
                have hj : toE (-1) (prdAt G x.dst).left (gs.getD (lastN (st.stack.take (st.stack.length - (prdAt G x.dst).right.length))).toNat []) = (j : Int) := hj
                rw [hj] at he ⊢
                have := Stk.push g2 he (t := ⟨x.dst, 0, foOf ((st.stack.drop (st.stack.length - (prdAt G x.dst).right.length)).map Prod.snd)⟩) (.inr ⟨q1, q2, rfl, rfl, g3⟩)
                have hcount : countT ⟨x.dst, 0, foOf ((st.stack.drop (st.stack.length - (prdAt G x.dst).right.length)).map Prod.snd)⟩ = countF (foOf ((st.stack.drop (st.stack.length - (prdAt G x.dst).right.length)).map Prod.snd)) ++ [x.dst] := by
                  unfold countT
                  rw [if_neg (by show ¬ x.dst = -1; omega)]
                rw [hcount, ← List.append_assoc, ← g4] at this
                exact this
      · split at hs
        · split at hs <;> cases hs
        · cases hs
/-- What holds where it has accepted. -/
def Derived (G : Gram) (terms : List Int) (st : Au) : Prop := DerT G terms (lastT st.stack) ((prdAt G 0).right.getD 0 0) 0 terms.length ∧ st.pos = terms.length ∧ st.prods = countT (lastT st.stack)
theorem end_stk {G : Gram} {ks : List (List It)} {gs : List (List (Int × Int))} {terms : List Int} (hr : rightG G = true) (hc : colI G = some (ks, gs)) {st st' : Au} (h : Stk G gs terms st.stack st.pos st.prods) (hp : st.pos ≤ terms.length)
    (hs : stepU G (makeT G ks gs (aheadL G ks gs) ks.length) terms st = .inl (0, st')) : Derived G terms st' := by
  have hg := (rightG_parts hr).1
  unfold stepU at hs
  cases hn : nextT G terms st.pos with
  | none => rw [hn] at hs; cases hs
  | some t =>
    rw [hn] at hs
    simp only at hs
    obtain ⟨t0, t1, t2, t3⟩ := nextT_range hg.1 hn
    have hm := fun h => entAt_make (G := G) (ks := ks) (gs := gs) (l := aheadL G ks gs) (n := ks.length) (s := lastN st.stack) (t := t) h
    generalize entAt (makeT G ks gs (aheadL G ks gs) ks.length) (lastN st.stack) t = x at hs hm
    split at hs
    · cases hs
    · split at hs
      · split at hs
        · cases hs
        · split at hs
          · cases hs
          · split at hs <;> cases hs
      · split at hs
        · rename_i hk3
          split at hs
          · cases hs
          · obtain rfl := (Prod.mk.inj (Sum.inl.inj hs)).2
            rcases mayL_kinds (hm (by omega)) with ⟨hk1, -⟩ | ⟨-, ht, hz⟩ | ⟨hk2, -⟩
            · omega
            · have hpl : st.pos = terms.length := by
                refine Classical.byContradiction fun hn => ?_
                have := (t2 (by omega)).1
                omega
              obtain ⟨h1, h2⟩ := accept_one hr hc h hz
              rw [hpl] at h1
              exact ⟨h1, hpl, h2⟩
            · omega
        · cases hs
theorem step_in {G : Gram} {T : Tbl} {terms : List Int} {st st' : Au} (hg : 1 ≤ G.terms) (hp : st.pos ≤ terms.length) (hT : ∀ t, 0 ≤ t → (entAt T (lastN st.stack) t).kind = 1 → 1 ≤ t) (h : stepU G T terms st = .inr st') : st'.pos ≤ terms.length := by
  unfold stepU at h
  cases hn : nextT G terms st.pos with
  | none => rw [hn] at h; cases h
  | some t =>
    rw [hn] at h
    simp only at h
    obtain ⟨t0, t1, t2, t3⟩ := nextT_range hg hn
    split at h
    · rename_i hk
      obtain rfl := Sum.inr.inj h
      have h1 := hT t t0 hk
      show st.pos + 1 ≤ terms.length
      refine Classical.byContradiction fun hn => ?_
      have := t3 (by omega)
      omega
    · split at h
      · split at h
        · cases h
        · split at h
          · cases h
          · split at h
            · cases h
            · obtain rfl := Sum.inr.inj h
              exact hp
      · split at h
        · split at h <;> cases h
        · cases h
theorem run_stk {G : Gram} {ks : List (List It)} {gs : List (List (Int × Int))} {terms : List Int} (hr : rightG G = true) (hc : colI G = some (ks, gs)) : ∀ (k : Nat) (st st' : Au), Stk G gs terms st.stack st.pos st.prods → st.pos ≤ terms.length →
    runU G (makeT G ks gs (aheadL G ks gs) ks.length) terms k st = some (0, st') → Derived G terms st'
  | 0, st, st', _, _, h => by cases h
  | k + 1, st, st', hs, hp, h => by
    have hg := (rightG_parts hr).1
    unfold runU at h
    cases e : stepU G (makeT G ks gs (aheadL G ks gs) ks.length) terms st with
    | inl r =>
      rw [e] at h
      obtain rfl := Option.some.inj h
      exact end_stk hr hc hs hp e
    | inr st1 =>
      rw [e] at h
      refine run_stk hr hc k st1 st' (step_stk hr hc hs e) (step_in hg.1 hp (fun t ht hk => ?_) e) h
      rcases mayL_kinds (entAt_make (s := lastN st.stack) (t := t) (by rw [hk]; decide)) with ⟨-, d0, hd⟩ | ⟨hk3, -⟩ | ⟨hk2, -⟩
      · obtain ⟨hne, -⟩ := edge_kernel hc hd
        obtain ⟨y, hy⟩ := List.exists_mem_of_ne_nil _ hne
        obtain ⟨z, hz, hzb, -⟩ := onI_mem.1 hy
        have := (beh_sym hr (clo_in (colI_kok hr hc) _ z hz) hzb).1
        have h' : (1 : Int) ≤ ((t.toNat : Nat) : Int) := this
        omega
      · omega
      · omega
end Go.Proofs.Ytpnihegmhalcfaa
