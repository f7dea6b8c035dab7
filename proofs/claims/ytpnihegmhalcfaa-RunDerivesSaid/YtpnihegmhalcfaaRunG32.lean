/-
  Package run: shift.
-/
import Derived.Test.YtpnihegmhalcfaaRunG30
namespace Go.Proofs.Ytpnihegmhalcfaa
open Go.RowKit Go.MapKept Go.ChangeMaps
set_option maxHeartbeats 400000

theorem Try.infoStack : (Try.prog.info? 90).map (fun i => (i.zero, i.size, i.bytes)) = some (some (.agg #[.int .i64 0, .int .i64 0, .int .i64 0, .slice none 0 0]), 4, 48) := by kernel_rfl
theorem Try.infoTree : (Try.prog.info? 40).map (fun i => (i.zero, i.size, i.bytes)) = some (some (.agg #[.int .i64 0, .int .i64 0, .slice none 0 0]), 3, 40) := by kernel_rfl
theorem own_otherS {w w' : World} {B B' e e' size size' n n' : Nat} {u v : Value} {xs xs' : List Value} (hv : w.ownsRow B e size v n xs) (k : Fr (fun b => v.ownBlock = some b) w w') (ho : w.ownsRow B' e' size' u n' xs') (he : e' ≠ e) : w'.ownsRow B' e' size' u n' xs' := own_fr ho k fun g hg hc => by
  obtain ⟨_, cs, hcs⟩ := ownObj ho g hg
  exact own_ne hv hcs (Ne.symm he) hc
theorem own_structS {w : World} {B' e' size' n' b i : Nat} {e : TypeId} {cs : Array Value} {f : Nat × Nat} {u v : Value} {xs' : List Value} (hb : w.heap[b]? = some (.cells cs e f)) (ho : w.ownsRow B' e' size' u n' xs') (he : e' ≠ e) : (w.setCell ⟨b, i, none⟩ v).ownsRow B' e' size' u n' xs' := own_fr ho (Fr.setCell w ⟨b, i, none⟩ v) fun g hg hc => by
  have e' : g = b := hc
  subst e'
  exact own_ne ho hb he hg
theorem news_cells {w : World} {b : Nat} {l : List Value} {t : TypeId} {f : Nat × Nat} (h : w.heap[b]? = some (.cells l.toArray t f)) : ∀ j u, l[j]? = some u → w.cell? ((⟨b, 0, none⟩ : Addr).add j) = some u :=
  cells_add (fun i hi => by
    have := obj_cell h i (v := l[i]) (by simp [hi])
    simpa using this)
/-- What holds parts' lists is neither a list of states nor an automaton. -/
theorem kids_own {w w' : World} {B e size n : Nat} {v : Value} {xs : List Value} (ho : w.ownsRow B e size v n xs) (he : e ≠ 40) (k : Fr (fun b => v.ownBlock = some b) w w') {Bt : Nat} {f : Fo} {u : Value} (h : KidsV w (isTr Bt w) f u) : KidsV w' (isTr Bt w') f u :=
  kids_fr h k fun b _ ⟨_, cs, f, hb⟩ hc => own_ne ho hb he hc
theorem kids_set {w : World} {b i : Nat} {e : TypeId} {cs : Array Value} {g : Nat × Nat} (hb : w.heap[b]? = some (.cells cs e g)) (he : e ≠ 40) {v : Value} {Bt : Nat} {f : Fo} {u : Value} (h : KidsV w (isTr Bt w) f u) : KidsV (w.setCell ⟨b, i, none⟩ v) (isTr Bt (w.setCell ⟨b, i, none⟩ v)) f u :=
  kids_fr h (Fr.setCell w ⟨b, i, none⟩ v) fun b' _ ⟨_, cs', f', hb'⟩ hc => by
    have e' : b' = b := hc
    subst e'
    rw [hb] at hb'
    simp only [Option.some.injEq, Obj.cells.injEq] at hb'
    exact he hb'.2.1

/-- The maps stay. -/
def MapsKept (w w' : World) : Prop := ∀ (b : Nat) es c, w.heap[b]? = some (Obj.map es c) → w'.heap[b]? = some (Obj.map es c)
theorem MapsKept.trans {w w' w2 : World} (h : MapsKept w w') (h' : MapsKept w' w2) : MapsKept w w2 := fun b es c e => h' b es c (h b es c e)
theorem mk_none {w w' : World} (k : Fr nothing w w') : MapsKept w w' := fun _ _ _ h => k.obj h id
theorem mk_set {w : World} {b i : Nat} {cs : Array Value} {e : TypeId} {f : Nat × Nat} (h : w.heap[b]? = some (.cells cs e f)) (v : Value) : MapsKept w (w.setCell ⟨b, i, none⟩ v) := fun b' es c hb => (Fr.setCell w ⟨b, i, none⟩ v).obj hb fun hc => by
  have e' : b' = b := hc
  subst e'
  rw [h] at hb
  cases hb
theorem mk_own {w w' : World} {B e size n : Nat} {v : Value} {xs : List Value} (ho : w.ownsRow B e size v n xs) (k : Fr (fun b => v.ownBlock = some b) w w') : MapsKept w w' := fun b es c hb => k.obj hb fun hc => by
  obtain ⟨_, cs, hcs⟩ := ownObj ho b hc
  rw [hcs] at hb
  cases hb

set_option maxRecDepth 100000 in
set_option maxHeartbeats 8000000 in
theorem shift_any {w : World} {B ab : Nat} {A : AuA} {G : Gram} {T : Tbl} {terms : List Int} {sv pv : Value} {L : List ((Int × Tr) × Value)} {st : Au} (h : AuM w B ab A G T terms sv pv L st) (dst : Int) (hn : 1 ≤ st.stack.length) (hl : st.stack.length ≤ 1000000000) (hp : st.pos ≤ 1000000000) (hab : B ≤ ab) :
    Calls Try.prog 68 #[.pointer (some ⟨ab, 0, none⟩), .int .i64 dst] w fun e w' => ∃ sv' L', e = .returned (.tuple #[]) ∧ AuM w' B ab A G T terms sv' pv L' ⟨st.stack ++ [(dst, ⟨-1, (st.pos : Int), .nil⟩)], st.pos + 1, 0, st.prods⟩ ∧ Below B w w' ∧ MapsKept w w' := by
  have hL := h.len
  obtain ⟨sb, sc, rfl, hsb, -, -, -, -, -, -⟩ := st_cell h.own 0 (by omega)
  have hBw : ab < w.heap.size := (Array.getElem?_eq_some_iff.1 h.obj).1
  obtain ⟨i0, hi, hz0, hz1, hz2⟩ := info_parts Try.infoStack
  have c6 := obj_cell h.obj 6 (v := .slice (some ⟨sb, 0, none⟩) L.length sc) rfl
  have c7 := obj_cell h.obj 7 (v := .int .i64 (st.pos : Int)) rfl
  have hcf : ∀ (ch : Nat → Prop) (W : World), Fr ch w.drew W → ¬ ch ab → W.cell? ⟨ab, 6, none⟩ = some (.slice (some ⟨sb, 0, none⟩) L.length sc) ∧ W.cell? ⟨ab, 7, none⟩ = some (.int .i64 (st.pos : Int)) := fun _ _ k hc => ⟨k.cell c6 hc, k.cell c7 hc⟩
  have HCF := Lib.hid hcf
  have hk : Fr nothing w w.drew := Fr.drew w
  have H0 := Lib.hid (h.keep hk)
  have HK := Lib.hid hk
  have hnab : ¬ (Value.slice (some ⟨sb, 0, none⟩) L.length sc).ownBlock = some ab := fun hc => own_ne h.own h.obj (by decide) hc
  have HNB := Lib.hid hnab
  have HL := Lib.hid hL
  clear h hcf hk hnab hL
  obtain ⟨n, hnn⟩ : ∃ n, L.length = n := ⟨_, rfl⟩
  have hown0 := H0.out.own
  rw [hnn] at c6 HCF HNB HL hown0
  have hn1 : n ≤ 1000000000 := by have := HL.out; omega
  have HNN := Lib.hid hnn
  clear hn hl
  generalize hpp : st.pos = p at *
  have HP := Lib.hid hpp
  clear hpp
  go_enter Try.func68, Try.ntmps68
  go_upto_region 0 with fail
  refine wp_region_anyT (fun j W => j < 16 → W.cell? ⟨ab, 6, none⟩ = some (.slice (some ⟨sb, 0, none⟩) n sc) ∧ W.cell? ⟨ab, 7, none⟩ = some (.int .i64 (p : Int))) (by kernel_rfl) ?_
  have hS0 := HCF.out _ _ (Fr.refl (ch := nothing) w.drew) id
  generalize hwq : w.drew = wq at *
  refine anyT_take (R := _) (i := 0) (v := ?_) (fun j => decide (j < 16)) (fun j w h k => k (of_decide_eq_true h)) (fun w h _ => h) rfl (by kernel_rfl) (fun _ _ _ h => h) _ _ _ _ (by kernel_rfl) (by kernel_rfl) (by kernel_rfl) (by kernel_rfl) (Or.inl ⟨by rfl, ?_⟩) (by assumption) ?_
  rotate_left
  · (intro w hSw; (try dsimp only at hSw); go_simp)
    try with_reducible rfl
  refine anyT_take (R := _) (i := 1) (v := ?_) (fun j => decide (j < 16)) (fun j w h k => k (of_decide_eq_true h)) (fun w h _ => h) rfl (by kernel_rfl) (fun _ _ _ h => h) _ _ _ _ (by kernel_rfl) (by kernel_rfl) (by kernel_rfl) (by kernel_rfl) (Or.inl ⟨by rfl, ?_⟩) (by assumption) ?_
  rotate_left
  · (intro w hSw; (try dsimp only at hSw); go_simp)
    try with_reducible rfl
  refine anyT_take (R := _) (i := 2) (v := ?_) (fun j => decide (j < 16)) (fun j w h k => k (of_decide_eq_true h)) (fun w h _ => h) rfl (by kernel_rfl) (fun _ _ _ h => h) _ _ _ _ (by kernel_rfl) (by kernel_rfl) (by kernel_rfl) (by kernel_rfl) (Or.inl ⟨by rfl, ?_⟩) (by assumption) ?_
  rotate_left
  · (intro w hSw; (try dsimp only at hSw); go_simp)
    try with_reducible rfl
  refine anyT_take (R := _) (i := 3) (v := ?_) (fun j => decide (j < 16)) (fun j w h k => k (of_decide_eq_true h)) (fun w h _ => h) rfl (by kernel_rfl) (fun _ _ _ h => h) _ _ _ _ (by kernel_rfl) (by kernel_rfl) (by kernel_rfl) (by kernel_rfl) (Or.inl ⟨by rfl, ?_⟩) (by assumption) ?_
  rotate_left
  · (intro w hSw; (try dsimp only at hSw); go_simp)
    try with_reducible rfl
  refine anyT_take (R := _) (i := 4) (v := ?_) (fun j => decide (j < 16)) (fun j w h k => k (of_decide_eq_true h)) (fun w h _ => h) rfl (by kernel_rfl) (fun _ _ _ h => h) _ _ _ _ (by kernel_rfl) (by kernel_rfl) (by kernel_rfl) (by kernel_rfl) (Or.inl ⟨by rfl, ?_⟩) (by assumption) ?_
  rotate_left
  · (intro w hSw; (try dsimp only at hSw); go_simp)
    try with_reducible rfl
  refine anyT_take (R := _) (i := 5) (v := ?_) (fun j => decide (j < 16)) (fun j w h k => k (of_decide_eq_true h)) (fun w h _ => h) rfl (by kernel_rfl) (fun _ _ _ h => h) _ _ _ _ (by kernel_rfl) (by kernel_rfl) (by kernel_rfl) (by kernel_rfl) (Or.inl ⟨by rfl, ?_⟩) (by assumption) ?_
  rotate_left
  · (intro w hSw; (try dsimp only at hSw); go_simp)
    try with_reducible rfl
  refine anyT_take (R := _) (i := 6) (v := ?_) (fun j => decide (j < 16)) (fun j w h k => k (of_decide_eq_true h)) (fun w h _ => h) rfl (by kernel_rfl) (fun _ _ _ h => h) _ _ _ _ (by kernel_rfl) (by kernel_rfl) (by kernel_rfl) (by kernel_rfl) (Or.inl ⟨by rfl, ?_⟩) (by assumption) ?_
  rotate_left
  · (intro w hSw; (try dsimp only at hSw); go_simp)
    try with_reducible rfl
  refine anyT_take (R := _) (i := 7) (v := ?_) (fun j => decide (j < 16)) (fun j w h k => k (of_decide_eq_true h)) (fun w h _ => h) rfl (by kernel_rfl) (fun _ _ _ h => h) _ _ _ _ (by kernel_rfl) (by kernel_rfl) (by kernel_rfl) (by kernel_rfl) (Or.inl ⟨by rfl, ?_⟩) (by assumption) ?_
  rotate_left
  · (intro w hSw; (try dsimp only at hSw); go_simp)
    try with_reducible rfl
  refine anyT_take (R := _) (i := 8) (v := ?_) (fun j => decide (j < 16)) (fun j w h k => k (of_decide_eq_true h)) (fun w h _ => h) rfl (by kernel_rfl) (fun _ _ _ h => h) _ _ _ _ (by kernel_rfl) (by kernel_rfl) (by kernel_rfl) (by kernel_rfl) (Or.inl ⟨by rfl, ?_⟩) (by assumption) ?_
  rotate_left
  · (intro w hSw; (try dsimp only at hSw); go_simp)
    try with_reducible rfl
  refine anyT_take (R := _) (i := 9) (v := ?_) (fun j => decide (j < 16)) (fun j w h k => k (of_decide_eq_true h)) (fun w h _ => h) rfl (by kernel_rfl) (fun _ _ _ h => h) _ _ _ _ (by kernel_rfl) (by kernel_rfl) (by kernel_rfl) (by kernel_rfl) (Or.inl ⟨by rfl, ?_⟩) (by assumption) ?_
  rotate_left
  · (intro w hSw; (try dsimp only at hSw); go_simp)
    try with_reducible rfl
  refine anyT_take (R := _) (i := 10) (v := ?_) (fun j => decide (j < 16)) (fun j w h k => k (of_decide_eq_true h)) (fun w h _ => h) rfl (by kernel_rfl) (fun _ _ _ h => h) _ _ _ _ (by kernel_rfl) (by kernel_rfl) (by kernel_rfl) (by kernel_rfl) (Or.inl ⟨by rfl, ?_⟩) (by assumption) ?_
  rotate_left
  · (intro w hSw; (try dsimp only at hSw); go_simp)
    try with_reducible rfl
  refine anyT_take (R := _) (i := 11) (v := ?_) (fun j => decide (j < 16)) (fun j w h k => k (of_decide_eq_true h)) (fun w h _ => h) rfl (by kernel_rfl) (fun _ _ _ h => h) _ _ _ _ (by kernel_rfl) (by kernel_rfl) (by kernel_rfl) (by kernel_rfl) (Or.inl ⟨by rfl, ?_⟩) (by assumption) ?_
  rotate_left
  · (intro w hSw; (try dsimp only at hSw); go_simp)
    try with_reducible rfl
  refine anyT_ready (rs := [12]) (by kernel_rfl) (by simp) ?_
  intro j hj
  obtain rfl := List.mem_singleton.1 hj
  clear hj
  refine wpOp_plain rfl rfl ?_
  go_simp
  have hka : ∀ ch, Fr ch wq (wq.alloc (Obj.cells #[.int .i64 dst, .int .i64 (-1), .int .i64 (p : Int), .slice none 0 0] 90 (0, 0))) := fun ch => Fr.alloc _ _
  refine ⟨HCF.out _ _ (hka nothing) id, ?_⟩
  have hown1 := hown0.alloc (Obj.cells #[.int .i64 dst, .int .i64 (-1), .int .i64 (p : Int), .slice none 0 0] 90 (0, 0))
  have hna := news_cells (l := [.int .i64 dst, .int .i64 (-1), .int .i64 (p : Int), .slice none 0 0]) (alloc_obj wq (Obj.cells #[.int .i64 dst, .int .i64 (-1), .int .i64 (p : Int), .slice none 0 0] 90 (0, 0)))
  have hwz : ab < wq.heap.size := (Array.getElem?_eq_some_iff.1 H0.out.obj).1
  have hBa : B ≤ (wq.alloc (Obj.cells #[.int .i64 dst, .int .i64 (-1), .int .i64 (p : Int), .slice none 0 0] 90 (0, 0))).heap.size := by simp; omega
  have HKA := Lib.hid hka
  clear hS0 hka
  refine anyT_ready (rs := [13]) (by kernel_rfl) (by simp) ?_
  intro j hj
  obtain rfl := List.mem_singleton.1 hj
  clear hj
  refine wpOp_plain rfl rfl ?_
  refine wp_append_lies _ _ _ 86 rfl B 90 i0 _ 4 48 Try.underlying86 hi hz0 hz1 hz2 (by rfl) (by decide) (.slice (some ⟨sb, 0, none⟩) n sc) _ _ (by rfl) hown1 ⟨wq.heap.size, 0, none⟩ 1 1 [.int .i64 dst, .int .i64 (-1), .int .i64 (p : Int), .slice none 0 0] (by rfl) (by rfl) hna (by simp [Value.oneCell']) (by omega) (by unfold maxLen; omega) (by omega) hBa _ rfl ?_
  intro g cap w4 hown4 hgrow4 hat4 hlt4
  have hF4 : Fr (fun b => (Value.slice (some ⟨sb, 0, none⟩) n sc).ownBlock = some b) wq w4 := (HKA.out _).trans (Fr.grown hgrow4)
  have hob4 := hF4.obj H0.out.obj HNB.out
  have z6 := obj_frozen hob4 6
  have hS4 := HCF.out _ _ hF4 HNB.out
  have H4 := Lib.hid (And.intro hown4 (And.intro hF4 hob4))
  clear hown4 hF4 hob4 hgrow4 hat4 hlt4 hna hBa hown1
  refine ⟨fun _ => hS4, ?_⟩
  obtain ⟨x6, x7⟩ := hS4
  refine anyT_ready (rs := [14]) (by kernel_rfl) (by simp) ?_
  intro j hj
  obtain rfl := List.mem_singleton.1 hj
  clear hj
  refine wpOp_plain rfl rfl ?_
  go_simp
  refine anyT_ready (rs := [15]) (by kernel_rfl) (by simp) ?_
  intro j hj
  obtain rfl := List.mem_singleton.1 hj
  clear hj
  refine wpOp_plain rfl rfl ?_
  go_simp
  refine anyT_ready (rs := [16]) (by kernel_rfl) (by simp) ?_
  intro j hj
  obtain rfl := List.mem_singleton.1 hj
  clear hj
  refine wpOp_plain rfl rfl ?_
  go_simp
  refine anyT_done (by kernel_rfl) ?_ _
  have HL0 := Lib.hid hwq
  clear hwq
  have o5 := setCell_obj H4.out.2.2 (i := 6) (.slice (some ⟨g, 0, none⟩) (n + 1) cap)
  have y7 := obj_cell o5 7 (v := .int .i64 (p : Int)) (by rw [← HP.out]; rfl)
  have y8 := obj_cell o5 8 (v := .int .i64 (st.since : Int)) rfl
  have z7 := obj_frozen o5 7
  have z8 := obj_frozen o5 8
  have H5 := Lib.hid o5
  clear o5 x6 x7 z6 hwz c6 c7
  generalize hw5 : w4.setCell ⟨ab, 6, none⟩ (.slice (some ⟨g, 0, none⟩) (n + 1) cap) = w5 at *
  have HW5 := Lib.hid hw5
  clear hw5
  go_wp2
  go_end0
  obtain ⟨hown4, hF4, hob4⟩ := H4.out
  have o6 := setCell_obj H5.out (i := 7) (.int .i64 ((p : Int) + 1))
  have o7 := setCell_obj o6 (i := 8) (.int .i64 0)
  have hkid : ∀ x ∈ L, KidsV w4 (isTr B w4) x.1.2.kids x.2 := fun x hx => kids_own hown0 (by decide) hF4 (H0.out.kids x hx)
  have hlow : Below B w w5 := by
    rw [← HW5.out]
    exact (HK.out.below (by omega) fun _ e => e.elim).trans ((hF4.below (by have := (Array.getElem?_eq_some_iff.1 H0.out.obj).1; omega) fun b e => (ownObj hown0 b e).1).trans ((Fr.setCell w4 ⟨ab, 6, none⟩ _).below (by have := (Array.getElem?_eq_some_iff.1 hob4).1; omega) fun b e => by have e' : b = ab := e; omega))
  have hsz : ab < w5.heap.size := (Array.getElem?_eq_some_iff.1 H5.out).1
  have hlow2 : Below B w ((w5.setCell ⟨ab, 7, none⟩ (.int .i64 ((p : Int) + 1))).setCell ⟨ab, 8, none⟩ (.int .i64 0)) :=
    hlow.trans (((Fr.setCell w5 ⟨ab, 7, none⟩ (.int .i64 ((p : Int) + 1))).trans (Fr.setCell _ ⟨ab, 8, none⟩ (.int .i64 0))).below (by omega) fun b e => by have e' : b = ab := e; omega)
  have hmk := ((mk_none HK.out).trans ((mk_own hown0 hF4).trans (mk_set (i := 6) hob4 (.slice (some ⟨g, 0, none⟩) (n + 1) cap)))).trans (by rw [HW5.out]; exact (mk_set (i := 7) H5.out (.int .i64 ((p : Int) + 1))).trans (mk_set (i := 8) o6 (.int .i64 0)))
  refine ⟨.slice (some ⟨g, 0, none⟩) (n + 1) cap, L ++ [((dst, ⟨-1, (p : Int), .nil⟩), .slice none 0 0)], rfl, ⟨?_, ?_, ?_, ?_, ?_⟩, hlow2, hmk⟩
  · simpa using o7
  · have h1 := own_structS (i := 6) (v := .slice (some ⟨g, 0, none⟩) (n + 1) cap) hob4 hown4 (by decide)
    rw [HW5.out] at h1
    have h2 := own_structS (i := 8) (v := .int .i64 0) o6 (own_structS (i := 7) (v := .int .i64 ((p : Int) + 1)) H5.out h1 (by decide)) (by decide)
    rw [List.length_append, List.flatMap_append, HNN.out]
    exact h2
  · rw [List.map_append, H0.out.row]
    rfl
  · intro x hx
    have key : KidsV w4 (isTr B w4) x.1.2.kids x.2 := by
      rcases List.mem_append.1 hx with hx | hx
      · exact hkid x hx
      · rw [List.mem_singleton.1 hx]
        exact KidsV.nil (by unfold maxLen; omega)
    have h1 := kids_set (i := 6) (v := .slice (some ⟨g, 0, none⟩) (n + 1) cap) hob4 (by decide) key
    rw [HW5.out] at h1
    exact kids_set (i := 8) (v := .int .i64 0) o6 (by decide) (kids_set (i := 7) (v := .int .i64 ((p : Int) + 1)) H5.out (by decide) h1)
  · have h1 := own_structS (i := 6) (v := .slice (some ⟨g, 0, none⟩) (n + 1) cap) hob4 (own_otherS hown0 hF4 H0.out.prods (by decide)) (by decide)
    rw [HW5.out] at h1
    exact own_structS (i := 8) (v := .int .i64 0) o6 (own_structS (i := 7) (v := .int .i64 ((p : Int) + 1)) H5.out h1 (by decide)) (by decide)
end Go.Proofs.Ytpnihegmhalcfaa
