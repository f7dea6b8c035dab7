/-
  Chapter 18's statements: the chapter's example.
-/
import Derived.Test.YtfhleelechbdmaaDoorFiF
namespace Go.Proofs.YtfhleelechbdmaaDoor
open Go.RowKit
set_option maxHeartbeats 400000

def plS (n : ByteArray) : Sym := ⟨n, nNone, 0, 0⟩
def plP (left : Int) (right : List Int) : Prd := ⟨left, right, -1, false, nNone, 0⟩
theorem plS_ok (n : ByteArray) : SymOk (plS n) := ⟨show i64 0 by unfold i64; decide, (by decide : (0 : Int) ≤ 0 ∧ (0 : Int) ≤ 255)⟩
theorem plP_ok {l : Int} {r : List Int} (hl : i64 l) : PrdOk (plP l r) := ⟨hl, show i64 (-1) by unfold i64; decide, show i64 0 by unfold i64; decide⟩
/-- The chapter's grammar. -/
def exG : Gram := ⟨3, [plS ⟨#[36, 101, 110, 100]⟩, plS ⟨#[65]⟩, plS ⟨#[66]⟩, plS ⟨#[36, 97, 99, 99, 101, 112, 116]⟩, plS ⟨#[115]⟩], [plP 3 [4], plP 4 [1, 4], plP 4 []]⟩
theorem ex_right : rightG exG = true := by kernel_rfl
theorem ex_any (w : World) :
    Calls Tryd.prog 12 #[] w fun e w' => ∃ v, e = .returned v ∧ IsGram w' v exG ∧ Below w.heap.size w w' := by
  go_enter Tryd.func12, Tryd.ntmps12
  go_wp2
  go_returns
  refine ⟨_, rfl, ?_, by repeat (first | exact Below.refl _ _ | refine below_alloc ?_)⟩
  have key : ∀ wf : World,
      wf.heap[w.heap.size + 1]? = some (.cells (exG.syms.flatMap symCells).toArray 43 (0, 0)) →
      wf.heap[w.heap.size + 1 + 1]? = some (.cells #[.int .i64 4] 3 (0, 0)) →
      wf.heap[w.heap.size + 1 + 1 + 1]? = some (.cells #[.int .i64 1, .int .i64 4] 3 (0, 0)) →
      wf.heap[w.heap.size + 1 + 1 + 1 + 1]? = some (.cells (([(plP 3 [4], .slice (some ⟨w.heap.size + 1 + 1, 0, none⟩) 1 1), (plP 4 [1, 4], .slice (some ⟨w.heap.size + 1 + 1 + 1, 0, none⟩) 2 2), (plP 4 [], .slice none 0 0)] : List (Prd × Value)).flatMap fun x => prdCells x.1 x.2).toArray 45 (0, 0)) →
      IsGram wf (.agg #[.int .i64 3, .slice (some ⟨w.heap.size + 1, 0, none⟩) 5 5, .slice (some ⟨w.heap.size + 1 + 1 + 1 + 1, 0, none⟩) 3 3]) exG := by
    intro wf h1 h2 h3 h5
    refine ⟨show i64 3 by unfold i64; decide, _, _, rfl, syms_obj h1 rfl ?_ rfl (by simp [exG]), ?_⟩
    · intro s hs
      simp only [exG, List.mem_cons, List.not_mem_nil, or_false] at hs
      rcases hs with rfl | rfl | rfl | rfl | rfl <;> exact plS_ok _
    · refine prds_obj h5 rfl ?_ rfl (by simp)
      intro x hx
      simp only [List.mem_cons, List.not_mem_nil, or_false] at hx
      rcases hx with rfl | rfl | rfl
      · exact ⟨plP_ok (by unfold i64; decide), ints_obj (xs := [4]) h2 rfl (by decide) rfl (by decide)⟩
      · exact ⟨plP_ok (by unfold i64; decide), ints_obj (xs := [1, 4]) h3 rfl (by decide) rfl (by decide)⟩
      · exact ⟨plP_ok (by unfold i64; decide), Ints.nil _⟩
  refine key _ ?_ ?_ ?_ ?_
  all_goals repeat (first | (refine alloc_at ?_; simp; done) | refine alloc_older ?_)

theorem nul_left {G : Gram} {s : Nat} (h : Nul G s) : ∃ p ∈ G.prods, p.left.toNat = s ∧ ∀ x ∈ p.right, Nul G x.toNat := by
  cases h with
  | prod hp h => exact ⟨_, hp, rfl, h⟩
theorem ex_nul : nulL exG = [false, false, false, true, true] := by
  have hin := right_in ex_right
  have h4 : Nul exG 4 := Nul.prod (G := exG) (p := plP 4 []) (by simp [exG]) (by simp [plP])
  have h3 : Nul exG 3 := Nul.prod (G := exG) (p := plP 3 [4]) (by simp [exG]) (by simp [plP]; exact h4)
  have hno : ∀ s, s ≠ 3 → s ≠ 4 → ¬ Nul exG s := fun s e3 e4 h => by
    obtain ⟨p, hp, h1, -⟩ := nul_left h
    simp only [exG, List.mem_cons, List.not_mem_nil, or_false] at hp
    rcases hp with rfl | rfl | rfl <;> simp [plP] at h1 <;> omega
  refine list_of_at (by rw [nulL_len]; rfl) fun s => ?_
  rw [nulL_iff hin]
  rcases (by omega : s = 0 ∨ s = 1 ∨ s = 2 ∨ s = 3 ∨ s = 4 ∨ 5 ≤ s) with rfl | rfl | rfl | rfl | rfl | hs
  · simp [atB, hno 0]
  · simp [atB, hno 1]
  · simp [atB, hno 2]
  · simp [atB, h3]
  · simp [atB, h4]
  · have : ¬ Nul exG s := hno s (by omega) (by omega)
    simp only [this, atB, false_iff]
    rw [List.getElem?_eq_none (by simpa using hs)]
    simp
theorem ex_fst (t : Nat) : Fst exG 4 t ↔ t = 1 := by
  have hn1 : ¬ Nul exG 1 := fun h => by
    have := (nulL_iff (right_in ex_right)).2 h
    rw [ex_nul] at this
    simp [atB] at this
  have left : ∀ {p : Prd}, p ∈ exG.prods → (p = plP 3 [4] ∨ p = plP 4 [1, 4] ∨ p = plP 4 []) := fun hp => by simpa [exG] using hp
  have h1 : ∀ s t, Fst exG s t → s = 1 → t = 1 := fun s t h e => by
    cases h with
    | term _ => exact e
    | prod hp _ _ _ => rcases left hp with rfl | rfl | rfl <;> simp [plP] at e
  have h4 : ∀ s t, Fst exG s t → s = 4 → t = 1 := fun s t h e => by
    cases h with
    | term h => subst e; exact absurd h (by decide)
    | @prod p a b x t hp he hy hf =>
      rcases left hp with rfl | rfl | rfl
      · simp [plP] at e
      · simp only [plP] at he
        match a, he with
        | [], he =>
          simp only [List.nil_append, List.cons.injEq] at he
          obtain ⟨rfl, -⟩ := he
          exact h1 _ _ hf rfl
        | c :: a, he =>
          simp only [List.cons_append, List.cons.injEq] at he
          obtain ⟨rfl, -⟩ := he
          exact absurd (hy 1 (by simp)) hn1
      · simp [plP] at he
  refine ⟨fun h => h4 _ _ h rfl, ?_⟩
  rintro rfl
  exact Fst.prod (G := exG) (p := plP 4 [1, 4]) (a := []) (b := [4]) (x := 1) (by simp [exG]) rfl (by simp) (Fst.term (by decide))
theorem trues_far (L : List Bool) (k : Nat) : (List.range (L.length + k)).filter (fun i => L[i]?.getD false) = trues L := by
  induction k with
  | zero => rfl
  | succ k ih =>
    rw [← Nat.add_assoc, List.range_succ, List.filter_append, ih, List.filter_cons, List.getElem?_eq_none (by omega)]
    simp
theorem trues_of {L M : List Bool} (h : ∀ t, atB L t = true ↔ atB M t = true) : trues L = trues M := by
  rw [← trues_far L M.length, ← trues_far M L.length, Nat.add_comm]
  refine List.filter_congr fun t _ => ?_
  have := h t
  unfold atB at this
  cases h1 : L[t]?.getD false <;> cases h2 : M[t]?.getD false <;> simp_all
theorem ex_row {S : List (List Bool)} (h : ∀ s t, atB (rowAt S s) t = true ↔ Fst exG s t) : trues (rowAt S 4) = [1] := by
  have : trues (rowAt S 4) = trues [false, true] := trues_of fun t => by
    rw [h, ex_fst]
    match t with
    | 0 => simp [atB]
    | 1 => simp [atB]
    | t + 2 => simp [atB]
  rw [this]
  decide
theorem ex_of1 {S : List (List Bool)} (h : ∀ s t, atB (rowAt S s) t = true ↔ Fst exG s t) : trues (ofB 3 S (nulL exG) [4] 2) = [1, 2] := by
  have h4 := ex_row h
  rw [ex_nul]
  have hf : flatS S (preR [false, false, false, true, true] [4]) = [1] := by
    simp [preR, atB, flatS, h4]
  unfold ofB
  rw [hf]
  decide
theorem ex_of2 {S : List (List Bool)} (h : ∀ s t, atB (rowAt S s) t = true ↔ Fst exG s t) : trues (ofB 3 S (nulL exG) [4, 4] (-1)) = [1] := by
  have h4 := ex_row h
  rw [ex_nul]
  have hf : flatS S (preR [false, false, false, true, true] [4, 4]) = [1, 1] := by
    simp [preR, atB, flatS, h4]
  unfold ofB
  rw [hf]
  decide

theorem of_ex1 (v : Value) (w : World) (hg : IsGram w v exG) (hT : Tab w) : Calls Tryd.prog 13 #[v, .slice (some ⟨w.heap.size, 0, none⟩) 1 1, .int .i64 2] (w.alloc (Obj.cells #[.int .i64 4] 3 (0, 0))) fun e w' =>
    ∃ r, e = .returned r ∧ RowI w' w.heap.size r [1, 2] ∧ Below w.heap.size w w' := by
  refine (of_any exG ex_right v _ (hg.fr (Fr.alloc _ _)) (hT.fr (Fr.alloc (ch := nothing) _ _) id) _ [4] (ints_obj (alloc_obj _ _) rfl (by decide) rfl (by decide)) (by decide) 2 (by decide)).mono ?_
  rintro e w' ⟨r, S, rfl, -, hr, hlaw, hb⟩
  rw [show exG.terms.toNat = 3 from rfl, ex_of1 hlaw] at hr
  exact ⟨r, rfl, own_down hr (by simp), ((Below.refl _ w).alloc (Nat.le_refl _) _).trans (hb.mono (by simp))⟩
theorem of_ex2 (v : Value) (w : World) (hg : IsGram w v exG) (hT : Tab w) : Calls Tryd.prog 13 #[v, .slice (some ⟨w.heap.size, 0, none⟩) 2 2, .int .i64 (-1)] (w.alloc (Obj.cells #[.int .i64 4, .int .i64 4] 3 (0, 0))) fun e w' =>
    ∃ r, e = .returned r ∧ RowI w' w.heap.size r [1] ∧ Below w.heap.size w w' := by
  refine (of_any exG ex_right v _ (hg.fr (Fr.alloc _ _)) (hT.fr (Fr.alloc (ch := nothing) _ _) id) _ [4, 4] (ints_obj (alloc_obj _ _) rfl (by decide) rfl (by decide)) (by decide) (-1) (by decide)).mono ?_
  rintro e w' ⟨r, S, rfl, -, hr, hlaw, hb⟩
  rw [show exG.terms.toNat = 3 from rfl, ex_of2 hlaw] at hr
  exact ⟨r, rfl, own_down hr (by simp), ((Below.refl _ w).alloc (Nat.le_refl _) _).trans (hb.mono (by simp))⟩
theorem nullable_ex (v : Value) (w : World) (hg : IsGram w v exG) : Calls Tryd.prog 9 #[v] w fun e w' =>
    ∃ nb, e = .returned (.slice (some ⟨nb, 0, none⟩) 5 5) ∧ w'.heap[nb]? = some (boolsObj [false, false, false, true, true]) ∧ Below w.heap.size w w' := by
  refine (nullable_any exG ex_right v w hg).mono ?_
  rintro e w' ⟨nb, rfl, h1, h2⟩
  rw [ex_nul] at h1
  exact ⟨nb, rfl, h1, h2⟩
theorem rowI_first {w : World} {B : Nat} {v : Value} {x : Nat} {l : List Nat} (h : RowI w B v (x :: l)) : ∃ g c, v = .slice (some ⟨g, 0, none⟩) (l.length + 1) c ∧ Cells w g 0 ((x :: l).map fun x : Nat => Value.int .i64 (x : Int)) := by
  obtain ⟨a, c, rfl, h2⟩ := rowI_parts h
  obtain ⟨g, rfl, _, hc⟩ := h2.resolve_left (by simp)
  exact ⟨g, c, rfl, hc⟩
theorem rowI_len1 {w : World} {B : Nat} {v : Value} (h : RowI w B v [1]) : ∃ g c, v = .slice (some ⟨g, 0, none⟩) 1 c ∧ w.cell? ⟨g, 0, none⟩ = some (.int .i64 1) := by
  obtain ⟨g, c, rfl, hc⟩ := rowI_first h
  exact ⟨g, c, rfl, hc 0 (by simp)⟩
theorem rowI_len2 {w : World} {B : Nat} {v : Value} (h : RowI w B v [1, 2]) : ∃ g c, v = .slice (some ⟨g, 0, none⟩) 2 c ∧ w.cell? ⟨g, 1, none⟩ = some (.int .i64 2) := by
  obtain ⟨g, c, rfl, hc⟩ := rowI_first h
  exact ⟨g, c, rfl, hc 1 (by simp)⟩
theorem first_ex (v : Value) (w : World) (hg : IsGram w v exG) (hT : Tab w) : Calls Tryd.prog 10 #[v] w fun e w' =>
    ∃ rg rc u, e = .returned (.slice (some ⟨rg, 0, none⟩) 5 rc) ∧ w'.cell? ⟨rg, 4, none⟩ = some u ∧ RowI w' w.heap.size u [1] ∧ Below w.heap.size w w' := by
  refine (firsts_any exG ex_right v w hg hT).mono ?_
  rintro e w' ⟨r, vs, S, rfl, hvs, hO, hlaw, hb⟩
  obtain ⟨a, c, rfl, _, _, hx⟩ := own_as_cells hO.own
  have h5 : vs.length = 5 := hvs
  obtain ⟨g, rfl, _, hc⟩ := hx.resolve_left fun e => by rw [e] at h5; simp at h5
  have hl : 4 < vs.length := by omega
  have hu := hO.rows 4 vs[4] (List.getElem?_eq_getElem hl)
  rw [ex_row hlaw] at hu
  exact ⟨g, c, vs[4], by rw [h5], by have := hc 4 hl; simpa using this, hu, hb⟩

set_option maxRecDepth 100000 in
set_option maxHeartbeats 4000000 in
theorem awake18_any (w : World) (hT : Tab w) : Calls Tryd.prog 4 #[] w fun e w' => e = .returned (.bool true) ∧ Below w.heap.size w w' := by
  have HT := Lib.hid hT
  clear hT
  go_enter Tryd.func4, Tryd.ntmps4
  go_upto_region 1 with fail
  refine wp_atW (F := fun W => Fr nothing w W) (Fr.refl _ _) ?_
  intro W0 hF0
  go_upto_region 2 with (first | (go_at_call 12; refine (ex_any _).mono ?_; rintro e w1 ⟨v1, rfl, hg1, hb1⟩; have hF0 := hF0.trans (Fr.new hb1)) | (go_at_call 9; refine (nullable_ex _ _ hg1).mono ?_; rintro e w2 ⟨nb, rfl, hnb, hb2⟩; have hF0 := hF0.trans (Fr.new hb2)) | (go_at_call 10; refine (first_ex _ _ hg1 (HT.out.fr hF0 id)).mono ?_; rintro e w4 ⟨rg, rc, u, rfl, hu, hr, hb4⟩; have hF0 := hF0.trans (Fr.new hb4); have hnb := ((Fr.new hb1).trans (Fr.new hb4)).obj hnb id))
  refine wp_atW (F := fun W => Fr nothing w W ∧ W.heap[nb]? = some (boolsObj [false, false, false, true, true]) ∧ W.cell? ⟨rg, 4, none⟩ = some u ∧ ∃ B, RowI W B u [1]) ⟨hF0, hnb, hu, _, hr⟩ ?_
  clear hb1 hb2 hb4 hF0 hnb hu hr hg1
  rintro W1 ⟨hF0, hnb, hu, B, hr⟩
  have HQ := Lib.hid (And.intro hF0 (And.intro hnb (And.intro hu hr)))
  clear hnb hu hr
  have hG := Fr.refl nothing W1
  go_upto_region 3 with (first | (go_at_call 12; refine (ex_any _).mono ?_; rintro e w1 ⟨v1, rfl, hg1, hb1⟩; have hF0 := hF0.trans (Fr.new hb1); have hG := hG.trans (Fr.new hb1)) | (go_at_call 13; first | (with_reducible refine Calls.mono (of_ex1 _ _ hg1 (HT.out.fr hF0 id)) ?_; rintro e w2 ⟨r1, rfl, hr1, hb2⟩; have hF0 := hF0.trans (Fr.new hb2); have hG := hG.trans (Fr.new hb2)) | (refine Calls.mono (of_ex2 _ _ hg1 (HT.out.fr hF0 id)) ?_; rintro e w3 ⟨r2, rfl, hr2, hb3⟩; have hF0 := hF0.trans (Fr.new hb3); have hG := hG.trans (Fr.new hb3); have hr1 := own_keep hr1 ((Fr.new hb1).trans (Fr.new hb3)) fun _ _ e => e)))
  obtain ⟨hFW, hnb, hu, hr⟩ := HQ.out
  have hnb3 := hG.obj hnb id
  have n4 := obj_cell hnb3 4 (v := .bool true) rfl
  have n1 := obj_cell hnb3 1 (v := .bool false) rfl
  have hu3 := hG.cell hu id
  obtain ⟨ug, uc, rfl, u0⟩ := rowI_len1 (own_keep hr hG fun _ _ e => e)
  obtain ⟨ag, ac, rfl, a1⟩ := rowI_len2 (own_keep hr1 (Fr.refl nothing _) fun _ _ e => e)
  obtain ⟨bg, bc, rfl, b0⟩ := rowI_len1 hr2
  have HB := Lib.hid hF0.below_new
  clear hnb hu hr hr1 hr2 hnb3 hG hFW hb1 hb2 hb3 hF0
  go_wp2
  go_ret
  exact ⟨rfl, HB.out⟩
end Go.Proofs.YtfhleelechbdmaaDoor
