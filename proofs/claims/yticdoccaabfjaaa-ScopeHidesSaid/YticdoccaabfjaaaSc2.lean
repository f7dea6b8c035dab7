/-
  Package scope: own: a type in memory of its own.
-/
import Derived.Test.YticdoccaabfjaaaSc1
namespace Go.Proofs.Yticdoccaabfjaaa
open Go.RowKit
set_option maxHeartbeats 400000

theorem IsTy.new {w w' : World} {S : Nat → Prop} {t : Ty} {v : Value} (h : IsTy w S t v) (k : Fr nothing w w') : IsTy w' S t v := h.fr k fun _ s => ⟨fun e => e, s⟩
/-- The first of a list's parts, in lists of their own. -/
structure Kids (w : World) (base : Nat) (el : List Ty) (v : Value) (K : Nat) (rs : Nat → Value) (Ss : Nat → Nat → Prop) : Prop where
  ty : ∀ j (h : j < el.length), j < K → OwnTy w (Ss j) el[j] (rs j)
  inr : ∀ j, j < K → ∀ g, Ss j g → base ≤ g ∧ g < w.heap.size ∧ v.ownBlock ≠ some g
  dis : ∀ i j, i < j → j < K → ∀ g, Ss i g → ¬ Ss j g
  own : w.ownsRow base 37 3 v K (rowCells rs K)
theorem Kids.next {w w' : World} {base : Nat} {el : List Ty} {v v' x : Value} {K : Nat} {rs : Nat → Value} {Ss : Nat → Nat → Prop} {lo hi : Nat} (h : Kids w base el v K rs Ss) (hK : K < el.length)
    (hlo : w.heap.size ≤ lo) (hb : base ≤ lo) (hlh' : lo ≤ hi) (hhi : hi ≤ w'.heap.size) (f : Fr (fun g => v.ownBlock = some g) w w') (hv' : ∀ g, v'.ownBlock = some g → v.ownBlock = some g ∨ hi ≤ g)
    (hx : OwnTy w' (Rng lo hi) el[K] x) (own : w'.ownsRow base 37 3 v' (K + 1) (rowCells rs K ++ tyCells x)) :
    Kids w' base el v' (K + 1) (fun j => if j < K then rs j else x) (fun j => if j < K then Ss j else Rng lo hi) := by
  have hvl : ∀ g, v.ownBlock = some g → g < w.heap.size := fun g e => (h.own.lt g e).2
  have hlh : ∀ g, Rng lo hi g → lo ≤ g ∧ g < hi := fun g e => e
  refine ⟨fun j hj hjK => ?_, fun j hjK g hg => ?_, fun i j hij hjK g hi' hj' => ?_, ?_⟩
  · by_cases e : j < K
    · simp only [e, if_true]
      exact (h.ty j hj e).fr f fun g hg => ⟨fun e' => (h.inr j e g hg).2.2 e', hg⟩
    · obtain rfl : j = K := by omega
      simp only [e, if_false]
      exact hx
  · by_cases e : j < K
    · simp only [e, if_true] at hg
      obtain ⟨h1, h2, h3⟩ := h.inr j e g hg
      refine ⟨h1, Nat.lt_of_lt_of_le h2 f.size, fun e' => ?_⟩
      rcases hv' g e' with h4 | h4
      · exact h3 h4
      · have := f.size
        omega
    · simp only [e, if_false] at hg
      obtain ⟨h1, h2⟩ := hlh g hg
      refine ⟨Nat.le_trans hb h1, Nat.lt_of_lt_of_le h2 hhi, fun e' => ?_⟩
      rcases hv' g e' with h4 | h4
      · have := hvl g h4
        omega
      · omega
  · have hi1 : i < K := by omega
    simp only [hi1, if_true] at hi'
    by_cases e : j < K
    · simp only [e, if_true] at hj'
      exact h.dis i j hij e g hi' hj'
    · simp only [e, if_false] at hj'
      have := (h.inr i hi1 g hi').2.1
      have := (hlh g hj').1
      omega
  · rw [rowCells_snoc (rs := rs) (x := x) (fun i hi => by simp [hi]) (by simp)]
    exact own
theorem Kids.nil (w : World) (base : Nat) (el : List Ty) : Kids w base el (.slice none 0 0) 0 (fun _ => undef) fun _ _ => False :=
  ⟨fun j _ h => by omega, fun j h => by omega, fun i j _ h => by omega, World.ownsRow_nil _ _ _ _⟩
theorem Kids.own_ty {w w' : World} {base : Nat} {el : List Ty} {v : Value} {K : Nat} {rs : Nat → Value} {Ss : Nat → Nat → Prop} {k : Int} {n : ByteArray} {hi : Nat} (h : Kids w base el v K rs Ss) (hK : K = el.length) (hk : 0 ≤ k ∧ k < 256) (hl : el.length * 48 ≤ 140737488351232)
    {ch : Nat → Prop} (f : Fr ch w w') (hc : ∀ g, base ≤ g → ¬ ch g) (hhi : w.heap.size ≤ hi) : OwnTy w' (Rng base hi) (.mk k n el) (.agg #[.int .u8 k, .string n, v]) := by
  subst hK
  obtain ⟨a, cap, rfl, _⟩ := own_cells h.own
  refine .mk rs Ss hk hl (own_base (own_frB h.own f hc) (Nat.zero_le _)) (fun g hg => ⟨⟨(h.own.lt g hg).1, Nat.lt_of_lt_of_le (h.own.lt g hg).2 hhi⟩, fun i hi hs => (h.inr i hi g hs).2.2 hg⟩) (fun i hi g hg => ⟨(h.inr i hi g hg).1, Nat.lt_of_lt_of_le (h.inr i hi g hg).2.1 hhi⟩) h.dis fun i hi => (h.ty i hi hi).fr f fun g hg => ⟨hc g (h.inr i hi g hg).1, hg⟩

set_option maxRecDepth 100000 in
set_option maxHeartbeats 2000000 in
theorem own_any {w0 : World} {S : Nat → Prop} {t : Ty} {v : Value} (h : IsTy w0 S t v) : ∀ w, Fr nothing w0 w →
    Calls Try.prog 25 #[v] w fun e w' => ∃ v', e = .returned v' ∧ OwnTy w' (Rng w.heap.size w'.heap.size) t v' ∧ Below w.heap.size w w' := by
  induction h with
  | @mk k n el a cap b o vs hk hl hc hm ha hcs hel ih =>
    intro w hw
    obtain ⟨i0, hi, hz0, hz1, hz2⟩ := info_parts Try.infoTy
    have hm' : cap ≤ 9223372036854775807 := hm
    have hcs1 : ∀ i, i < el.length → Cells w b (o + i * 3) (tyCells (vs i)) := fun i hi => (hcs i hi).fr hw fun e => e
    have hpt : ∀ i (h : i < el.length), ∃ k n a len cap, vs i = .agg #[.int .u8 k, .string n, .slice a len cap] ∧ 0 ≤ k ∧ k < 256 := fun i h => (hel i h).parts
    have HP := Lib.hid hpt
    have HC := Lib.hid hcs1
    have HI := Lib.hid ih
    have HA := Lib.hid ha
    have HW := Lib.hid hw
    clear hcs hcs1 hpt ih hel hm ha hw
    obtain ⟨N, hN⟩ : ∃ N, N = el.length := ⟨_, rfl⟩
    rw [← hN] at hl hc ⊢
    have HN := Lib.hid hN
    clear hN
    go_enter Try.func25, Try.ntmps25
    go_wp2
    obtain ⟨b0, b1, hB0⟩ := two_boxes w (.cells #[.int .u8 k, .string n, .slice a N cap] 37 (0, 0)) (.cells #[.int .u8 0, .string ⟨#[]⟩, .slice none 0 0] 37 (0, 0))
    go_loopw [3, 9] (fun v i wr => ∃ (K : Nat) (rs : Nat → Value) (Ss : Nat → Nat → Prop), K ≤ N ∧ i = .int .i64 K ∧ Kids wr (w.heap.size + 2) el v K rs Ss ∧ wr.heap[w.heap.size]? = some (.cells #[.int .u8 k, .string n, .slice a N cap] 37 (0, 0)) ∧
        wr.heap[w.heap.size + 1]? = some (.cells #[.int .u8 0, .string ⟨#[]⟩, .slice none 0 0] 37 (0, 0)) ∧ Below w.heap.size w wr)
      (fun _ i _ => N - (intOf i).toNat)
    case atStart => exact ⟨0, _, _, Nat.zero_le _, rfl, Kids.nil _ _ _, b0, b1, hB0⟩
    case round =>
      obtain ⟨K, rs, Ss, hK, rfl, hkids, o0, o1, hB⟩ := hrel
      clear b0 b1 hB0
      have hso := obj_lt o1
      have hown := hkids.own
      have HKD := Lib.hid hkids
      have HO := Lib.hid (And.intro o0 o1)
      clear hkids
      by_cases hlt : K < N
      · obtain ⟨k1, n1, a1, len1, cap1, hv1, hk1⟩ := HP.out K (by rw [← HN.out]; exact hlt)
        have hc1 := HC.out K (by rw [← HN.out]; exact hlt)
        rw [hv1, tyCells_agg] at hc1
        obtain rfl : a = some ⟨b, o, none⟩ := by
          rcases HA.out with e | e
          · have := HN.out; rw [e] at this; simp at this; omega
          · exact e.1
        have x0 := (Fr.new hB).cell (hc1 0 (by simp)) fun e => e
        have x1 := (Fr.new hB).cell (hc1 1 (by simp)) fun e => e
        have x2 := (Fr.new hB).cell (hc1 2 (by simp)) fun e => e
        simp only [List.getElem_cons_zero, List.getElem_cons_succ, Nat.add_zero] at x0 x1 x2
        have hcall := HI.out K (by rw [← HN.out]; exact hlt)
        rw [hv1] at hcall
        have HCL := Lib.hid hcall
        have HFR := Lib.hid (HW.out.trans ((Fr.new hB).trans (Fr.alloc wr (.cells #[.int .u8 k1, .string n1, .slice a1 len1 cap1] 37 (0, 0)))))
        clear hcall hv1 hc1 o0 o1
        go_wp2_with (first | (go_at_call 25; refine (HCL.out _ HFR.out).mono ?_; rintro e w1 ⟨v', rfl, hty1, hb1⟩; obtain ⟨k2, n2, a2, len2, cap2, rfl, -⟩ := hty1.parts; have hown1 := own_below (hown.alloc (.cells #[.int .u8 k1, .string n1, .slice a1 len1 cap1] 37 (0, 0))) hb1) | (at_builtin; refine wpList_append_keep rfl _ _ 35 rfl (w.heap.size + 2) 37 i0 _ 3 48 Try.underlying35 hi hz0 hz1 hz2 rfl (by decide) _ _ _ rfl (hown1.alloc _) ⟨w1.heap.size, 0, none⟩ 1 1 [.int .u8 k2, .string n2, .slice a2 len2 cap2] rfl rfl (cells_add (cells_new _ _ _ rfl _ _)) (by simp [Value.oneCell']) (by decide) (by unfold maxLen; omega) (by omega) (by have := hb1.size; simp at this ⊢; omega) ?_; intro v' w2 hown2 hold2 hgrow2 hsame2))
        have hs1 := hb1.size
        simp only [World.size_alloc] at hs1
        have hsz2 := hgrow2.size
        simp only [World.size_alloc] at hsz2
        have hfr1 : Fr (fun g => u3.ownBlock = some g) wr w2 := (((Fr.alloc wr _).trans (Fr.new hb1).wide).trans (Fr.alloc _ _)).trans hgrow2
        have hfr2 : Fr (fun g => u3.ownBlock = some g) w1 w2 := (Fr.alloc _ _).trans hgrow2
        have hlt3 : ∀ g, u3.ownBlock = some g → w.heap.size + 2 ≤ g ∧ g < wr.heap.size := fun g e => hown.lt g e
        have hv2 : ∀ g, v'.ownBlock = some g → u3.ownBlock = some g ∨ w1.heap.size ≤ g := by
          intro g hg
          rcases hsame2 with ⟨g', c', e1, e2⟩ | h
          · have e1' : u3 = _ := e1
            rw [e2] at hg
            rw [e1']
            exact .inl hg
          · have := h g hg; simp at this; exact .inr (by omega)
        go_roundw
        case rel =>
          refine ⟨K + 1, _, _, by omega, by simp, HKD.out.next (lo := wr.heap.size + 1) (hi := w1.heap.size) (by rw [← HN.out]; exact hlt) (by omega) (by omega) (by omega) (by omega) hfr1 hv2 (hty1.fr hfr2 fun g hg => ⟨fun e => ?_, ?_⟩) hown2, hfr1.obj HO.out.1 (fun e => ?_), hfr1.obj HO.out.2 (fun e => ?_), hB.trans (hfr1.below hB.size fun g e => ?_)⟩
          · have := (hlt3 g e).2; have := hg.1; simp at this; omega
          · exact ⟨by have := hg.1; simpa using this, hg.2⟩
          · have := (hlt3 _ e).1; omega
          · have := (hlt3 _ e).1; omega
          · have := (hlt3 _ e).1; omega
        case measure => simp [intOf]; omega
      · obtain rfl : K = N := by omega
        clear hlt
        obtain ⟨a3, cap3, rfl, -⟩ := own_cells hown
        have o0 := HO.out.1
        have o1 := HO.out.2
        have x2 : wr.cell? ⟨w.heap.size, 2, none⟩ = some (.slice a K cap) := obj_cell o0 2 rfl
        have f2 := obj_frozen o0 2
        clear o0 o1
        go_upto_region 8 with fail
        refine wp_atW (F := fun W => W.heap[w.heap.size]? = some (.cells #[.int .u8 k, .string n, .slice a3 K cap3] 37 (0, 0)) ∧ W.heap[w.heap.size + 1]? = some (.cells #[.int .u8 0, .string ⟨#[]⟩, .slice none 0 0] 37 (0, 0)) ∧ Fr (only w.heap.size) wr W) ?_ ?_
        · exact ⟨setCell_obj HO.out.1 _, (Fr.setCell wr ⟨w.heap.size, 2, none⟩ _).obj HO.out.2 (fun e => by unfold only at e; simp at e), Fr.setCell' _ _ rfl⟩
        rintro W ⟨q0, q1, hfr⟩
        have x0 : W.cell? ⟨w.heap.size, 0, none⟩ = some (.int .u8 k) := obj_cell q0 0 rfl
        have x1 : W.cell? ⟨w.heap.size, 1, none⟩ = some (.string n) := obj_cell q0 1 rfl
        have x2 : W.cell? ⟨w.heap.size, 2, none⟩ = some (.slice a3 K cap3) := obj_cell q0 2 rfl
        have y0 : W.cell? ⟨w.heap.size + 1, 0, none⟩ = some (.int .u8 0) := obj_cell q1 0 rfl
        have y1 : W.cell? ⟨w.heap.size + 1, 1, none⟩ = some (.string ⟨#[]⟩) := obj_cell q1 1 rfl
        have y2 : W.cell? ⟨w.heap.size + 1, 2, none⟩ = some (.slice none 0 0) := obj_cell q1 2 rfl
        have f0 := obj_frozen q1 0
        have f1 := obj_frozen q1 1
        have f2 := obj_frozen q1 2
        have HF := Lib.hid hfr
        clear q0 q1 hfr
        go_wp2
        refine at_world (Q := bodyPost _ _ _ _ _) (F := fun Y => (Y.cell? ⟨w.heap.size + 1, 0, none⟩ = some (.int .u8 k) ∧ Y.cell? ⟨w.heap.size + 1, 1, none⟩ = some (.string n) ∧ Y.cell? ⟨w.heap.size + 1, 2, none⟩ = some (.slice a3 K cap3)) ∧ Fr (only (w.heap.size + 1)) W Y) ?_ ?_
        · refine ⟨⟨?_, ?_, ?_⟩, ?_⟩
          · simp [go_sem, y0]
          · simp [go_sem, y1]
          · simp [go_sem, y2]
          · repeat (first | with_reducible exact Fr.refl _ _ | refine Fr.trans ?_ (Fr.setCell' _ _ rfl))
        · rintro Y ⟨⟨r0, r1, r2⟩, hfY⟩
          refine bodyPost_ret (by simp [results, Try.results25, go_sem, r0, r1, r2]; try rfl) rfl ?_
          have hF : Fr (fun g => g = w.heap.size ∨ g = w.heap.size + 1) wr Y := (HF.out.mono fun _ _ e => .inl e).trans (hfY.mono fun _ _ e => .inr e)
          refine ⟨_, rfl, ?_, hB.trans (hF.below hB.size fun g e => by omega)⟩
          exact (HKD.out.own_ty HN.out hk (by rw [← HN.out]; exact hl) hF (fun g hg e => by omega) (Nat.le_refl _)).wide fun g hg => ⟨by have := hg.1; omega, Nat.lt_of_lt_of_le hg.2 hF.size⟩
end Go.Proofs.Yticdoccaabfjaaa
