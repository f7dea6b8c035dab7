/-
  Chapter 06's statements: awake.
-/
import Derived.Test.YticdoccaabfjaaaSc18
namespace Go.Proofs.Yticdoccaabfjaaa
open Go.RowKit
set_option maxHeartbeats 400000

theorem ownTy_leaf {w : World} {S : Nat → Prop} {k : Int} {v : Value} (h : OwnTy w S (leaf k) v) : ∃ a cap, v = .agg #[.int .u8 k, .string ⟨#[]⟩, .slice a 0 cap] := by
  unfold leaf at h
  cases h with
  | mk => exact ⟨_, _, rfl⟩
/-- From n0 on, but for two blocks. -/
def Own2 (n0 b1 b2 : Nat) (k : Nat) : Prop := n0 ≤ k ∧ k ≠ b1 ∧ k ≠ b2
theorem Sc.own2 {w w' : World} {n0 b1 b2 p : Nat} {σ : List (List Nm)} (h : Sc w' (grow (Own2 n0 b1 b2) w w') p σ) (h0 : n0 ≤ w.heap.size) (h1 : b1 < w.heap.size) (h2 : b2 < w.heap.size) : Sc w' (Own2 n0 b1 b2) p σ :=
  h.wide fun g hg => by
    rcases hg with hg | hg
    · exact hg
    · exact ⟨by omega, by omega, by omega⟩
theorem declare_leaf {w : World} {F : Nat → Prop} {p : Nat} {σ : List (List Nm)} {l : List Nm} (h : Sc w F p (σ ++ [l])) (hf : Fit (σ ++ [l])) (s : ByteArray) (hs : hasS l s = false) (k : Int) (hk : 0 ≤ k ∧ k < 256) :
    Calls Try.prog 12 #[.pointer (some ⟨p, 0, none⟩), .string s, .agg #[.int .u8 k, .string ⟨#[]⟩, .slice none 0 0]] w fun e w' => e = .returned (.int .i64 0) ∧ Sc w' (grow F w w') p (σ ++ [l ++ [⟨s, leaf k, false⟩]]) ∧ Fr F w w' :=
  sDeclare_ok h hf s hs (isTy_leaf w (fun _ => False) k hk) fun _ e => e.elim
def nmA : ByteArray := ⟨#[97]⟩
def nmB : ByteArray := ⟨#[98]⟩
theorem own2_from {n0 b1 b2 : Nat} {w w' : World} (h : Fr (Own2 n0 b1 b2) w w') : Fr (from_ n0) w w' := h.mono fun _ _ e => e.1
set_option maxRecDepth 100000 in
set_option maxHeartbeats 4000000 in
theorem awake_any (w : World) : Calls Try.prog 5 #[] w fun e w' => e = .returned (.bool true) ∧ Below w.heap.size w w' := by
  obtain ⟨n0, hn0⟩ : ∃ n0, n0 = w.heap.size := ⟨_, rfl⟩
  have HN0 := Lib.hid hn0
  go_enter Try.func5, Try.ntmps5
  go_upto_region 2 with (go_at_call 14; refine (sNew _).mono ?_; rintro e w1 ⟨rfl, hs1, hb1⟩)
  rw [← hn0] at hs1 hb1
  rw [← hn0]
  have hS1 : Sc w1 (from_ n0) n0 [] := hs1.wide fun g hg => hg.1
  have hF1 : Fr (from_ n0) w w1 := Fr.of_below hb1
  have hl1 := hS1.lt
  clear hs1 hb1 hn0
  have HO := Lib.hid (sOpen hS1 ⟨by simp, by simp⟩)
  go_upto_region 3 with (go_at_call 6; refine HO.out.mono ?_; rintro e w2 ⟨rfl, hs2, hf2⟩)
  have hS2 : Sc w2 (from_ n0) n0 [[]] := hs2.wide fun g hg => by
    rcases hg with hg | hg
    · exact hg
    · show n0 ≤ g; omega
  have hF2 := hF1.trans hf2
  have hl2 := hS2.lt
  clear hs2 hf2 HO hS1 hF1 hl1
  go_upto_region 4 with (first | (go_at_call 13; refine (kind_any 1 _).mono ?_; rintro e w3 ⟨rfl, hb3⟩; have HD := Lib.hid (declare_leaf (σ := []) (hS2.new (Fr.new hb3)) ⟨by simp, by simp⟩ nmA (by rfl) 1 (by omega))) | (go_at_call 12; refine HD.out.mono ?_; rintro e w4 ⟨rfl, hs4, hf4⟩))
  have hS4 : Sc w4 (from_ n0) n0 [[⟨nmA, leaf 1, false⟩]] := hs4.wide fun g hg => by
    rcases hg with hg | hg
    · exact hg
    · have := hb3.size
      show n0 ≤ g; omega
  have hF4 := (hF2.trans (Fr.new hb3).wide).trans hf4
  have hl4 := hS4.lt
  clear hs4 hf4 HD hS2 hF2 hl2 hb3
  have HO := Lib.hid (sOpen hS4 ⟨by simp, by simp⟩)
  go_upto_region 5 with (go_at_call 6; refine HO.out.mono ?_; rintro e w5 ⟨rfl, hs5, hf5⟩)
  have hS5 : Sc w5 (from_ n0) n0 [[⟨nmA, leaf 1, false⟩], []] := hs5.wide fun g hg => by
    rcases hg with hg | hg
    · exact hg
    · show n0 ≤ g; omega
  have hF5 := hF4.trans hf5
  have hl5 := hS5.lt
  clear hs5 hf5 HO hS4 hF4 hl4
  go_upto_region 6 with (first | (go_at_call 13; refine (kind_any 2 _).mono ?_; rintro e w6 ⟨rfl, hb6⟩; have HD := Lib.hid (declare_leaf (σ := [[⟨nmA, leaf 1, false⟩]]) (hS5.new (Fr.new hb6)) ⟨by simp, by simp⟩ nmA (by rfl) 2 (by omega))) | (go_at_call 12; refine HD.out.mono ?_; rintro e w7 ⟨rfl, hs7, hf7⟩))
  have hS7 : Sc w7 (from_ n0) n0 [[⟨nmA, leaf 1, false⟩], [⟨nmA, leaf 2, false⟩]] := hs7.wide fun g hg => by
    rcases hg with hg | hg
    · exact hg
    · have := hb6.size
      show n0 ≤ g; omega
  have hF7 := (hF5.trans (Fr.new hb6).wide).trans hf7
  have hl7 := hS7.lt
  clear hs7 hf7 HD hS5 hF5 hl5 hb6
  have HU := Lib.hid (sUse hS7.restrict nmA)
  go_upto_region 7 with (go_at_call 9; refine HU.out.mono ?_; rintro e w8 ⟨⟨v, rfl, ha8⟩, hs8, hf8⟩; obtain ⟨u, rfl, hu8⟩ : ∃ u, v = .tuple #[u, .bool true] ∧ OwnTy w8 (Rng w7.heap.size w8.heap.size) (leaf 2) u := ha8; obtain ⟨a8, c8, rfl⟩ := ownTy_leaf hu8)
  have hz8 := hf8.size
  have hs8' : Sc w8 (Own2 n0 w8.heap.size w8.heap.size) n0 [[⟨nmA, leaf 1, false⟩], [⟨nmA, leaf 2, true⟩]] := hs8.wide fun g hg => ⟨hg.1, by have := hg.2; omega, by have := hg.2; omega⟩
  have hF8 := hF7.trans (hf8.mono fun _ _ e => e.1)
  have HF8 := Lib.hid hF8
  obtain ⟨bt, hbt⟩ : ∃ bt, bt = w8.heap.size := ⟨_, rfl⟩
  obtain ⟨w9, hw9⟩ : ∃ w9, w9 = w8.alloc (.cells #[.int .u8 2, .string ⟨#[]⟩, .slice a8 0 c8] 37 (0, 0)) := ⟨_, rfl⟩
  have hf89 : Fr nothing w8 w9 := by rw [hw9]; exact Fr.alloc _ _
  have ht9 : w9.heap[bt]? = some (.cells #[.int .u8 2, .string ⟨#[]⟩, .slice a8 0 c8] 37 (0, 0)) := by rw [hw9, hbt]; exact alloc_obj w8 _
  have hS9 : Sc w9 (Own2 n0 bt bt) n0 ([[⟨nmA, leaf 1, false⟩]] ++ [[⟨nmA, leaf 2, true⟩]]) := by rw [hbt]; exact hs8'.new hf89
  have hF9 : Fr (from_ n0) w w9 := hF8.trans hf89.wide
  have hl9 := obj_lt ht9
  have hnb : n0 < bt := by omega
  rw [← hbt, ← hw9]
  clear hs8 hs8' hf8 hF8 hf89 hw9 hbt HU hS7 hF7 hl7 hu8 hz8 HF8
  have HC := Lib.hid (sClose hS9 ⟨by simp, by simp⟩)
  go_upto_region 8 with (go_at_call 7; refine HC.out.mono ?_; rintro e w10 ⟨⟨v10, rfl, ht10⟩, hs10, hf10⟩)
  obtain ⟨a10, c10, hv10, -⟩ : ∃ a c, v10 = .slice a 0 c ∧ True := by
    obtain ⟨a, c, e, _⟩ := ht10
    exact ⟨a, c, e, trivial⟩
  subst hv10
  have hT10 := hf10.obj ht9 (fun e => e.2.1 rfl)
  have hF10 := hF9.trans (own2_from hf10)
  have hl10 := obj_lt hT10
  have HL := Lib.hid (sLook hs10.restrict nmA)
  clear hf10 ht10 HC hS9 hF9 ht9 hl9
  go_upto_region 9 with (go_at_call 8; refine HL.out.mono ?_; rintro e w11 ⟨⟨v, rfl, ha11⟩, hs11, hf11⟩; obtain ⟨u, rfl, hu11⟩ : ∃ u, v = .tuple #[u, .bool true] ∧ OwnTy w11 (Rng w10.heap.size w11.heap.size) (leaf 1) u := ha11; obtain ⟨a11, c11, rfl⟩ := ownTy_leaf hu11)
  have hz11 := hf11.size
  have hs11' : Sc w11 (Own2 n0 bt w11.heap.size) n0 ([] ++ [[⟨nmA, leaf 1, false⟩]]) := hs11.wide fun g hg => ⟨hg.1.1, hg.1.2.1, by have := hg.2; omega⟩
  have hF11 := hF10.trans (hf11.mono (ch' := from_ n0) fun _ _ e => e.1.1)
  have hT11 := hf11.obj hT10 (fun e => e.1.2.1 rfl)
  obtain ⟨bu, hbu⟩ : ∃ bu, bu = w11.heap.size := ⟨_, rfl⟩
  obtain ⟨w12, hw12⟩ : ∃ w12, w12 = w11.alloc (.cells #[.int .u8 1, .string ⟨#[]⟩, .slice a11 0 c11] 37 (0, 0)) := ⟨_, rfl⟩
  have hf112 : Fr nothing w11 w12 := by rw [hw12]; exact Fr.alloc _ _
  have hu12 : w12.heap[bu]? = some (.cells #[.int .u8 1, .string ⟨#[]⟩, .slice a11 0 c11] 37 (0, 0)) := by rw [hw12, hbu]; exact alloc_obj w11 _
  have hS12 : Sc w12 (Own2 n0 bt bu) n0 ([] ++ [[⟨nmA, leaf 1, false⟩]]) := by rw [hbu]; exact hs11'.new hf112
  have hT12 := hf112.obj hT11 fun e => e
  have hF12 : Fr (from_ n0) w w12 := hF11.trans hf112.wide
  rw [← hbu, ← hw12]
  clear hs11 hs11' hf11 hF11 hf112 hw12 hbu HL hs10 hF10 hT10 hl10 hu11 hz11 hT11
  have HC := Lib.hid (sClose hS12 ⟨by simp, by simp⟩)
  go_upto_region 10 with (go_at_call 7; refine HC.out.mono ?_; rintro e w13 ⟨⟨v13, rfl, ht13⟩, hs13, hf13⟩)
  have hT13 := hf13.obj hT12 (fun e => e.2.1 rfl)
  have hU13 := hf13.obj hu12 (fun e => e.2.2 rfl)
  have hF13 := hF12.trans (own2_from hf13)
  clear hf13 HC hS12 hF12 hT12 hu12
  obtain ⟨a13, c13, rfl, q13⟩ := id ht13
  go_upto_region 11 with (first | (go_at_call 13; refine (kind_any 1 _).mono ?_; rintro e w14 ⟨rfl, hb14⟩; have HD := Lib.hid (sDeclare_empty (hs13.new (Fr.new hb14)) (.string nmB) (.int .u8 1) (.string ⟨#[]⟩) (.slice none 0 0))) | (go_at_call 12; refine HD.out.mono ?_; rintro e w15 ⟨rfl, hb15⟩))
  have hfr : Fr nothing w13 w15 := (Fr.new hb14).trans (Fr.new hb15)
  have hT15 := hfr.obj hT13 fun e => e
  have hU15 := hfr.obj hU13 fun e => e
  have hS15 := hs13.new hfr
  have ht15 := ht13.fr hfr
  have hF15 := hF13.trans hfr.wide
  have c2 := obj_cell hT15 0 rfl
  have c1 := obj_cell hU15 0 rfl
  have HT := Lib.hid ht15
  have HS := Lib.hid hS15
  have HF := Lib.hid hF15
  clear hfr hb14 hb15 HD hT13 hU13 hs13 ht13 hF13 hT15 hU15 hS15 ht15 hF15 q13
  have hlit : Texts (w15.alloc (.cells #[.string nmA] 9 (0, 0))) (.slice (some ⟨w15.heap.size, 0, none⟩) 1 1) [nmA] := ⟨_, 1, rfl, Nat.le_refl _, by unfold maxLen; omega, .inr ⟨_, _, rfl, cells_new _ _ _ rfl _ _⟩⟩
  have hST := Lib.hid (sameTexts_any _ _ [nmA] _ (HT.out.fr (Fr.alloc _ (.cells #[.string nmA] 9 (0, 0)))) hlit)
  have hDP := Lib.hid fun n => sDeep (HS.out.new ((Fr.alloc _ (.cells #[.string nmA] 9 (0, 0))).trans (Fr.drewN _ n)))
  clear hlit
  go_wp2_with (first | (go_at_call 19; refine hST.out.mono ?_; rintro e w16 ⟨rfl, n16, rfl⟩) | (go_at_call 10; refine (hDP.out _).mono ?_; rintro e w17 ⟨rfl, rfl⟩))
  go_ret
  refine ⟨rfl, ?_⟩
  rw [← HN0.out]
  exact (HF.out.trans ((Fr.alloc _ _).trans (Fr.drewN _ n16))).below (by rw [HN0.out]; exact Nat.le_refl _) fun k e => e
end Go.Proofs.Yticdoccaabfjaaa
