/-
  The statements' own helper on what lies apart: the bag, of lists of numbers alone.
-/
import Derived.Test.YtlilegbdjnhfjaaGreatDoorFlatInts
import Derived.Test.YtlilegbdjnhfjaaGreatDoorFlatNil
namespace Go.Proofs.YtlilegbdjnhfjaaGreatDoor
open Go.RowKit
set_option maxHeartbeats 400000

def bagO (v : Value) : Obj := .cells #[.slice none 0 0, .slice none 0 0, v, .slice none 0 0, .slice none 0 0, .slice none 0 0, .slice none 0 0, .slice none 0 0, .slice none 0 0, .slice none 0 0, .slice none 0 0, .slice none 0 0, .slice none 0 0, .slice none 0 0, .slice none 0 0, .slice none 0 0, .slice none 0 0, .slice none 0 0, .slice none 0 0, .slice none 0 0, .slice none 0 0, .slice none 0 0, .slice none 0 0, .slice none 0 0, .slice none 0 0, .slice none 0 0, .slice none 0 0, .slice none 0 0, .slice none 0 0, .slice none 0 0, .slice none 0 0] 95 (0, 0)

set_option maxRecDepth 100000 in
set_option maxHeartbeats 2000000 in
theorem putInts_any (B b k : Nat) (V : Nat → Value) (ls : Value) (la : Option Addr) (n c : Nat) (w : World) (hb : w.heap[b]? = some (bagO ls)) (hls : Ls w B ls k V) (hk : k ≤ 100000) (hB : B ≤ w.heap.size) (hV : V k = .slice la n c) :
    Calls Tryz.prog 31 #[.pointer (some ⟨b, 0, none⟩), .slice la n c] w fun e w' => e = .returned (.tuple #[]) ∧ ∃ ls', w'.heap[b]? = some (bagO ls') ∧ Ls w' B ls' (k + 1) V ∧ Fr (fun g => g = b ∨ ls.ownBlock = some g) w w' := by
  obtain ⟨j0, ji, jz0, jz1, jz2⟩ := info_parts Tryz.infoInts
  obtain ⟨lsa, lsc, rfl, _⟩ := own_cells hls
  have hne := own_ne hls hb (by decide)
  have c2 : w.cell? ⟨b, 2, none⟩ = some (.slice lsa k lsc) := obj_cell hb 2 rfl
  have HB := Lib.hid (And.intro hb (And.intro hls hne))
  clear hb hls hne
  go_enter Tryz.func31, Tryz.ntmps31
  go_wp2_with (at_builtin; refine wpList_append_any rfl _ _ 40 rfl B 35 j0 _ 1 24 Tryz.underlying40 ji jz0 jz1 jz2 rfl (by decide) _ k _ rfl (HB.out.2.1.alloc _) _ 1 1 [.slice la n c] rfl rfl (.inr ⟨_, rfl, cells_add (cells_new_at rfl _ _ rfl _ _)⟩) (by simp [Value.oneCell']) (by unfold maxLen; omega) (by omega) (by simp; omega) ?_; intro v2 w2 hown2 hgrow2; obtain ⟨v2a, v2c, rfl, _⟩ := own_cells hown2; have hF2 : Fr (fun g => (Value.slice lsa k lsc).ownBlock = some g) w w2 := (Fr.alloc _ _).trans (Fr.grown hgrow2); have hb2 := hF2.obj HB.out.1 HB.out.2.2; have c3 : w2.cell? ⟨b, 2, none⟩ = some (.slice lsa k lsc) := obj_cell hb2 2 rfl; have f3 := obj_frozen hb2 2)
  go_end0
  have hS := Fr.setCell w2 ⟨b, 2, none⟩ (.slice v2a (k + 1) v2c)
  refine ⟨rfl, _, setCell_obj hb2 _, own_fr (v := .slice v2a (k + 1) v2c) ?_ hS fun g e e2 => own_ne hown2 hb2 (by decide) (e.trans (congrArg some (show g = b from e2))), (hF2.mono fun _ _ e => .inr e).trans (hS.mono fun _ _ e => .inl e)⟩
  rw [List.range_succ, List.map_append]
  have h1 : (List.map V [k]) = [.slice la n c] := by rw [← hV]; rfl
  rw [h1]
  exact hown2

set_option maxRecDepth 100000 in
set_option maxHeartbeats 8000000 in
theorem apart_any (B K b : Nat) (V : Nat → Value) (n : Nat → Nat) (ls : Value) (w : World) (hS : FlatS K V n) (hB : B ≤ w.heap.size) (hb : w.heap[b]? = some (bagO ls)) (hls : Ls w B ls K V) (hrow : ∀ j, j < K → ∃ xs, ORow w B (V j) (n j) xs) :
    Calls Tryz.prog 32 #[.pointer (some ⟨b, 0, none⟩)] w fun e w' => e = .returned (.bool true) ∧ Fr (Ch w K V) w w' := by
  obtain ⟨la, lc, rfl, _⟩ := own_cells hls
  have hbn : ∀ j, j < K → (V j).ownBlock = some b → False := fun j hj e => by
    obtain ⟨xs, hxs⟩ := hrow j hj
    exact own_ne hxs.2 hb (by decide) e
  have hbs : b < w.heap.size := (Array.getElem?_eq_some_iff.1 hb).1
  have hnot : ∀ (v : Value) (e N : Nat) (xs : List Value), w.ownsRow B e 1 v N xs → ∀ g, v.ownBlock = some g → ¬ nothing g := fun _ _ _ _ _ _ _ e => e
  have hnotI : ∀ (v : Value) (N : Nat) (xs : List Int), ORow w B v N xs → ∀ g, v.ownBlock = some g → ¬ nothing g := fun _ _ _ _ _ _ e => e
  have HS := Lib.hid hS
  have HL := Lib.hid hls
  have HR := Lib.hid hrow
  have c0 : w.cell? ⟨b, 0, none⟩ = some (.slice none 0 0) := obj_cell hb 0 rfl
  have o0 := hb
  have hF0 : Fr nothing w w := Fr.refl _ _
  clear hS hls hrow hb
  go_enter Tryz.func32, Tryz.ntmps32
  go_wp2_with (first
    | (go_at_call 41; refine (flatLimbs_nil _).mono ?_; rintro e w1 ⟨rfl, hb⟩; have o1 := (Fr.new hb).obj o0 fun e => e; have hF1 := hF0.trans (Fr.new hb); have c1 : w1.cell? ⟨b, 1, none⟩ = some (.slice none 0 0) := obj_cell o1 1 rfl; clear hb)
    | (go_at_call 42; refine (flatWords_nil _).mono ?_; rintro e w2 ⟨rfl, hb⟩; have o2 := (Fr.new hb).obj o1 fun e => e; have hF2 := hF1.trans (Fr.new hb); have c2 : w2.cell? ⟨b, 2, none⟩ = some (.slice la K lc) := obj_cell o2 2 rfl; clear hb)
    | (go_at_call 43; refine (flatInts_any B K V n _ w2 HS.out (Nat.le_trans hB hF2.size) (own_fr HL.out hF2 (hnot _ _ _ _ HL.out)) (fun j hj => by obtain ⟨xs, hxs⟩ := HR.out j hj; exact ⟨xs, hxs.fr hF2 (hnotI _ _ _ hxs)⟩)).mono ?_; rintro e w3 ⟨rfl, hb⟩; have o3 := hb.obj o2 (by rintro (⟨j, hj, e⟩ | e); exact hbn j hj e; have h1 := hF2.size; omega); have hF3 : Fr (Ch w K V) w w3 := (hF2.wide).trans (hb.mono fun g _ e => e.elim (fun e => .inl e) fun e => .inr (Nat.le_trans hF2.size e)); have c3 : w3.cell? ⟨b, 3, none⟩ = some (.slice none 0 0) := obj_cell o3 3 rfl; clear hb)
    | (go_at_call 44; refine (flatLongs_nil _).mono ?_; rintro e w4 ⟨rfl, hb⟩; have o4 := (Fr.new hb).obj o3 fun e => e; have hF4 := hF3.trans (Fr.new hb).wide; have c4 : w4.cell? ⟨b, 4, none⟩ = some (.slice none 0 0) := obj_cell o4 4 rfl; clear hb)
    | (go_at_call 45; refine (flatTexts_nil _).mono ?_; rintro e w5 ⟨rfl, hb⟩; have o5 := (Fr.new hb).obj o4 fun e => e; have hF5 := hF4.trans (Fr.new hb).wide; have c5 : w5.cell? ⟨b, 5, none⟩ = some (.slice none 0 0) := obj_cell o5 5 rfl; clear hb)
    | (go_at_call 46; refine (flatBytes_nil _).mono ?_; rintro e w6 ⟨rfl, hb⟩; have o6 := (Fr.new hb).obj o5 fun e => e; have hF6 := hF5.trans (Fr.new hb).wide; have c6 : w6.cell? ⟨b, 6, none⟩ = some (.slice none 0 0) := obj_cell o6 6 rfl; clear hb)
    | (go_at_call 47; refine (flatTokens_nil _).mono ?_; rintro e w7 ⟨rfl, hb⟩; have o7 := (Fr.new hb).obj o6 fun e => e; have hF7 := hF6.trans (Fr.new hb).wide; have c7 : w7.cell? ⟨b, 7, none⟩ = some (.slice none 0 0) := obj_cell o7 7 rfl; clear hb)
    | (go_at_call 48; refine (flatFaults_nil _).mono ?_; rintro e w8 ⟨rfl, hb⟩; have o8 := (Fr.new hb).obj o7 fun e => e; have hF8 := hF7.trans (Fr.new hb).wide; have c8 : w8.cell? ⟨b, 8, none⟩ = some (.slice none 0 0) := obj_cell o8 8 rfl; clear hb)
    | (go_at_call 49; refine (flatNodes_nil _).mono ?_; rintro e w9 ⟨rfl, hb⟩; have o9 := (Fr.new hb).obj o8 fun e => e; have hF9 := hF8.trans (Fr.new hb).wide; have c9 : w9.cell? ⟨b, 9, none⟩ = some (.slice none 0 0) := obj_cell o9 9 rfl; clear hb)
    | (go_at_call 50; refine (flatTypes_nil _).mono ?_; rintro e w10 ⟨rfl, hb⟩; have o10 := (Fr.new hb).obj o9 fun e => e; have hF10 := hF9.trans (Fr.new hb).wide; have c10 : w10.cell? ⟨b, 10, none⟩ = some (.slice none 0 0) := obj_cell o10 10 rfl; clear hb)
    | (go_at_call 51; refine (flatValues_nil _).mono ?_; rintro e w11 ⟨rfl, hb⟩; have o11 := (Fr.new hb).obj o10 fun e => e; have hF11 := hF10.trans (Fr.new hb).wide; have c11 : w11.cell? ⟨b, 11, none⟩ = some (.slice none 0 0) := obj_cell o11 11 rfl; clear hb)
    | (go_at_call 52; refine (flatOutcomes_nil _).mono ?_; rintro e w12 ⟨rfl, hb⟩; have o12 := (Fr.new hb).obj o11 fun e => e; have hF12 := hF11.trans (Fr.new hb).wide; have c12 : w12.cell? ⟨b, 12, none⟩ = some (.slice none 0 0) := obj_cell o12 12 rfl; clear hb)
    | (go_at_call 53; refine (flatWordRow_nil _).mono ?_; rintro e w13 ⟨rfl, hb⟩; have o13 := (Fr.new hb).obj o12 fun e => e; have hF13 := hF12.trans (Fr.new hb).wide; have c13 : w13.cell? ⟨b, 13, none⟩ = some (.slice none 0 0) := obj_cell o13 13 rfl; clear hb)
    | (go_at_call 54; refine (flatAlts_nil _).mono ?_; rintro e w14 ⟨rfl, hb⟩; have o14 := (Fr.new hb).obj o13 fun e => e; have hF14 := hF13.trans (Fr.new hb).wide; have c14 : w14.cell? ⟨b, 14, none⟩ = some (.slice none 0 0) := obj_cell o14 14 rfl; clear hb)
    | (go_at_call 55; refine (flatRules_nil _).mono ?_; rintro e w15 ⟨rfl, hb⟩; have o15 := (Fr.new hb).obj o14 fun e => e; have hF15 := hF14.trans (Fr.new hb).wide; have c15 : w15.cell? ⟨b, 15, none⟩ = some (.slice none 0 0) := obj_cell o15 15 rfl; clear hb)
    | (go_at_call 56; refine (flatDecls_nil _).mono ?_; rintro e w16 ⟨rfl, hb⟩; have o16 := (Fr.new hb).obj o15 fun e => e; have hF16 := hF15.trans (Fr.new hb).wide; have c16 : w16.cell? ⟨b, 16, none⟩ = some (.slice none 0 0) := obj_cell o16 16 rfl; clear hb)
    | (go_at_call 57; refine (flatSources_nil _).mono ?_; rintro e w17 ⟨rfl, hb⟩; have o17 := (Fr.new hb).obj o16 fun e => e; have hF17 := hF16.trans (Fr.new hb).wide; have c17 : w17.cell? ⟨b, 17, none⟩ = some (.slice none 0 0) := obj_cell o17 17 rfl; clear hb)
    | (go_at_call 58; refine (flatProds_nil _).mono ?_; rintro e w18 ⟨rfl, hb⟩; have o18 := (Fr.new hb).obj o17 fun e => e; have hF18 := hF17.trans (Fr.new hb).wide; have c18 : w18.cell? ⟨b, 18, none⟩ = some (.slice none 0 0) := obj_cell o18 18 rfl; clear hb)
    | (go_at_call 59; refine (flatSymbols_nil _).mono ?_; rintro e w19 ⟨rfl, hb⟩; have o19 := (Fr.new hb).obj o18 fun e => e; have hF19 := hF18.trans (Fr.new hb).wide; have c19 : w19.cell? ⟨b, 19, none⟩ = some (.slice none 0 0) := obj_cell o19 19 rfl; clear hb)
    | (go_at_call 60; refine (flatGrammars_nil _).mono ?_; rintro e w20 ⟨rfl, hb⟩; have o20 := (Fr.new hb).obj o19 fun e => e; have hF20 := hF19.trans (Fr.new hb).wide; have c20 : w20.cell? ⟨b, 20, none⟩ = some (.slice none 0 0) := obj_cell o20 20 rfl; clear hb)
    | (go_at_call 61; refine (flatItems_nil _).mono ?_; rintro e w21 ⟨rfl, hb⟩; have o21 := (Fr.new hb).obj o20 fun e => e; have hF21 := hF20.trans (Fr.new hb).wide; have c21 : w21.cell? ⟨b, 21, none⟩ = some (.slice none 0 0) := obj_cell o21 21 rfl; clear hb)
    | (go_at_call 62; refine (flatEdges_nil _).mono ?_; rintro e w22 ⟨rfl, hb⟩; have o22 := (Fr.new hb).obj o21 fun e => e; have hF22 := hF21.trans (Fr.new hb).wide; have c22 : w22.cell? ⟨b, 22, none⟩ = some (.slice none 0 0) := obj_cell o22 22 rfl; clear hb)
    | (go_at_call 63; refine (flatStates_nil _).mono ?_; rintro e w23 ⟨rfl, hb⟩; have o23 := (Fr.new hb).obj o22 fun e => e; have hF23 := hF22.trans (Fr.new hb).wide; have c23 : w23.cell? ⟨b, 23, none⟩ = some (.slice none 0 0) := obj_cell o23 23 rfl; clear hb)
    | (go_at_call 64; refine (flatAheads_nil _).mono ?_; rintro e w24 ⟨rfl, hb⟩; have o24 := (Fr.new hb).obj o23 fun e => e; have hF24 := hF23.trans (Fr.new hb).wide; have c24 : w24.cell? ⟨b, 24, none⟩ = some (.slice none 0 0) := obj_cell o24 24 rfl; clear hb)
    | (go_at_call 65; refine (flatActs_nil _).mono ?_; rintro e w25 ⟨rfl, hb⟩; have o25 := (Fr.new hb).obj o24 fun e => e; have hF25 := hF24.trans (Fr.new hb).wide; have c25 : w25.cell? ⟨b, 25, none⟩ = some (.slice none 0 0) := obj_cell o25 25 rfl; clear hb)
    | (go_at_call 66; refine (flatClashes_nil _).mono ?_; rintro e w26 ⟨rfl, hb⟩; have o26 := (Fr.new hb).obj o25 fun e => e; have hF26 := hF25.trans (Fr.new hb).wide; have c26 : w26.cell? ⟨b, 26, none⟩ = some (.slice none 0 0) := obj_cell o26 26 rfl; clear hb)
    | (go_at_call 67; refine (flatPackedRow_nil _).mono ?_; rintro e w27 ⟨rfl, hb⟩; have o27 := (Fr.new hb).obj o26 fun e => e; have hF27 := hF26.trans (Fr.new hb).wide; have c27 : w27.cell? ⟨b, 27, none⟩ = some (.slice none 0 0) := obj_cell o27 27 rfl; clear hb)
    | (go_at_call 68; refine (flatTrees_nil _).mono ?_; rintro e w28 ⟨rfl, hb⟩; have o28 := (Fr.new hb).obj o27 fun e => e; have hF28 := hF27.trans (Fr.new hb).wide; have c28 : w28.cell? ⟨b, 28, none⟩ = some (.slice none 0 0) := obj_cell o28 28 rfl; clear hb)
    | (go_at_call 69; refine (flatToks_nil _).mono ?_; rintro e w29 ⟨rfl, hb⟩; have o29 := (Fr.new hb).obj o28 fun e => e; have hF29 := hF28.trans (Fr.new hb).wide; have c29 : w29.cell? ⟨b, 29, none⟩ = some (.slice none 0 0) := obj_cell o29 29 rfl; clear hb)
    | (go_at_call 70; refine (flatParsedRow_nil _).mono ?_; rintro e w30 ⟨rfl, hb⟩; have o30 := (Fr.new hb).obj o29 fun e => e; have hF30 := hF29.trans (Fr.new hb).wide; have c30 : w30.cell? ⟨b, 30, none⟩ = some (.slice none 0 0) := obj_cell o30 30 rfl; clear hb)
    | (go_at_call 71; refine (flatNotices_nil _).mono ?_; rintro e w31 ⟨rfl, hb⟩; have o31 := (Fr.new hb).obj o30 fun e => e; have hF31 := hF30.trans (Fr.new hb).wide; clear hb))
  go_ret
  exact ⟨rfl, hF31⟩

set_option maxRecDepth 100000 in
set_option maxHeartbeats 4000000 in
theorem apartInts_any (B K : Nat) (V : Nat → Value) (n : Nat → Nat) (ls : Value) (w : World) (hS : FlatS K V n) (hB : B ≤ w.heap.size) (hls : Ls w B ls K V) (hrow : ∀ j, j < K → ∃ xs, ORow w B (V j) (n j) xs) :
    Calls Tryz.prog 15 #[ls] w fun e w' => e = .returned (.bool true) ∧ Fr (Ch w K V) w w' := by
  obtain ⟨la, lc, rfl, _⟩ := own_cells hls
  have hK := hS.k
  have HS := Lib.hid hS
  have HL := Lib.hid hls
  have HR := Lib.hid hrow
  clear hS hls hrow
  go_enter Tryz.func15, Tryz.ntmps15
  go_upto_region 2 with fail
  refine wp_atW (F := fun W => W.heap[w.heap.size]? = some (bagO (.slice none 0 0)) ∧ Fr nothing w W) ?_ ?_
  · exact ⟨alloc_obj w _, Fr.alloc _ _⟩
  intro W ⟨hb, hFW⟩
  have HW := Lib.hid (And.intro hb hFW)
  clear hb hFW
  go_wp2
  go_loopw [4] (fun i wq => ∃ (k : Nat) (ls' : Value), k ≤ K ∧ i = .int .i64 k ∧ wq.heap[w.heap.size]? = some (bagO ls') ∧ Ls wq w.heap.size ls' k V ∧ Fr nothing w wq) (fun i _ => K - (intOf i).toNat)
  case atStart => exact ⟨0, _, Nat.zero_le _, rfl, HW.out.1, World.ownsRow_nil _ _ _ _, HW.out.2⟩
  case round =>
    obtain ⟨k, ls', hk, rfl, hb, hls', hF⟩ := hrel
    clear HW W
    by_cases hlt : k < K
    · obtain ⟨bl, lc', hv, _⟩ := slice_of HL.out (by omega)
      simp only [Value.slice.injEq] at hv
      obtain ⟨rfl, -, rfl⟩ := hv
      have c0 := hF.cell (HL.out.cell k hlt) fun e => e
      obtain ⟨xs, hxs⟩ := HR.out k hlt
      obtain ⟨va, vc, hVk, _⟩ := own_cells hxs.2
      rw [hVk] at c0
      have HP := Lib.hid (putInts_any w.heap.size w.heap.size k V ls' va (n k) vc wr hb hls' (by omega) hF.size hVk)
      have HH := Lib.hid (And.intro hF hls')
      clear hb hls' hF hxs hVk
      generalize n k = N at *
      go_wp2_with (go_at_call 31; refine HP.out.mono ?_; rintro e w2 ⟨rfl, ls2, hb2, hls2, hF2⟩)
      go_roundw
      case rel =>
        refine ⟨k + 1, ls2, by omega, by simp, hb2, hls2, ⟨hF2.os.trans HH.out.1.os, hF2.tape.trans HH.out.1.tape, hF2.output.trans HH.out.1.output, Nat.le_trans HH.out.1.size hF2.size, fun g hg hn => ?_⟩⟩
        rw [hF2.block g (Nat.lt_of_lt_of_le hg HH.out.1.size) ?_]
        · exact HH.out.1.block g hg hn
        · rintro (e | e)
          · omega
          · have := (HH.out.2.lt g e).1
            omega
      case measure => simp [intOf]; omega
    · obtain rfl : k = K := by omega
      have HA := Lib.hid (apart_any B k w.heap.size V n ls' wr HS.out (Nat.le_trans hB hF.size) hb (own_base hls' hB) (fun j hj => by
        obtain ⟨xs, hxs⟩ := HR.out j hj
        exact ⟨xs, hxs.fr hF fun _ _ e => e⟩))
      have HF := Lib.hid hF
      clear hb hls' hF hlt
      go_wp2_with (go_at_call 32; refine HA.out.mono ?_; rintro e w2 ⟨rfl, hF2⟩)
      go_ret
      exact ⟨rfl, HF.out.wide.trans (hF2.mono fun g _ e => e.elim (fun e => .inl e) fun e => .inr (Nat.le_trans HF.out.size e))⟩
end Go.Proofs.YtlilegbdjnhfjaaGreatDoor
