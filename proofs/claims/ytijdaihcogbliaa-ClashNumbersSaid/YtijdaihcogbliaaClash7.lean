/-
  The chapter's examples of package clash hold.
-/
import Derived.Test.YtijdaihcogbliaaClash6
import Derived.Deep.RegionHeld3
namespace Go.Proofs.Ytijdaihcogbliaa
open Go.RowKit Go.MapKept Go.ChangeMaps
set_option maxHeartbeats 400000

def gramK (k : Nat) : Gram := grammarE ⟨nNone, nNone, min k 1, k⟩ ⟨nNone, nNone, 0, 0⟩
theorem picks_0 : pickE (gramK 0) 1 ⟨1, 0⟩ ⟨2, 1⟩ = (0, false) := by kernel_rfl
theorem picks_1 : pickE (gramK 1) 1 ⟨1, 0⟩ ⟨2, 1⟩ = (1, true) := by kernel_rfl
theorem picks_2 : pickE (gramK 2) 1 ⟨1, 0⟩ ⟨2, 1⟩ = (0, true) := by kernel_rfl
theorem picks_3 : pickE (gramK 3) 1 ⟨1, 0⟩ ⟨2, 1⟩ = (2, true) := by kernel_rfl
theorem picks_4 : pickE (gramK 0) 1 ⟨2, 2⟩ ⟨2, 1⟩ = (1, false) := by kernel_rfl

def gramV (sa pa : Option Addr) (sc pc : Nat) : Value := .agg #[.int .i64 3, .slice sa 5 sc, .slice pa 4 pc]
theorem gram_lit (k : Nat) (hk : k ≤ 3) (x : World) :
    Calls Try.prog 16 #[.agg #[.string ⟨#[]⟩, .string ⟨#[]⟩, .int .i64 (min k 1), .int .u8 k], .agg #[.string ⟨#[]⟩, .string ⟨#[]⟩, .int .i64 0, .int .u8 0]] x
      fun e w' => ∃ sa sc pa pc, e = .returned (.agg #[.int .i64 3, .slice sa 5 sc, .slice pa 4 pc]) ∧ IsGram w' (gramV sa pa sc pc) (gramK k) ∧ Below x.heap.size x w' := by
  refine (grammar_any ⟨nNone, nNone, min k 1, k⟩ ⟨nNone, nNone, 0, 0⟩ x ⟨by unfold i64; simp only; omega, by simp only; omega⟩ ⟨show i64 0 by unfold i64; decide, (by decide : (0 : Int) ≤ 0 ∧ (0 : Int) ≤ 255)⟩).mono ?_
  rintro e w4 ⟨v, rfl, hg, hb4⟩
  obtain ⟨_, vs, vp, rfl, ⟨_, sa, sc, rfl, _⟩, ⟨_, pa, pc, rfl, _⟩⟩ := id hg
  exact ⟨sa, sc, pa, pc, rfl, hg, hb4⟩
theorem picks_lit {k : Nat} {a b : Ent} {won : Int} {byP : Bool} (h : pickE (gramK k) 1 a b = (won, byP)) (ha : EntOk a) (hb : EntOk b) (sa pa : Option Addr) (sc pc : Nat) (W : World) (hg : IsGram W (gramV sa pa sc pc) (gramK k)) :
    Calls Try.prog 29 #[.agg #[.int .i64 3, .slice sa 5 sc, .slice pa 4 pc], .int .i64 1, .agg #[.int .u8 a.kind, .int .i64 a.to], .agg #[.int .u8 b.kind, .int .i64 b.to], .int .i64 won, .bool byP] W
      fun e w' => e = .returned (.bool true) ∧ Below W.heap.size W w' := by
  have := picks_any (gramK k) 1 a b won byP _ W hg ha hb
  rw [h] at this
  simpa [entVal, gramV] using this
def Held (gb c1 c2 : Nat) (sa pa : Option Addr) (sc pc k B : Nat) (w0 W : World) : Prop :=
  (W.cell? ⟨gb, 0, none⟩ = some (.int .i64 3) ∧ W.cell? ⟨gb, 1, none⟩ = some (.slice sa 5 sc) ∧ W.cell? ⟨gb, 2, none⟩ = some (.slice pa 4 pc)) ∧
  (W.cell? ⟨c1, 0, none⟩ = some (.int .u8 1) ∧ W.cell? ⟨c1, 1, none⟩ = some (.int .i64 0) ∧ W.cell? ⟨c2, 0, none⟩ = some (.int .u8 2) ∧ W.cell? ⟨c2, 1, none⟩ = some (.int .i64 1)) ∧
  IsGram W (gramV sa pa sc pc) (gramK k) ∧ B ≤ W.heap.size ∧ Below w0.heap.size w0 W
theorem Held.keep {gb c1 c2 : Nat} {sa pa : Option Addr} {sc pc k B : Nat} {w0 W W' : World} (h : Held gb c1 c2 sa pa sc pc k B w0 W) (hb : Below W.heap.size W W') : Held gb c1 c2 sa pa sc pc k B w0 W' := by
  obtain ⟨⟨h1, h2, h3⟩, ⟨h4, h5, h6, h7⟩, h8, h9, h10⟩ := h
  have f := Fr.new hb
  exact ⟨⟨f.cell h1 fun e => e, f.cell h2 fun e => e, f.cell h3 fun e => e⟩, ⟨f.cell h4 fun e => e, f.cell h5 fun e => e, f.cell h6 fun e => e, f.cell h7 fun e => e⟩, h8.fr f, Nat.le_trans h9 hb.size, h10.trans (hb.mono h10.size)⟩

theorem wpAnyH_turn {P : Program} {md : Region.Mode} {ops : Array Oper} {Q : Exit → Act → World → Prop} {S S' : World → Prop} (hS : ∀ w, S' w → S w) : ∀ (fuel : Nat) (listed : Array Bool) (a : Act) (w : World), wpAnyH P md ops Q S' fuel listed a w → wpAnyH P md ops Q S fuel listed a w
  | 0, _, _, _, h => h
  | fuel + 1, _, _, _, h => ⟨h.1, fun i hi => wpOp_mono (fun a' w' h' => ⟨hS w' h'.1, wpAnyH_turn hS fuel _ a' w' h'.2⟩) (h.2 i hi)⟩
theorem keepA {gb c1 c2 : Nat} {sa pa : Option Addr} {sc pc k B : Nat} {w0 W : World} (h : Held gb c1 c2 sa pa sc pc k B w0 W) : Held gb c1 c2 sa pa sc pc k B w0 W.drew := h.keep (Below.refl _ _).drew
theorem keepB {gb c1 c2 : Nat} {sa pa : Option Addr} {sc pc k B : Nat} {w0 W : World} {o : Obj} (h : Held gb c1 c2 sa pa sc pc k B w0 W) : Held gb c1 c2 sa pa sc pc k B w0 (W.alloc o) := h.keep ((Below.refl _ _).alloc (Nat.le_refl _) _)
theorem keepC {gb c1 c2 : Nat} {sa pa : Option Addr} {sc pc k B : Nat} {w0 W W' : World} (hb : Below W.heap.size W W') (h : Held gb c1 c2 sa pa sc pc k B w0 W) : Held gb c1 c2 sa pa sc pc k B w0 W' := h.keep hb

theorem heldGram {gb c1 c2 : Nat} {sa pa : Option Addr} {sc pc k B : Nat} {w0 W : World} (h : Held gb c1 c2 sa pa sc pc k B w0 W) : IsGram W (gramV sa pa sc pc) (gramK k) := h.2.2.1
theorem keepD {c : Nat} {u v : Value} {w0 W : World} (h : (W.cell? ⟨c, 0, none⟩ = some u ∧ W.cell? ⟨c, 1, none⟩ = some v) ∧ Below w0.heap.size w0 W) : (W.drew.cell? ⟨c, 0, none⟩ = some u ∧ W.drew.cell? ⟨c, 1, none⟩ = some v) ∧ Below w0.heap.size w0 W.drew :=
  ⟨⟨(Fr.drew (ch := nothing) W).cell h.1.1 fun e => e, (Fr.drew (ch := nothing) W).cell h.1.2 fun e => e⟩, h.2.drew⟩
theorem keepG {c : Nat} {u v : Value} {w0 W : World} (h : (W.cell? ⟨c, 0, none⟩ = some u ∧ W.cell? ⟨c, 1, none⟩ = some v) ∧ Below w0.heap.size w0 W) : Below w0.heap.size w0 W := h.2
theorem keepE {c : Nat} {u v : Value} {w0 W W' : World} (hb : Below W.heap.size W W') (h : (W.cell? ⟨c, 0, none⟩ = some u ∧ W.cell? ⟨c, 1, none⟩ = some v) ∧ Below w0.heap.size w0 W) : (W'.cell? ⟨c, 0, none⟩ = some u ∧ W'.cell? ⟨c, 1, none⟩ = some v) ∧ Below w0.heap.size w0 W' :=
  ⟨⟨(Fr.new hb).cell h.1.1 fun e => e, (Fr.new hb).cell h.1.2 fun e => e⟩, h.2.trans (hb.mono h.2.size)⟩
theorem keepF {W W' : World} {v : Value} {G : Gram} (hb : Below W.heap.size W W') (h : IsGram W v G) : IsGram W' v G := h.fr (Fr.new hb)

set_option maxRecDepth 100000 in
set_option maxHeartbeats 2000000 in
theorem awake_any (w : World) : Calls Try.prog 10 #[] w fun e w' => e = .returned (.bool true) ∧ Below w.heap.size w w' := by
  have HA := Lib.hid act_any
  unfold entVal at HA
  go_enter Try.func10, Try.ntmps10
  go_wp2_with (first | (go_at_call 15; with_reducible refine (HA.out 1 0 _).mono ?_; rintro e w1 ⟨rfl, hb1⟩) | (go_at_call 15; with_reducible refine (HA.out 2 1 _).mono ?_; rintro e w2 ⟨rfl, hb2⟩))
  go_loopw [3] (fun i wr => ∃ k : Nat, k ≤ 4 ∧ i = .int .i64 k ∧ wr.heap[w2.heap.size]? = some (.cells #[.int .u8 1, .int .i64 0] 28 (0, 0)) ∧ wr.heap[w2.heap.size + 1]? = some (.cells #[.int .u8 2, .int .i64 1] 28 (0, 0)) ∧ Below w.heap.size w wr)
     (fun i _ => 4 - (intOf i).toNat)
  case atStart =>
    have h := two_boxes w2 (.cells #[.int .u8 1, .int .i64 0] 28 (0, 0)) (.cells #[.int .u8 2, .int .i64 1] 28 (0, 0))
    exact ⟨0, by omega, rfl, h.1, h.2.1, (hb1.trans (hb2.mono hb1.size)).trans (h.2.2.mono (Nat.le_trans hb1.size hb2.size))⟩
  case round =>
    clear hb1 hb2
    obtain ⟨k, hk, rfl, hc1, hc2, hB⟩ := hrel
    by_cases hlt : k < 4
    · have HC := Lib.hid (And.intro hc1 (And.intro hc2 hB))
      clear hc1 hc2 hB
      rcases (by omega : k = 0 ∨ k = 1 ∨ k = 2 ∨ k = 3) with rfl | rfl | rfl | rfl
      · have HG := Lib.hid (gram_lit 0 (by omega))
        have HP := Lib.hid (picks_lit picks_0 ⟨by decide, by unfold i64; decide⟩ ⟨by decide, by unfold i64; decide⟩)
        go_wp2_with (go_at_call 16; refine (HG.out _).mono ?_; rintro e w4 ⟨sa, sc, pa, pc, rfl, hg, hb4⟩)
        have hS : Held w4.heap.size w2.heap.size (w2.heap.size + 1) sa pa sc pc 0 w4.heap.size wr (w4.alloc (.cells #[.int .i64 3, .slice sa 5 sc, .slice pa 4 pc] 25 (0, 0))) := by
          have h0 := alloc_obj w4 (.cells #[.int .i64 3, .slice sa 5 sc, .slice pa 4 pc] 25 (0, 0))
          have f := (Fr.new hb4).trans (Fr.alloc (ch := nothing) w4 (.cells #[.int .i64 3, .slice sa 5 sc, .slice pa 4 pc] 25 (0, 0)))
          have h1 := f.obj HC.out.1 fun e => e
          have h2 := f.obj HC.out.2.1 fun e => e
          exact ⟨⟨obj_cell h0 0 rfl, obj_cell h0 1 rfl, obj_cell h0 2 rfl⟩, ⟨obj_cell h1 0 rfl, obj_cell h1 1 rfl, obj_cell h2 0 rfl, obj_cell h2 1 rfl⟩, hg.fr (Fr.alloc _ _), by simp, hb4.alloc hb4.size _⟩
        clear hg hb4
        refine wp_region_held_drew (S := fun w' => (w'.cell? ⟨w4.heap.size, 0, none⟩ = some (.int .i64 3) ∧ w'.cell? ⟨w4.heap.size, 1, none⟩ = some (.slice sa 5 sc) ∧ w'.cell? ⟨w4.heap.size, 2, none⟩ = some (.slice pa 4 pc)) ∧
            (w'.cell? ⟨w2.heap.size, 0, none⟩ = some (.int .u8 1) ∧ w'.cell? ⟨w2.heap.size, 1, none⟩ = some (.int .i64 0) ∧ w'.cell? ⟨w2.heap.size + 1, 0, none⟩ = some (.int .u8 2) ∧ w'.cell? ⟨w2.heap.size + 1, 1, none⟩ = some (.int .i64 1)) ∧
            IsGram w' (gramV sa pa sc pc) (gramK 0) ∧ w4.heap.size ≤ w'.heap.size ∧ Below wr.heap.size wr w') (by kernel_rfl) (keepA hS) (fun hHeld => ?_)
        refine wpAnyH_take (i := 0) (v := ?_) rfl (by kernel_rfl) (by kernel_rfl) (by kernel_rfl) (fun _ _ _ h => h) (Or.inl ⟨by rfl, ?_⟩) (by assumption) ?_
        rotate_left
        · (intro w hSw; (try dsimp only at hSw); go_simp)
          try with_reducible rfl
        refine wpAnyH_take (i := 1) (v := ?_) rfl (by kernel_rfl) (by kernel_rfl) (by kernel_rfl) (fun _ _ _ h => h) (Or.inl ⟨by rfl, ?_⟩) (by assumption) ?_
        rotate_left
        · (intro w hSw; (try dsimp only at hSw); go_simp)
          try with_reducible rfl
        refine wpAnyH_take (i := 2) (v := ?_) rfl (by kernel_rfl) (by kernel_rfl) (by kernel_rfl) (fun _ _ _ h => h) (Or.inl ⟨by rfl, ?_⟩) (by assumption) ?_
        rotate_left
        · (intro w hSw; (try dsimp only at hSw); go_simp)
          try with_reducible rfl
        refine wpAnyH_take (i := 4) (v := ?_) rfl (by kernel_rfl) (by kernel_rfl) (by kernel_rfl) (fun _ _ _ h => h) (Or.inl ⟨by rfl, ?_⟩) (by assumption) ?_
        rotate_left
        · (intro w hSw; (try dsimp only at hSw); go_simp)
          try with_reducible rfl
        refine wpAnyH_take (i := 7) (v := ?_) rfl (by kernel_rfl) (by kernel_rfl) (by kernel_rfl) (fun _ _ _ h => h) (Or.inl ⟨by rfl, ?_⟩) (by assumption) ?_
        rotate_left
        · (intro w hSw; (try dsimp only at hSw); go_simp)
          try with_reducible rfl
        refine wpAnyH_take (i := 8) (v := ?_) rfl (by kernel_rfl) (by kernel_rfl) (by kernel_rfl) (fun _ _ _ h => h) (Or.inl ⟨by rfl, ?_⟩) (by assumption) ?_
        rotate_left
        · (intro w hSw; (try dsimp only at hSw); go_simp)
          try with_reducible rfl
        simp only [Act.put, List.setIfInBounds_toArray]
        refine wpAnyH_ready (rs := [3]) (by kernel_rfl) (by simp) (AllReadyH.cons rfl (fun K hK => ?_) AllReadyH.nil)
        go_simp
        refine hK.out _ _ (keepA (keepB hS)) (fun hHeld => ?_)
        clear hK K
        have hNew : (((w4.alloc (.cells #[.int .i64 3, .slice sa 5 sc, .slice pa 4 pc] 25 (0, 0))).alloc (.cells #[.int .i64 0, .int .i64 1, .int .i64 0, .int .i64 2] 3 (0, 0))).drew).cell? ⟨w4.heap.size + 1, 0, none⟩ = some (.int .i64 0) := obj_cell (alloc_at (by simp)) 0 rfl
        refine wpAnyH_turn (S' := fun w' => w'.cell? ⟨w4.heap.size + 1, 0, none⟩ = some (.int .i64 0) ∧ Held w4.heap.size w2.heap.size (w2.heap.size + 1) sa pa sc pc 0 w4.heap.size wr w') (fun _ h => h.2) _ _ _ _ ?_
        have hHeld2 := And.intro hNew hHeld
        clear hNew hHeld
        refine wpAnyH_take (i := 5) (v := ?_) rfl (by kernel_rfl) (by kernel_rfl) (by kernel_rfl) (fun _ _ _ h => h) (Or.inl ⟨by rfl, ?_⟩) (by assumption) ?_
        rotate_left
        · (intro w hSw; (try dsimp only at hSw); go_simp)
          try with_reducible rfl
        refine wpAnyH_take (i := 6) (v := ?_) rfl (by kernel_rfl) (by kernel_rfl) (by kernel_rfl) (fun _ _ _ h => h) (Or.inl ⟨by rfl, ?_⟩) (by assumption) ?_
        rotate_left
        · (intro w hSw; (try dsimp only at hSw); go_simp)
          try with_reducible rfl
        simp only [Act.put, List.setIfInBounds_toArray]
        refine wpAnyH_ready (rs := [9]) (by kernel_rfl) (by simp) (AllReadyH.cons rfl (fun K hK => ?_) AllReadyH.nil)
        go_simp
        refine (HP.out _ _ _ _ _ (heldGram hHeld2.2)).mono ?_
        rintro e w' ⟨rfl, hb⟩
        dsimp only
        have hLast := And.intro ((Fr.new hb).cell hHeld2.1 fun e => e) (keepC hb hHeld2.2)
        refine hK.out _ _ hLast (fun hHeld => ?_)
        clear hK K hHeld2 hb hLast
        refine wpAnyH_take (i := 10) (v := ?_) rfl (by kernel_rfl) (by kernel_rfl) (by kernel_rfl) (fun _ _ _ h => h) (Or.inl ⟨by rfl, ?_⟩) (by assumption) ?_
        rotate_left
        · (intro w hSw; (try dsimp only at hSw); go_simp)
          try with_reducible rfl
        refine wpAnyH_done (by kernel_rfl) ?_ _
        simp only [Act.put, List.setIfInBounds_toArray]
        have HH := Lib.hid hHeld.2
        clear hHeld hS
        go_wp2
        go_roundw
        case rel =>
          have f := Fr.new HH.out.2.2.2.2
          exact ⟨1, by omega, by simp, f.obj HC.out.1 fun e => e, f.obj HC.out.2.1 fun e => e, HC.out.2.2.trans (HH.out.2.2.2.2.mono HC.out.2.2.size)⟩
        case measure => simp [intOf]
      · have HG := Lib.hid (gram_lit 1 (by omega))
        have HP := Lib.hid (picks_lit picks_1 ⟨by decide, by unfold i64; decide⟩ ⟨by decide, by unfold i64; decide⟩)
        go_wp2_with (go_at_call 16; refine (HG.out _).mono ?_; rintro e w4 ⟨sa, sc, pa, pc, rfl, hg, hb4⟩)
        have hS : Held w4.heap.size w2.heap.size (w2.heap.size + 1) sa pa sc pc 1 w4.heap.size wr (w4.alloc (.cells #[.int .i64 3, .slice sa 5 sc, .slice pa 4 pc] 25 (0, 0))) := by
          have h0 := alloc_obj w4 (.cells #[.int .i64 3, .slice sa 5 sc, .slice pa 4 pc] 25 (0, 0))
          have f := (Fr.new hb4).trans (Fr.alloc (ch := nothing) w4 (.cells #[.int .i64 3, .slice sa 5 sc, .slice pa 4 pc] 25 (0, 0)))
          have h1 := f.obj HC.out.1 fun e => e
          have h2 := f.obj HC.out.2.1 fun e => e
          exact ⟨⟨obj_cell h0 0 rfl, obj_cell h0 1 rfl, obj_cell h0 2 rfl⟩, ⟨obj_cell h1 0 rfl, obj_cell h1 1 rfl, obj_cell h2 0 rfl, obj_cell h2 1 rfl⟩, hg.fr (Fr.alloc _ _), by simp, hb4.alloc hb4.size _⟩
        clear hg hb4
        refine wp_region_held_drew (S := fun w' => (w'.cell? ⟨w4.heap.size, 0, none⟩ = some (.int .i64 3) ∧ w'.cell? ⟨w4.heap.size, 1, none⟩ = some (.slice sa 5 sc) ∧ w'.cell? ⟨w4.heap.size, 2, none⟩ = some (.slice pa 4 pc)) ∧
            (w'.cell? ⟨w2.heap.size, 0, none⟩ = some (.int .u8 1) ∧ w'.cell? ⟨w2.heap.size, 1, none⟩ = some (.int .i64 0) ∧ w'.cell? ⟨w2.heap.size + 1, 0, none⟩ = some (.int .u8 2) ∧ w'.cell? ⟨w2.heap.size + 1, 1, none⟩ = some (.int .i64 1)) ∧
            IsGram w' (gramV sa pa sc pc) (gramK 1) ∧ w4.heap.size ≤ w'.heap.size ∧ Below wr.heap.size wr w') (by kernel_rfl) (keepA hS) (fun hHeld => ?_)
        refine wpAnyH_take (i := 0) (v := ?_) rfl (by kernel_rfl) (by kernel_rfl) (by kernel_rfl) (fun _ _ _ h => h) (Or.inl ⟨by rfl, ?_⟩) (by assumption) ?_
        rotate_left
        · (intro w hSw; (try dsimp only at hSw); go_simp)
          try with_reducible rfl
        refine wpAnyH_take (i := 1) (v := ?_) rfl (by kernel_rfl) (by kernel_rfl) (by kernel_rfl) (fun _ _ _ h => h) (Or.inl ⟨by rfl, ?_⟩) (by assumption) ?_
        rotate_left
        · (intro w hSw; (try dsimp only at hSw); go_simp)
          try with_reducible rfl
        refine wpAnyH_take (i := 2) (v := ?_) rfl (by kernel_rfl) (by kernel_rfl) (by kernel_rfl) (fun _ _ _ h => h) (Or.inl ⟨by rfl, ?_⟩) (by assumption) ?_
        rotate_left
        · (intro w hSw; (try dsimp only at hSw); go_simp)
          try with_reducible rfl
        refine wpAnyH_take (i := 4) (v := ?_) rfl (by kernel_rfl) (by kernel_rfl) (by kernel_rfl) (fun _ _ _ h => h) (Or.inl ⟨by rfl, ?_⟩) (by assumption) ?_
        rotate_left
        · (intro w hSw; (try dsimp only at hSw); go_simp)
          try with_reducible rfl
        refine wpAnyH_take (i := 7) (v := ?_) rfl (by kernel_rfl) (by kernel_rfl) (by kernel_rfl) (fun _ _ _ h => h) (Or.inl ⟨by rfl, ?_⟩) (by assumption) ?_
        rotate_left
        · (intro w hSw; (try dsimp only at hSw); go_simp)
          try with_reducible rfl
        refine wpAnyH_take (i := 8) (v := ?_) rfl (by kernel_rfl) (by kernel_rfl) (by kernel_rfl) (fun _ _ _ h => h) (Or.inl ⟨by rfl, ?_⟩) (by assumption) ?_
        rotate_left
        · (intro w hSw; (try dsimp only at hSw); go_simp)
          try with_reducible rfl
        simp only [Act.put, List.setIfInBounds_toArray]
        refine wpAnyH_ready (rs := [3]) (by kernel_rfl) (by simp) (AllReadyH.cons rfl (fun K hK => ?_) AllReadyH.nil)
        go_simp
        refine hK.out _ _ (keepA (keepB hS)) (fun hHeld => ?_)
        clear hK K
        have hNew : (((w4.alloc (.cells #[.int .i64 3, .slice sa 5 sc, .slice pa 4 pc] 25 (0, 0))).alloc (.cells #[.int .i64 0, .int .i64 1, .int .i64 0, .int .i64 2] 3 (0, 0))).drew).cell? ⟨w4.heap.size + 1, 1, none⟩ = some (.int .i64 1) := obj_cell (alloc_at (by simp)) 1 rfl
        refine wpAnyH_turn (S' := fun w' => w'.cell? ⟨w4.heap.size + 1, 1, none⟩ = some (.int .i64 1) ∧ Held w4.heap.size w2.heap.size (w2.heap.size + 1) sa pa sc pc 1 w4.heap.size wr w') (fun _ h => h.2) _ _ _ _ ?_
        have hHeld2 := And.intro hNew hHeld
        clear hNew hHeld
        refine wpAnyH_take (i := 5) (v := ?_) rfl (by kernel_rfl) (by kernel_rfl) (by kernel_rfl) (fun _ _ _ h => h) (Or.inl ⟨by rfl, ?_⟩) (by assumption) ?_
        rotate_left
        · (intro w hSw; (try dsimp only at hSw); go_simp)
          try with_reducible rfl
        refine wpAnyH_take (i := 6) (v := ?_) rfl (by kernel_rfl) (by kernel_rfl) (by kernel_rfl) (fun _ _ _ h => h) (Or.inl ⟨by rfl, ?_⟩) (by assumption) ?_
        rotate_left
        · (intro w hSw; (try dsimp only at hSw); go_simp)
          try with_reducible rfl
        simp only [Act.put, List.setIfInBounds_toArray]
        refine wpAnyH_ready (rs := [9]) (by kernel_rfl) (by simp) (AllReadyH.cons rfl (fun K hK => ?_) AllReadyH.nil)
        go_simp
        refine (HP.out _ _ _ _ _ (heldGram hHeld2.2)).mono ?_
        rintro e w' ⟨rfl, hb⟩
        dsimp only
        have hLast := And.intro ((Fr.new hb).cell hHeld2.1 fun e => e) (keepC hb hHeld2.2)
        refine hK.out _ _ hLast (fun hHeld => ?_)
        clear hK K hHeld2 hb hLast
        refine wpAnyH_take (i := 10) (v := ?_) rfl (by kernel_rfl) (by kernel_rfl) (by kernel_rfl) (fun _ _ _ h => h) (Or.inl ⟨by rfl, ?_⟩) (by assumption) ?_
        rotate_left
        · (intro w hSw; (try dsimp only at hSw); go_simp)
          try with_reducible rfl
        refine wpAnyH_done (by kernel_rfl) ?_ _
        simp only [Act.put, List.setIfInBounds_toArray]
        have HH := Lib.hid hHeld.2
        clear hHeld hS
        go_wp2
        go_roundw
        case rel =>
          have f := Fr.new HH.out.2.2.2.2
          exact ⟨2, by omega, by simp, f.obj HC.out.1 fun e => e, f.obj HC.out.2.1 fun e => e, HC.out.2.2.trans (HH.out.2.2.2.2.mono HC.out.2.2.size)⟩
        case measure => simp [intOf]
      · have HG := Lib.hid (gram_lit 2 (by omega))
        have HP := Lib.hid (picks_lit picks_2 ⟨by decide, by unfold i64; decide⟩ ⟨by decide, by unfold i64; decide⟩)
        go_wp2_with (go_at_call 16; refine (HG.out _).mono ?_; rintro e w4 ⟨sa, sc, pa, pc, rfl, hg, hb4⟩)
        have hS : Held w4.heap.size w2.heap.size (w2.heap.size + 1) sa pa sc pc 2 w4.heap.size wr (w4.alloc (.cells #[.int .i64 3, .slice sa 5 sc, .slice pa 4 pc] 25 (0, 0))) := by
          have h0 := alloc_obj w4 (.cells #[.int .i64 3, .slice sa 5 sc, .slice pa 4 pc] 25 (0, 0))
          have f := (Fr.new hb4).trans (Fr.alloc (ch := nothing) w4 (.cells #[.int .i64 3, .slice sa 5 sc, .slice pa 4 pc] 25 (0, 0)))
          have h1 := f.obj HC.out.1 fun e => e
          have h2 := f.obj HC.out.2.1 fun e => e
          exact ⟨⟨obj_cell h0 0 rfl, obj_cell h0 1 rfl, obj_cell h0 2 rfl⟩, ⟨obj_cell h1 0 rfl, obj_cell h1 1 rfl, obj_cell h2 0 rfl, obj_cell h2 1 rfl⟩, hg.fr (Fr.alloc _ _), by simp, hb4.alloc hb4.size _⟩
        clear hg hb4
        refine wp_region_held_drew (S := fun w' => (w'.cell? ⟨w4.heap.size, 0, none⟩ = some (.int .i64 3) ∧ w'.cell? ⟨w4.heap.size, 1, none⟩ = some (.slice sa 5 sc) ∧ w'.cell? ⟨w4.heap.size, 2, none⟩ = some (.slice pa 4 pc)) ∧
            (w'.cell? ⟨w2.heap.size, 0, none⟩ = some (.int .u8 1) ∧ w'.cell? ⟨w2.heap.size, 1, none⟩ = some (.int .i64 0) ∧ w'.cell? ⟨w2.heap.size + 1, 0, none⟩ = some (.int .u8 2) ∧ w'.cell? ⟨w2.heap.size + 1, 1, none⟩ = some (.int .i64 1)) ∧
            IsGram w' (gramV sa pa sc pc) (gramK 2) ∧ w4.heap.size ≤ w'.heap.size ∧ Below wr.heap.size wr w') (by kernel_rfl) (keepA hS) (fun hHeld => ?_)
        refine wpAnyH_take (i := 0) (v := ?_) rfl (by kernel_rfl) (by kernel_rfl) (by kernel_rfl) (fun _ _ _ h => h) (Or.inl ⟨by rfl, ?_⟩) (by assumption) ?_
        rotate_left
        · (intro w hSw; (try dsimp only at hSw); go_simp)
          try with_reducible rfl
        refine wpAnyH_take (i := 1) (v := ?_) rfl (by kernel_rfl) (by kernel_rfl) (by kernel_rfl) (fun _ _ _ h => h) (Or.inl ⟨by rfl, ?_⟩) (by assumption) ?_
        rotate_left
        · (intro w hSw; (try dsimp only at hSw); go_simp)
          try with_reducible rfl
        refine wpAnyH_take (i := 2) (v := ?_) rfl (by kernel_rfl) (by kernel_rfl) (by kernel_rfl) (fun _ _ _ h => h) (Or.inl ⟨by rfl, ?_⟩) (by assumption) ?_
        rotate_left
        · (intro w hSw; (try dsimp only at hSw); go_simp)
          try with_reducible rfl
        refine wpAnyH_take (i := 4) (v := ?_) rfl (by kernel_rfl) (by kernel_rfl) (by kernel_rfl) (fun _ _ _ h => h) (Or.inl ⟨by rfl, ?_⟩) (by assumption) ?_
        rotate_left
        · (intro w hSw; (try dsimp only at hSw); go_simp)
          try with_reducible rfl
        refine wpAnyH_take (i := 7) (v := ?_) rfl (by kernel_rfl) (by kernel_rfl) (by kernel_rfl) (fun _ _ _ h => h) (Or.inl ⟨by rfl, ?_⟩) (by assumption) ?_
        rotate_left
        · (intro w hSw; (try dsimp only at hSw); go_simp)
          try with_reducible rfl
        refine wpAnyH_take (i := 8) (v := ?_) rfl (by kernel_rfl) (by kernel_rfl) (by kernel_rfl) (fun _ _ _ h => h) (Or.inl ⟨by rfl, ?_⟩) (by assumption) ?_
        rotate_left
        · (intro w hSw; (try dsimp only at hSw); go_simp)
          try with_reducible rfl
        simp only [Act.put, List.setIfInBounds_toArray]
        refine wpAnyH_ready (rs := [3]) (by kernel_rfl) (by simp) (AllReadyH.cons rfl (fun K hK => ?_) AllReadyH.nil)
        go_simp
        refine hK.out _ _ (keepA (keepB hS)) (fun hHeld => ?_)
        clear hK K
        have hNew : (((w4.alloc (.cells #[.int .i64 3, .slice sa 5 sc, .slice pa 4 pc] 25 (0, 0))).alloc (.cells #[.int .i64 0, .int .i64 1, .int .i64 0, .int .i64 2] 3 (0, 0))).drew).cell? ⟨w4.heap.size + 1, 2, none⟩ = some (.int .i64 0) := obj_cell (alloc_at (by simp)) 2 rfl
        refine wpAnyH_turn (S' := fun w' => w'.cell? ⟨w4.heap.size + 1, 2, none⟩ = some (.int .i64 0) ∧ Held w4.heap.size w2.heap.size (w2.heap.size + 1) sa pa sc pc 2 w4.heap.size wr w') (fun _ h => h.2) _ _ _ _ ?_
        have hHeld2 := And.intro hNew hHeld
        clear hNew hHeld
        refine wpAnyH_take (i := 5) (v := ?_) rfl (by kernel_rfl) (by kernel_rfl) (by kernel_rfl) (fun _ _ _ h => h) (Or.inl ⟨by rfl, ?_⟩) (by assumption) ?_
        rotate_left
        · (intro w hSw; (try dsimp only at hSw); go_simp)
          try with_reducible rfl
        refine wpAnyH_take (i := 6) (v := ?_) rfl (by kernel_rfl) (by kernel_rfl) (by kernel_rfl) (fun _ _ _ h => h) (Or.inl ⟨by rfl, ?_⟩) (by assumption) ?_
        rotate_left
        · (intro w hSw; (try dsimp only at hSw); go_simp)
          try with_reducible rfl
        simp only [Act.put, List.setIfInBounds_toArray]
        refine wpAnyH_ready (rs := [9]) (by kernel_rfl) (by simp) (AllReadyH.cons rfl (fun K hK => ?_) AllReadyH.nil)
        go_simp
        refine (HP.out _ _ _ _ _ (heldGram hHeld2.2)).mono ?_
        rintro e w' ⟨rfl, hb⟩
        dsimp only
        have hLast := And.intro ((Fr.new hb).cell hHeld2.1 fun e => e) (keepC hb hHeld2.2)
        refine hK.out _ _ hLast (fun hHeld => ?_)
        clear hK K hHeld2 hb hLast
        refine wpAnyH_take (i := 10) (v := ?_) rfl (by kernel_rfl) (by kernel_rfl) (by kernel_rfl) (fun _ _ _ h => h) (Or.inl ⟨by rfl, ?_⟩) (by assumption) ?_
        rotate_left
        · (intro w hSw; (try dsimp only at hSw); go_simp)
          try with_reducible rfl
        refine wpAnyH_done (by kernel_rfl) ?_ _
        simp only [Act.put, List.setIfInBounds_toArray]
        have HH := Lib.hid hHeld.2
        clear hHeld hS
        go_wp2
        go_roundw
        case rel =>
          have f := Fr.new HH.out.2.2.2.2
          exact ⟨3, by omega, by simp, f.obj HC.out.1 fun e => e, f.obj HC.out.2.1 fun e => e, HC.out.2.2.trans (HH.out.2.2.2.2.mono HC.out.2.2.size)⟩
        case measure => simp [intOf]
      · have HG := Lib.hid (gram_lit 3 (by omega))
        have HP := Lib.hid (picks_lit picks_3 ⟨by decide, by unfold i64; decide⟩ ⟨by decide, by unfold i64; decide⟩)
        go_wp2_with (go_at_call 16; refine (HG.out _).mono ?_; rintro e w4 ⟨sa, sc, pa, pc, rfl, hg, hb4⟩)
        have hS : Held w4.heap.size w2.heap.size (w2.heap.size + 1) sa pa sc pc 3 w4.heap.size wr (w4.alloc (.cells #[.int .i64 3, .slice sa 5 sc, .slice pa 4 pc] 25 (0, 0))) := by
          have h0 := alloc_obj w4 (.cells #[.int .i64 3, .slice sa 5 sc, .slice pa 4 pc] 25 (0, 0))
          have f := (Fr.new hb4).trans (Fr.alloc (ch := nothing) w4 (.cells #[.int .i64 3, .slice sa 5 sc, .slice pa 4 pc] 25 (0, 0)))
          have h1 := f.obj HC.out.1 fun e => e
          have h2 := f.obj HC.out.2.1 fun e => e
          exact ⟨⟨obj_cell h0 0 rfl, obj_cell h0 1 rfl, obj_cell h0 2 rfl⟩, ⟨obj_cell h1 0 rfl, obj_cell h1 1 rfl, obj_cell h2 0 rfl, obj_cell h2 1 rfl⟩, hg.fr (Fr.alloc _ _), by simp, hb4.alloc hb4.size _⟩
        clear hg hb4
        refine wp_region_held_drew (S := fun w' => (w'.cell? ⟨w4.heap.size, 0, none⟩ = some (.int .i64 3) ∧ w'.cell? ⟨w4.heap.size, 1, none⟩ = some (.slice sa 5 sc) ∧ w'.cell? ⟨w4.heap.size, 2, none⟩ = some (.slice pa 4 pc)) ∧
            (w'.cell? ⟨w2.heap.size, 0, none⟩ = some (.int .u8 1) ∧ w'.cell? ⟨w2.heap.size, 1, none⟩ = some (.int .i64 0) ∧ w'.cell? ⟨w2.heap.size + 1, 0, none⟩ = some (.int .u8 2) ∧ w'.cell? ⟨w2.heap.size + 1, 1, none⟩ = some (.int .i64 1)) ∧
            IsGram w' (gramV sa pa sc pc) (gramK 3) ∧ w4.heap.size ≤ w'.heap.size ∧ Below wr.heap.size wr w') (by kernel_rfl) (keepA hS) (fun hHeld => ?_)
        refine wpAnyH_take (i := 0) (v := ?_) rfl (by kernel_rfl) (by kernel_rfl) (by kernel_rfl) (fun _ _ _ h => h) (Or.inl ⟨by rfl, ?_⟩) (by assumption) ?_
        rotate_left
        · (intro w hSw; (try dsimp only at hSw); go_simp)
          try with_reducible rfl
        refine wpAnyH_take (i := 1) (v := ?_) rfl (by kernel_rfl) (by kernel_rfl) (by kernel_rfl) (fun _ _ _ h => h) (Or.inl ⟨by rfl, ?_⟩) (by assumption) ?_
        rotate_left
        · (intro w hSw; (try dsimp only at hSw); go_simp)
          try with_reducible rfl
        refine wpAnyH_take (i := 2) (v := ?_) rfl (by kernel_rfl) (by kernel_rfl) (by kernel_rfl) (fun _ _ _ h => h) (Or.inl ⟨by rfl, ?_⟩) (by assumption) ?_
        rotate_left
        · (intro w hSw; (try dsimp only at hSw); go_simp)
          try with_reducible rfl
        refine wpAnyH_take (i := 4) (v := ?_) rfl (by kernel_rfl) (by kernel_rfl) (by kernel_rfl) (fun _ _ _ h => h) (Or.inl ⟨by rfl, ?_⟩) (by assumption) ?_
        rotate_left
        · (intro w hSw; (try dsimp only at hSw); go_simp)
          try with_reducible rfl
        refine wpAnyH_take (i := 7) (v := ?_) rfl (by kernel_rfl) (by kernel_rfl) (by kernel_rfl) (fun _ _ _ h => h) (Or.inl ⟨by rfl, ?_⟩) (by assumption) ?_
        rotate_left
        · (intro w hSw; (try dsimp only at hSw); go_simp)
          try with_reducible rfl
        refine wpAnyH_take (i := 8) (v := ?_) rfl (by kernel_rfl) (by kernel_rfl) (by kernel_rfl) (fun _ _ _ h => h) (Or.inl ⟨by rfl, ?_⟩) (by assumption) ?_
        rotate_left
        · (intro w hSw; (try dsimp only at hSw); go_simp)
          try with_reducible rfl
        simp only [Act.put, List.setIfInBounds_toArray]
        refine wpAnyH_ready (rs := [3]) (by kernel_rfl) (by simp) (AllReadyH.cons rfl (fun K hK => ?_) AllReadyH.nil)
        go_simp
        refine hK.out _ _ (keepA (keepB hS)) (fun hHeld => ?_)
        clear hK K
        have hNew : (((w4.alloc (.cells #[.int .i64 3, .slice sa 5 sc, .slice pa 4 pc] 25 (0, 0))).alloc (.cells #[.int .i64 0, .int .i64 1, .int .i64 0, .int .i64 2] 3 (0, 0))).drew).cell? ⟨w4.heap.size + 1, 3, none⟩ = some (.int .i64 2) := obj_cell (alloc_at (by simp)) 3 rfl
        refine wpAnyH_turn (S' := fun w' => w'.cell? ⟨w4.heap.size + 1, 3, none⟩ = some (.int .i64 2) ∧ Held w4.heap.size w2.heap.size (w2.heap.size + 1) sa pa sc pc 3 w4.heap.size wr w') (fun _ h => h.2) _ _ _ _ ?_
        have hHeld2 := And.intro hNew hHeld
        clear hNew hHeld
        refine wpAnyH_take (i := 5) (v := ?_) rfl (by kernel_rfl) (by kernel_rfl) (by kernel_rfl) (fun _ _ _ h => h) (Or.inl ⟨by rfl, ?_⟩) (by assumption) ?_
        rotate_left
        · (intro w hSw; (try dsimp only at hSw); go_simp)
          try with_reducible rfl
        refine wpAnyH_take (i := 6) (v := ?_) rfl (by kernel_rfl) (by kernel_rfl) (by kernel_rfl) (fun _ _ _ h => h) (Or.inl ⟨by rfl, ?_⟩) (by assumption) ?_
        rotate_left
        · (intro w hSw; (try dsimp only at hSw); go_simp)
          try with_reducible rfl
        simp only [Act.put, List.setIfInBounds_toArray]
        refine wpAnyH_ready (rs := [9]) (by kernel_rfl) (by simp) (AllReadyH.cons rfl (fun K hK => ?_) AllReadyH.nil)
        go_simp
        refine (HP.out _ _ _ _ _ (heldGram hHeld2.2)).mono ?_
        rintro e w' ⟨rfl, hb⟩
        dsimp only
        have hLast := And.intro ((Fr.new hb).cell hHeld2.1 fun e => e) (keepC hb hHeld2.2)
        refine hK.out _ _ hLast (fun hHeld => ?_)
        clear hK K hHeld2 hb hLast
        refine wpAnyH_take (i := 10) (v := ?_) rfl (by kernel_rfl) (by kernel_rfl) (by kernel_rfl) (fun _ _ _ h => h) (Or.inl ⟨by rfl, ?_⟩) (by assumption) ?_
        rotate_left
        · (intro w hSw; (try dsimp only at hSw); go_simp)
          try with_reducible rfl
        refine wpAnyH_done (by kernel_rfl) ?_ _
        simp only [Act.put, List.setIfInBounds_toArray]
        have HH := Lib.hid hHeld.2
        clear hHeld hS
        go_wp2
        go_roundw
        case rel =>
          have f := Fr.new HH.out.2.2.2.2
          exact ⟨4, by omega, by simp, f.obj HC.out.1 fun e => e, f.obj HC.out.2.1 fun e => e, HC.out.2.2.trans (HH.out.2.2.2.2.mono HC.out.2.2.size)⟩
        case measure => simp [intOf]
    · obtain rfl : k = 4 := by omega
      have HG := Lib.hid (gram_lit 0 (by omega))
      have HP := Lib.hid (picks_lit picks_4 ⟨by decide, by unfold i64; decide⟩ ⟨by decide, by unfold i64; decide⟩)
      have HC := Lib.hid hB
      have hS : (wr.cell? ⟨w2.heap.size + 1, 0, none⟩ = some (.int .u8 2) ∧ wr.cell? ⟨w2.heap.size + 1, 1, none⟩ = some (.int .i64 1)) ∧ Below wr.heap.size wr wr := ⟨⟨obj_cell hc2 0 rfl, obj_cell hc2 1 rfl⟩, Below.refl _ _⟩
      clear hc1 hc2 hB hlt
      go_wp2_with fail
      go_region_held3 (fun w' => (w'.cell? ⟨w2.heap.size + 1, 0, none⟩ = some (.int .u8 2) ∧ w'.cell? ⟨w2.heap.size + 1, 1, none⟩ = some (.int .i64 1)) ∧ Below wr.heap.size wr w')
        (first | exact keepD hS | exact keepE (by assumption) (by assumption))
        (first
          | (go_at_call 16; refine (HG.out _).mono ?_; rintro e w' ⟨sa, sc, pa, pc, rfl, hg, hb⟩)
          | (go_at_call 15; refine (HA.out 2 2 _).mono ?_; rintro e w' ⟨rfl, hb⟩; first | (have hg2 := keepF hb (by assumption)) | skip)
          | (go_at_call 29; refine (HP.out _ _ _ _ _ (by assumption)).mono ?_; rintro e w' ⟨rfl, hb⟩))
      all_goals
        have hHH : Below wr.heap.size wr w' := keepG (c := w2.heap.size + 1) (u := .int .u8 2) (v := .int .i64 1) (by assumption)
        have HH := Lib.hid hHH
        clear hHH hb
        go_wp2
        go_ret
        exact ⟨rfl, HC.out.trans (HH.out.mono HC.out.size)⟩
end Go.Proofs.Ytijdaihcogbliaa
