/-
  Package bits: the function that goes through a set's numbers, rising; New; All.
-/
import Derived.Test.YtfhleelechbdmaaDoorBits1
import Derived.RangeFuncBox
import Derived.RangeFuncNested
import Derived.RangeFuncBound
import Derived.RangeFuncCalls
import Derived.RangeFuncLeaves
import Derived.Shelf.Abstract
import Derived.OwnWalkIn
import Derived.TacticsInMore
import Derived.LoopNIn
import Derived.LoopIn
import Derived.Maps.AppendAt
namespace Go.Proofs.YtfhleelechbdmaaDoor
open Go.RowKit Go.Shelf
attribute [local go_sem] Oper.semAt_some
set_option maxHeartbeats 400000

/-- The library's table, in its variable. -/
def Tab (w : World) : Prop := ∀ j, j < 64 → w.cell? ⟨0, j, none⟩ = some (.int .u8 (Lib.deBruijn64tab.getD j 0))
theorem Tab.fr {w w' : World} {ch : Nat → Prop} (h : Tab w) (k : Fr ch w w') (hc : ¬ ch 0) : Tab w' := fun j hj => k.cell (h j hj) hc

theorem tz_core (x k idx : Nat) (w : World) (hx0 : ((x : Int) == 0) = false)
    (key : IntKind.u64.wrap (bits BinOp.and IntKind.u64 (x : Int) (IntKind.u64.wrap (-(x : Int))) * 285870213051353865) / 288230376151711744 = (idx : Int))
    (hi : idx < 64) (hk : k < 64) (hcell : w.cell? ⟨0, idx, none⟩ = some (.int .u8 k)) :
    Calls Tryd.prog 40 #[.int .u64 x] w fun e w' => e = .returned (.int .i64 k) ∧ w = w' := by
  go_enter Tryd.func40, Tryd.ntmps40
  go_wp2_with (simp only [key])
  go_ret
  exact ⟨rfl, rfl⟩
theorem tz_key (x a : Nat) (hx : x < 18446744073709551616) (hx0 : x ≠ 0) (hlow : x &&& (18446744073709551616 - x) = a) :
    IntKind.u64.wrap (bits BinOp.and IntKind.u64 (x : Int) (IntKind.u64.wrap (-(x : Int))) * 285870213051353865) / 288230376151711744 = ((a * 285870213051353865 % 18446744073709551616 / 288230376151711744 : Nat) : Int) := by
  have e1 : IntKind.u64.wrap (-(x : Int)) = ((18446744073709551616 - x : Nat) : Int) := by rw [IntKind.wrap_u64]; omega
  rw [e1, bits_and_u64_nat x _ hx (by omega), hlow, IntKind.wrap_u64]
  omega
theorem tz_any (x : Nat) (hx : x < 18446744073709551616) (hx0 : x ≠ 0) (w : World) (hT : Tab w) :
    Calls Tryd.prog 40 #[.int .u64 x] w fun e w' => e = .returned (.int .i64 (Lib.ctz 64 x)) ∧ w = w' := by
  obtain ⟨hlow, hk⟩ := Lib.lowest_bit 64 x hx0 hx
  obtain ⟨hi, htab⟩ := Lib.deBruijn64_at _ hk
  have hcell := hT _ hi
  rw [htab] at hcell
  exact tz_core x _ _ w (by simp <;> omega) (tz_key x _ hx hx0 hlow) hi hk hcell

set_option maxRecDepth 100000 in
set_option maxHeartbeats 2000000 in
/-- The closure of each: for every loop body that keeps the words' block. -/
theorem each1_in (n : Nat) (hn : 3 ≤ n) (l Br g cap : Nat) (a : Option Addr) (ws : List Nat) (ha : ws ≠ [] → a = some ⟨g, 0, none⟩) (hlen : ws.length ≤ 64) (hw : ∀ u ∈ ws, u < 18446744073709551616) (Kp : World → World → Prop) (J Jx : List Nat → World → Prop)
    (hkT : ∀ A B, Kp A B → Tab A → Tab B) (hkC : ∀ A B, Kp A B → Cells A g 0 (words ws) → Cells B g 0 (words ws))
    (hY : ∀ pre (x : Nat) (xi : Int), xi = x → x ∈ elems ws → ∀ W, J pre W → pre.length < 4096 → YieldAt Fence.wide (n - 1) Tryd.prog l #[.int .i64 xi] W fun e W' =>
      (e = .returned (.bool true) ∧ J (pre ++ [x]) W' ∧ Kp W W') ∨ (e = .returned (.bool false) ∧ Jx (pre ++ [x]) W'))
    (W : World) (hBr : W.cell? ⟨Br, 0, none⟩ = some (.slice a ws.length cap)) (hc : Cells W g 0 (words ws)) (hT : Tab W) (h0 : J [] W) :
    CallsIn Fence.wide n Tryd.prog 39 #[.func (.yield l) #[] #[], .pointer (some ⟨Br, 0, none⟩)] W fun e W' => (∃ v, e = .returned v) ∧
      ((∃ ys, ys = elems ws ∧ J ys W') ∨ (∃ pre, pre <+: elems ws ∧ Jx pre W')) := by
  refine callsIn_of_wp Tryd.func39 rfl trivial ?_ rfl
  simp only [Tryd.ntmps39, List.size_toArray, List.length_cons, List.length_nil, Nat.reduceAdd, Nat.reduceSub, Array.replicate_succ, Array.replicate_zero, List.push_toArray, List.append_toArray, List.nil_append, List.cons_append]
  gi_wp2
  gi_loopw [7] (fun i wr => ∃ k : Nat, k ≤ ws.length ∧ i = .int .i64 k ∧ J (elemsTo ws (64 * k)) wr ∧ Cells wr g 0 (words ws) ∧ Tab wr)
    (fun i _ => ws.length - (intOf i).toNat)
  case atStart => exact ⟨0, Nat.zero_le _, rfl, h0, hc, hT⟩
  case round =>
    obtain ⟨k, hk, rfl, hJs, hcs, hTs⟩ := hrel
    by_cases hlt : k < ws.length
    · obtain rfl : a = some ⟨g, 0, none⟩ := ha (by rintro rfl; simp at hlt)
      have hcx : wr.cell? ⟨g, k, none⟩ = some (.int .u64 ((ws[k]?.getD 0 : Nat) : Int)) := by
        have := hcs k (by rw [words_length]; exact hlt)
        rw [words_get, Nat.zero_add] at this; exact this
      have hu : ws[k]?.getD 0 < 18446744073709551616 := by rw [List.getElem?_eq_getElem hlt]; exact hw _ (List.getElem_mem hlt)
      generalize hU : ws[k]?.getD 0 = U at hcx hu
      gi_wp2
      obtain ⟨wo, rfl⟩ : ∃ wo : World, wo = wr := ⟨_, rfl⟩
      gi_loopw [4] (fun x wr => ∃ j : Nat, j ≤ 64 ∧ x = .int .u64 ((low j U : Nat) : Int) ∧ J (elemsTo ws (64 * k + j)) wr ∧ Cells wr g 0 (words ws) ∧ Tab wr)
        (fun x _ => (intOf x).toNat)
      case atStart => exact ⟨0, by omega, by rw [low_zero], hJs, hcs, hTs⟩
      case round =>
        obtain ⟨j, hj, rfl, hJ1, hcs1, hT1⟩ := hrel
        by_cases hx0 : low j U = 0
        · have hov := elemsTo_over ws k j hj (by rw [hU]; exact hx0)
          rw [← hov] at hJ1
          rw [hx0]
          clear hcx
          gi_wp2
          go_roundw
          case rel => exact ⟨k + 1, by omega, by simp, hJ1, hcs1, hT1⟩
          case measure => simp [intOf]; omega
        · have hxl := low_lt j U hu
          obtain ⟨c1, c2, c3, c4, c5⟩ := low_next j U hu hx0
          have hro := elemsTo_round ws k j (by rw [hU]; exact hu) (by rw [hU]; exact hx0)
          rw [hU] at hro
          have hmem : 64 * k + Lib.ctz 64 (low j U) ∈ elems ws := (elemsTo_prefix ws (64 * k + (Lib.ctz 64 (low j U) + 1)) (64 * ws.length) (by omega)).subset (by rw [hro]; simp)
          have HT := Lib.hid (tz_any (low j U) hxl hx0 wr hT1)
          generalize hX : low j U = x at *
          have hxb : ((x : Int) != 0) = true := by simp; omega
          generalize Lib.ctz 64 x = c at *
          obtain ⟨fn, tmps, assign, body, hy, hR⟩ := hY _ (64 * k + c) (64 * (k : Int) + (c : Int)) (by omega) hmem wr hJ1 (by have := elemsTo_length ws (64 * k + j); omega)
          have HR := Lib.hid hR
          have H5 := Lib.hid c5
          have HX := Lib.hid hX
          have HRO := Lib.hid hro
          have HU := Lib.hid hU
          clear hR c5 hX hro c3 c4 hU hcx hmem
          gi_wp2_with (refine ⟨trivial, fun _ => by omega, ?_⟩; gi_at_call 40; refine (callsIn_wide.2 (HT.out)).mono ?_; rintro e w' ⟨rfl, rfl⟩)
          refine ⟨fun _ => by omega, ?_⟩
          refine HR.out.mono ?_
          rintro e W3 (⟨rfl, hJ3, hk3⟩ | ⟨rfl, hJx3⟩)
          · gi_wp2
            have hb : bits BinOp.and IntKind.u64 (x : Int) ((x : Int) - 1) = ((low (c + 1) U : Nat) : Int) := by
              rw [show (x : Int) - 1 = ((x - 1 : Nat) : Int) by omega, bits_and_u64_nat x (x - 1) hxl (by omega), H5.out]
            go_roundw
            case rel => exact ⟨c + 1, by omega, by rw [hb], by rw [HRO.out]; exact hJ3, hkC _ _ hk3 hcs1, hkT _ _ hk3 hT1⟩
            case measure =>
              have h6 : low (c + 1) U < x := by rw [← H5.out]; exact Nat.lt_of_le_of_lt Nat.and_le_right (by omega)
              show (intOf (Value.int IntKind.u64 (bits BinOp.and IntKind.u64 (x : Int) ((x : Int) - 1)))).toNat < _
              rw [hb]
              simpa [intOf] using h6
          · gi_wp2
            refine bodyPost_ret (results_none rfl _ _ _) rfl ?_
            exact ⟨⟨_, rfl⟩, .inr ⟨_, by rw [← HRO.out]; exact elemsTo_prefix _ _ _ (by omega), hJx3⟩⟩
    · obtain rfl : k = ws.length := by omega
      clear hlt
      gi_wp2
      go_end0
      exact ⟨⟨_, rfl⟩, .inl ⟨_, rfl, hJs⟩⟩

theorem each_any (a : Option Addr) (len cap : Nat) (w : World) :
    Calls Tryd.prog 33 #[.slice a len cap] w fun e w' => e = .returned (.func (.func 39) #[] #[.pointer (some ⟨w.heap.size, 0, none⟩)]) ∧ w.alloc (.cells #[.slice a len cap] 69) = w' := by
  go_enter Tryd.func33, Tryd.ntmps33
  go_wp2
  go_ret
  exact ⟨rfl, rfl⟩

theorem each_stops (n : Nat) (hn : 3 ≤ n) (Br g cap : Nat) (a : Option Addr) (ws : List Nat) (ha : ws ≠ [] → a = some ⟨g, 0, none⟩) (hlen : ws.length ≤ 64) (hw : ∀ u ∈ ws, u < 18446744073709551616) (Kp : World → World → Prop)
    (hkT : ∀ A B, Kp A B → Tab A → Tab B) (hkC : ∀ A B, Kp A B → Cells A g 0 (words ws) → Cells B g 0 (words ws)) (w : World) (h0 : 0 < w.heap.size)
    (hBr : w.cell? ⟨Br, 0, none⟩ = some (.slice a ws.length cap)) (hc : Cells w g 0 (words ws)) (hT : Tab w) :
    SeqStopsK Fence.wide n Tryd.prog 39 #[.pointer (some ⟨Br, 0, none⟩)] (fun x : Nat => #[Value.int .i64 (x : Int)]) Kp (fun ys => ys = elems ws) (fun pre => pre <+: elems ws) 4096 w :=
  fun l J Jx W hW _ _ hY h0' =>
    each1_in n hn l Br g cap a ws ha hlen hw Kp J Jx hkT hkC (fun pre x xi hx _ W1 hJ hl => by subst hx; exact hY pre x W1 hJ hl) W
      ((hW.cell (p := ⟨Br, 0, none⟩) (World.block_lt_of_cell? w _ hBr)).trans hBr) (fun i hi => (hW.cell (p := ⟨g, 0 + i, none⟩) (World.block_lt_of_cell? w _ (hc i hi))).trans (hc i hi))
      (hT.fr (Fr.of_below hW) (by unfold from_; omega)) h0'

/-- The same, where the loop's body is told that the number is one of the set's. -/
theorem each_stopsM (n : Nat) (hn : 3 ≤ n) (Br g cap : Nat) (a : Option Addr) (ws : List Nat) (ha : ws ≠ [] → a = some ⟨g, 0, none⟩) (hlen : ws.length ≤ 64) (hw : ∀ u ∈ ws, u < 18446744073709551616) (Kp : World → World → Prop)
    (hkT : ∀ A B, Kp A B → Tab A → Tab B) (hkC : ∀ A B, Kp A B → Cells A g 0 (words ws) → Cells B g 0 (words ws)) (w : World) (h0 : 0 < w.heap.size)
    (hBr : w.cell? ⟨Br, 0, none⟩ = some (.slice a ws.length cap)) (hc : Cells w g 0 (words ws)) (hT : Tab w) :
    SeqStopsK Fence.wide n Tryd.prog 39 #[.pointer (some ⟨Br, 0, none⟩)] (fun x : {x : Nat // x ∈ elems ws} => #[Value.int .i64 (x.1 : Int)]) Kp (fun ys => ys.map (·.1) = elems ws) (fun _ => True) 4096 w :=
  fun l J Jx W hW _ _ hY h0' =>
    (each1_in n hn l Br g cap a ws ha hlen hw Kp (fun pre W => ∃ ys : List {x : Nat // x ∈ elems ws}, ys.map (·.1) = pre ∧ J ys W) (fun pre W => ∃ ys : List {x : Nat // x ∈ elems ws}, ys.map (·.1) = pre ∧ Jx ys W) hkT hkC
      (fun pre x xi hx hm W1 hJ hl => by
        subst hx
        obtain ⟨ys, rfl, hJ⟩ := hJ
        obtain ⟨fn, tmps, assign, body, hy, hR⟩ := hY ys ⟨x, hm⟩ W1 hJ (by simpa using hl)
        refine ⟨fn, tmps, assign, body, hy, hR.mono ?_⟩
        rintro e W' (⟨he, hj, hk⟩ | ⟨he, hj⟩)
        · exact .inl ⟨he, ⟨_, by simp, hj⟩, hk⟩
        · exact .inr ⟨he, ⟨_, by simp, hj⟩⟩) W
      ((hW.cell (p := ⟨Br, 0, none⟩) (World.block_lt_of_cell? w _ hBr)).trans hBr) (fun i hi => (hW.cell (p := ⟨g, 0 + i, none⟩) (World.block_lt_of_cell? w _ (hc i hi))).trans (hc i hi))
      (hT.fr (Fr.of_below hW) (by unfold from_; omega)) ⟨[], rfl, h0'⟩).mono fun e W' ⟨hv, h⟩ => ⟨hv, by
        rcases h with ⟨ys, rfl, ys', h1, h2⟩ | ⟨pre, _, ys', _, h2⟩
        · exact .inl ⟨ys', h1, h2⟩
        · exact .inr ⟨ys', trivial, h2⟩⟩

theorem Tryd.infoInt : (Tryd.prog.info? 3).map (fun i => (i.zero, i.size, i.bytes)) = some (some (.int .i64 0), 1, 8) := by kernel_rfl

set_option maxRecDepth 100000 in
set_option maxHeartbeats 2000000 in
theorem set_all (w : World) (B p n : Nat) (v : Value) (ws : List Nat) (h : IsSet w B p n v ws) (hT : Tab w) (hgl : 0 < w.heap.size) :
    Calls Tryd.prog 20 #[.pointer (some ⟨p, 0, none⟩)] w fun e w' => ∃ r, e = .returned r ∧ Below w.heap.size w w' ∧
      w'.ownsRow w.heap.size 3 1 r (elems ws).length ((elems ws).map fun x : Nat => Value.int .i64 (x : Int)) := by
  have hc0 : w.cell? ⟨p, 0, none⟩ = some v := by simp [World.cell?, h.hp]
  have hc2 : w.cell? ⟨p, 2, none⟩ = some (.bool true) := by simp [World.cell?, h.hp]
  obtain ⟨g, a, cap, rfl, ha, hcs⟩ := h.block'
  have hl := h.len
  have hn := h.hn
  have hw := h.hw
  have hp := World.block_lt_of_cell? w _ hc0
  have hl64 : ws.length ≤ 64 := by omega
  obtain ⟨i0, hi, hz0, hz1, hz2⟩ := info_parts Tryd.infoInt
  refine (callsIn_wide (n := 9)).1 ?_
  refine callsIn_of_wp_marks Tryd.func20 rfl trivial ?_ rfl
  simp only [Tryd.ntmps20, List.size_toArray, List.length_cons, List.length_nil, Nat.reduceAdd, Nat.reduceSub, Array.replicate_succ, Array.replicate_zero, List.push_toArray, List.append_toArray, List.nil_append, List.cons_append]
  clear h hl hn
  have hk2 := known_yes (w.alloc (.cells #[.slice none 0 0] 26)) p true (by rw [World.cell?_alloc_past _ _ _ hp]; exact hc2)
  have HK := Lib.hid hk2
  clear hk2
  gi_wp2_with (first | (refine ⟨trivial, ?_⟩; gi_at_call 32; refine (callsIn_wide.2 HK.out).mono ?_; rintro e w' ⟨rfl, rfl⟩) | (refine ⟨trivial, ?_⟩; gi_at_call 33; refine (callsIn_wide.2 (each_any _ _ _ _)).mono ?_; rintro e w' ⟨rfl, rfl⟩))
  have bO := Boxed.new w 26 (.slice none 0 0)
  have bN := Boxed.new (w.alloc (.cells #[.slice none 0 0] 26)) 69 (.slice a ws.length cap)
  rw [World.size_alloc] at bN
  have hB0 : Below w.heap.size w ((w.alloc (.cells #[.slice none 0 0] 26)).alloc (.cells #[.slice a ws.length cap] 69)) := ((Below.refl _ w).alloc (Nat.le_refl _) _).alloc (by simp) _
  have hgw : 0 < ws.length → g < w.heap.size := fun h0 => World.block_lt_of_cell? w _ (hcs 0 (by rw [words_length]; exact h0))
  have hKC : ∀ A B, Below w.heap.size A B → Cells A g 0 (words ws) → Cells B g 0 (words ws) := fun A B hb hc i hi => (hb.cell (p := ⟨g, 0 + i, none⟩) (hgw (by rw [words_length] at hi; omega))).trans (hc i hi)
  refine wpIn_rangeFunc_ownF rfl (by omega) (gf := 39) (lb := #[.pointer (some ⟨w.heap.size + 1, 0, none⟩)]) rfl trivial (enters_of Tryd.func39 (by kernel_rfl) rfl)
    (each_stops 8 (by omega) (w.heap.size + 1) g cap a ws ha hl64 hw (Below w.heap.size) (fun A B hb hT => hT.fr (Fr.of_below hb) (by unfold from_; omega)) hKC _ (by simp <;> omega) bN.cell (hKC _ _ hB0 hcs) (hT.fr (Fr.of_below hB0) (by unfold from_; omega))) belowK_t (belowK_b (by simp <;> omega)) (Below.refl _ _) (fun _ => rfl)
    (fun (pre : List Nat) W => (∃ v, Boxed W w.heap.size 26 v ∧ W.ownsRow w.heap.size 3 1 v pre.length (pre.map fun x : Nat => Value.int .i64 (x : Int)) ∧ True) ∧ Below w.heap.size w W)
    (fun _ _ _ => False)
    (OwnFrom.and (Own.from (holdsRow_own w.heap.size w.heap.size 26 3 1 (fun pre : List Nat => pre.length) (fun pre : List Nat => pre.map fun x : Nat => Value.int .i64 (x : Int)) (fun _ _ => True)) _) (ownFrom_below (Nat.le_refl _) (by simp <;> omega)))
    (fun _ _ _ _ _ hs _ _ => hs)
    ⟨⟨_, bO.alloc _, World.ownsRow_nil _ _ _ _, trivial⟩, hB0⟩
    (fun x => { tmps := #[.pointer (some ⟨p, 0, none⟩), undef, .slice none 0 0, .pointer (some ⟨w.heap.size, 0, none⟩), .int .i64 (x : Nat), .pointer (some ⟨p, 0, none⟩), .bool true, .pointer (some ⟨p, 0, none⟩), .pointer (some ⟨p, 0, none⟩), .pointer (some ⟨p, 0, none⟩), .slice a ws.length cap, .func (.func 39) #[] #[.pointer (some ⟨w.heap.size + 1, 0, none⟩)], .int .i64 (x : Nat), undef, undef, undef, undef, undef], defers := [] }) ?assign ?body ?done ?stop
  case assign =>
    intro l x W K hK
    gi_wp2
    exact hK
  case body =>
    rintro l pre x W ⟨⟨v, hv, hrow, _⟩, hB⟩ hlt
    have hcc := hv.cell
    clear hc0 hc2 hcs hKC bO bN hB0 HK hT hw ha
    gi_wp2_with (gi_at_builtin; refine wpListIn_append_own _ rfl _ _ 26 rfl w.heap.size 3 i0 (.int .i64 0) 1 8 Tryd.underlying26 hi hz0 hz1 hz2 rfl (by decide) _ _ _ rfl (hrow.alloc _) ⟨W.heap.size, 0, none⟩ 1 1 [.int .i64 (x : Nat)] rfl rfl (cell_one_new _ _ _) (by simp [Value.oneCell']) (by unfold maxLen; omega) (by omega) (by have := hB.size; simp; omega) ?_; intro v' w1 hown' hgrow _; obtain ⟨g', cap', rfl⟩ := ownsRow_succ hown'; obtain ⟨hv1, hv2, hr2, hk2, hb2⟩ := hv.appended (by decide) hrow hB.size (Nat.le_refl _) hown' hgrow; have hc1 := hv1.cell; have hf1 := hv1.frozen)
    exact ⟨hk2, hb2, ⟨_, hv2, by simpa using hr2, trivial⟩, hB.trans hb2⟩
  case done =>
    rintro D ys W hD rfl ⟨⟨v, hv, hrow, _⟩, hB⟩ hK
    have hcc := hv.cell
    clear hc0 hc2 hcs hKC bO bN hB0 HK hT hw ha
    gi_wp2
    refine ⟨by simp, .inl ⟨_, _, rfl, run_takeDeferred hK, ?_⟩⟩
    exact ⟨_, results_tmp rfl _ _ _, v, rfl, hB.trans (belowK_b (w := w) (Nat.le_refl _) W D _ _ (by simp at hD; omega) hK rfl rfl), ownsRow_putObj hrow _ hK rfl⟩
  case stop =>
    rintro D c pre W _ _ h _
    exact h.elim
end Go.Proofs.YtfhleelechbdmaaDoor
