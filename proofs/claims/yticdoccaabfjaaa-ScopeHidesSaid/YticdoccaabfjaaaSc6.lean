/-
  Package scope: Close; what a scope that nobody made does.
-/
import Derived.Test.YticdoccaabfjaaaSc5
namespace Go.Proofs.Yticdoccaabfjaaa
open Go.RowKit
set_option maxHeartbeats 400000

theorem own_take {w : World} {B e size g n c m : Nat} {xs : List Value} (h : w.ownsRow B e size (.slice (some ⟨g, 0, none⟩) n c) n xs) (hm : m ≤ n) : w.ownsRow B e size (.slice (some ⟨g, 0, none⟩) m c) m (xs.take (m * size)) := by
  obtain ⟨hl, h2⟩ := h
  rcases h2 with ⟨h2, _⟩ | ⟨g', cap, cur, h2, hb, hg, r1, r2, r3, r4⟩
  · cases h2
  · simp only [Value.slice.injEq, Option.some.injEq, Addr.mk.injEq] at h2
    obtain ⟨⟨rfl, -⟩, -, rfl⟩ := h2
    have hle : m * size ≤ n * size := Nat.mul_le_mul_right _ hm
    refine ⟨by rw [List.length_take]; omega, .inr ⟨g, c, cur, rfl, hb, hg, by omega, r2, r3, ?_⟩⟩
    rw [← r4, List.take_take]
    congr 1
    omega
theorem open_nil (w : World) : Calls Try.prog 6 #[.pointer none] w fun e w' => e = .returned (.tuple #[]) ∧ w = w' := by
  go_enter Try.func6, Try.ntmps6
  go_wp2_with (go_at_call 20; refine (known_nil _).mono ?_; rintro e w' ⟨rfl, rfl⟩)
  go_end0
  exact ⟨rfl, rfl⟩
theorem open_no (w : World) (p : Nat) (hc : w.cell? ⟨p, 1, none⟩ = some (.bool false)) : Calls Try.prog 6 #[.pointer (some ⟨p, 0, none⟩)] w fun e w' => e = .returned (.tuple #[]) ∧ w = w' := by
  go_enter Try.func6, Try.ntmps6
  go_wp2_with (go_at_call 20; refine (known_yes _ _ _ hc).mono ?_; rintro e w' ⟨rfl, rfl⟩)
  go_end0
  exact ⟨rfl, rfl⟩
theorem close_nil (w : World) : Calls Try.prog 7 #[.pointer none] w fun e w' => e = .returned (.tuple #[.slice none 0 0, .int .i64 1]) ∧ w = w' := by
  go_enter Try.func7, Try.ntmps7
  go_wp2_with (go_at_call 20; refine (known_nil _).mono ?_; rintro e w' ⟨rfl, rfl⟩)
  go_ret2
  exact ⟨rfl, rfl⟩
theorem close_no (w : World) (p : Nat) (hc : w.cell? ⟨p, 1, none⟩ = some (.bool false)) : Calls Try.prog 7 #[.pointer (some ⟨p, 0, none⟩)] w fun e w' => e = .returned (.tuple #[.slice none 0 0, .int .i64 1]) ∧ w = w' := by
  go_enter Try.func7, Try.ntmps7
  go_wp2_with (go_at_call 20; refine (known_yes _ _ _ hc).mono ?_; rintro e w' ⟨rfl, rfl⟩)
  go_ret2
  exact ⟨rfl, rfl⟩
theorem close_empty {w : World} {F : Nat → Prop} {p : Nat} (h : IsScope w F p []) : Calls Try.prog 7 #[.pointer (some ⟨p, 0, none⟩)] w fun e w' => e = .returned (.tuple #[.slice none 0 0, .int .i64 6]) ∧ w = w' := by
  obtain ⟨a, cap, hc0, hc1, _⟩ := h.cells
  have HR := Lib.hid (rowDeep_any w p a 0 cap hc0)
  clear h hc0
  go_enter Try.func7, Try.ntmps7
  go_wp2_with (first | (go_at_call 20; refine (known_yes _ _ _ hc1).mono ?_; rintro e w' ⟨rfl, rfl⟩) | (go_at_call 21; refine HR.out.mono ?_; rintro e w' ⟨rfl, rfl⟩))
  go_ret2
  exact ⟨rfl, rfl⟩

def unusedL (b : MB) : List ByteArray := keptS (usedB b.l) (b.l.map fun x => x.nm.s)
set_option maxRecDepth 100000 in
set_option maxHeartbeats 2000000 in
theorem close_yes {w : World} {F : Nat → Prop} {p : Nat} {L : List MB} {b : MB} (h : IsScope w F p (L ++ [b])) (hL : L.length ≤ 1000000000000) (hl : b.l.length ≤ 1000000000000) :
    Calls Try.prog 7 #[.pointer (some ⟨p, 0, none⟩)] w fun e w' => (∃ v, e = .returned (.tuple #[v, .int .i64 0]) ∧ Texts w' v (unusedL b)) ∧ IsScope w' F p L ∧ Fr F w w' := by
  obtain ⟨a, cap, hc0, hc1, hcap, hcm, hobj, hown, hFv⟩ := h.cells
  have hcm' : cap ≤ 9223372036854775807 := hcm
  rw [List.length_append, List.length_singleton] at hcap hc0 hobj hown hFv
  obtain ⟨g, rfl⟩ : ∃ g, a = some ⟨g, 0, none⟩ := by
    rcases hown.2 with ⟨e, hn⟩ | ⟨g, c, cur, e, _⟩
    · omega
    · simp only [Value.slice.injEq] at e
      exact ⟨g, e.1⟩
  have hcs : Cells w g (0 + L.length * 2) (blkCells b) := by
    obtain ⟨a', c', e, _, _, h3⟩ := own_cells hown
    simp only [Value.slice.injEq] at e
    obtain ⟨rfl, -⟩ := e
    rcases h3 with h3 | ⟨g', e, _, hc⟩
    · simp [blkCells] at h3
    · simp only [Option.some.injEq, Addr.mk.injEq] at e
      obtain ⟨rfl, -⟩ := e
      have := flat_cells (m := 2) (fun _ => rfl) hc L.length (by simp)
      simpa using this
  have d0 := hcs 0 (by simp [blkCells])
  have d1 := hcs 1 (by simp [blkCells])
  simp only [blkCells, List.getElem_cons_zero, List.getElem_cons_succ, Nat.zero_add, Nat.add_zero] at d0 d1
  obtain ⟨an, cn, hnv, _⟩ := own_cells (h.blk b (by simp)).names
  have hown2 := own_take hown (Nat.le_succ L.length)
  rw [List.flatMap_append, List.take_left' (by rw [flat_len blkCells 2 (fun _ => rfl)])] at hown2
  have hlt := h.lt
  have hf0 := obj_frozen hobj 0
  have HR := Lib.hid (rowDeep_any w p _ _ cap hc0)
  obtain ⟨w1, hw1⟩ : ∃ w1, w1 = w.alloc (.cells #[b.nv, .map (some b.mb)] 58 (0, 0)) := ⟨_, rfl⟩
  have hfr1 : Fr nothing w w1 := by rw [hw1]; exact Fr.alloc _ _
  have hbx : w1.heap[w.heap.size]? = some (.cells #[b.nv, .map (some b.mb)] 58 (0, 0)) := by rw [hw1]; exact alloc_obj w _
  obtain ⟨w2, hw2⟩ : ∃ w2, w2 = w1.setCell ⟨p, 0, none⟩ (.slice (some ⟨g, 0, none⟩) L.length cap) := ⟨_, rfl⟩
  have hfr2 : Fr (only p) w w2 := by rw [hw2]; exact hfr1.wide.trans (Fr.setCell' _ _ rfl)
  have hobj2 : w2.heap[p]? = some (.cells #[.slice (some ⟨g, 0, none⟩) L.length cap, .bool true] 28 (0, 0)) := by rw [hw2]; simpa using setCell_obj (hfr1.obj hobj fun e => e) (i := 0) (.slice (some ⟨g, 0, none⟩) L.length cap)
  have hblk2 : ∀ c ∈ L ++ [b], IsBlk w2 F c := fun c hc => (h.blk c hc).frT hfr2 (fun k e => by have e' : k = p := e; subst e'; exact ⟨_, _, hobj, by decide, by decide, by decide⟩) fun _ e => e
  have hpf := h.poss
  rw [List.flatMap_append] at hpf
  have hsc2 : IsScope w2 F p L := by
    refine ⟨⟨_, hobj2, own_fr hown2 hfr2 fun k hk e => ?_, fun k hk => hFv k hk⟩, h.hF, fun c hc => hblk2 c (List.mem_append_left _ hc), (List.pairwise_append.1 h.off).1, (List.nodup_append.1 hpf).1⟩
    have e' : k = p := e
    subst e'
    exact own_ne hown2 hobj (by decide) hk
  have hbx2 : w2.heap[w.heap.size]? = some (.cells #[b.nv, .map (some b.mb)] 58 (0, 0)) := by rw [hw2]; exact (Fr.setCell w1 ⟨p, 0, none⟩ _).obj hbx fun e => by have e' : w.heap.size = p := e; omega
  have HU := Lib.hid (unused_any (hblk2 b (by simp)) hl)
  have HSC := Lib.hid hsc2
  have HF2 := Lib.hid (hfr2.mono (ch' := F) fun k _ e => by have e' : k = p := e; subst e'; exact h.hF)
  have x0 := obj_cell hbx2 0 rfl
  have x1 := obj_cell hbx2 1 rfl
  have HW1 := Lib.hid hw1
  have HW2 := Lib.hid hw2
  have g0 := hfr1.cell (p := ⟨p, 0, none⟩) hc0 fun e => e
  have g1 : w1.frozen? ⟨p, 0, none⟩ = false := by rw [hfr1.frozen (p := ⟨p, 0, none⟩) hlt fun e => e]; exact hf0
  have HUD : Hid (unusedL b = keptS (usedB b.l) (b.l.map fun x => x.nm.s)) := Lib.hid rfl
  rw [HUD.out]
  clear hcs hown hown2 hobj hobj2 hblk2 hpf hsc2 hbx hbx2 hfr1 hfr2 hw1 hw2 hFv h hf0 hcm
  rw [hnv] at d0 HU HW1 x0
  clear hnv
  go_enter Try.func7, Try.ntmps7
  go_upto_region 7 with (first | (go_at_call 20; refine (known_yes _ _ _ hc1).mono ?_; rintro e w' ⟨rfl, rfl⟩) | (go_at_call 21; refine HR.out.mono ?_; rintro e w' ⟨rfl, rfl⟩))
  rw [← HW1.out]
  go_upto_region 8 with fail
  rw [← HW2.out]
  go_wp2_with (go_at_call 22; refine HU.out.mono ?_; rintro e w3 ⟨⟨v3, rfl, ht3⟩, hb3⟩)
  go_ret2
  exact ⟨⟨_, rfl, ht3⟩, HSC.out.new (Fr.new hb3), HF2.out.trans (Fr.new hb3).wide⟩
end Go.Proofs.Yticdoccaabfjaaa
