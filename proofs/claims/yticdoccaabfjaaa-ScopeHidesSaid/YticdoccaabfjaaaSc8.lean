/-
  Package scope: Declare.
-/
import Derived.Test.YticdoccaabfjaaaSc7
import Derived.Deep.RegionHeld3
import Derived.IntWalk
namespace Go.Proofs.Yticdoccaabfjaaa
open Go.RowKit Go.MapKept Go.ChangeMaps
set_option maxHeartbeats 400000

theorem declare_nil (w : World) (s k n a : Value) : Calls Try.prog 12 #[.pointer none, s, .agg #[k, n, a]] w fun e w' => e = .returned (.int .i64 1) ∧ Below w.heap.size w w' := by
  go_enter Try.func12, Try.ntmps12
  go_wp2_with (go_at_call 20; refine (known_nil _).mono ?_; rintro e w' ⟨rfl, rfl⟩)
  go_ret
  exact ⟨rfl, (Below.refl _ _).alloc (Nat.le_refl _) _⟩
theorem declare_no (w : World) (p : Nat) (hc : w.cell? ⟨p, 1, none⟩ = some (.bool false)) (s k n a : Value) : Calls Try.prog 12 #[.pointer (some ⟨p, 0, none⟩), s, .agg #[k, n, a]] w fun e w' => e = .returned (.int .i64 1) ∧ Below w.heap.size w w' := by
  have hc1 := (Fr.alloc (ch := nothing) w (.cells #[k, n, a] 37 (0, 0))).cell hc fun e => e
  go_enter Try.func12, Try.ntmps12
  go_wp2_with (go_at_call 20; refine (known_yes _ _ _ hc1).mono ?_; rintro e w' ⟨rfl, rfl⟩)
  go_ret
  exact ⟨rfl, (Below.refl _ _).alloc (Nat.le_refl _) _⟩
theorem declare_empty {w : World} {F : Nat → Prop} {p : Nat} (h : IsScope w F p []) (s k n a : Value) : Calls Try.prog 12 #[.pointer (some ⟨p, 0, none⟩), s, .agg #[k, n, a]] w fun e w' => e = .returned (.int .i64 6) ∧ Below w.heap.size w w' := by
  have hf := Fr.alloc (ch := nothing) w (.cells #[k, n, a] 37 (0, 0))
  obtain ⟨a', cap, hc0, hc1, _⟩ := h.cells
  have HR := Lib.hid (rowDeep_any _ p a' 0 cap (hf.cell hc0 fun e => e))
  have HK := Lib.hid (known_yes _ p true (hf.cell hc1 fun e => e))
  clear h hc0 hc1 hf
  go_enter Try.func12, Try.ntmps12
  go_wp2_with (first | (go_at_call 20; refine HK.out.mono ?_; rintro e w' ⟨rfl, rfl⟩) | (go_at_call 21; refine HR.out.mono ?_; rintro e w' ⟨rfl, rfl⟩))
  go_ret
  exact ⟨rfl, (Below.refl _ _).alloc (Nat.le_refl _) _⟩

/-- The innermost block, where its row lies. -/
theorem IsScope.last {w : World} {F : Nat → Prop} {p : Nat} {L : List MB} {b : MB} (h : IsScope w F p (L ++ [b])) : ∃ g cap, L.length + 1 ≤ cap ∧ cap ≤ maxLen ∧ w.heap[p]? = some (.cells #[.slice (some ⟨g, 0, none⟩) (L.length + 1) cap, .bool true] 28 (0, 0)) ∧
    w.ownsRow 0 58 2 (.slice (some ⟨g, 0, none⟩) (L.length + 1) cap) (L.length + 1) (L.flatMap blkCells ++ [b.nv, .map (some b.mb)]) ∧ F g ∧ w.cell? ⟨g, L.length * 2, none⟩ = some b.nv ∧ w.cell? ⟨g, L.length * 2 + 1, none⟩ = some (.map (some b.mb)) := by
  obtain ⟨a, cap, hc0, hc1, hcap, hcm, hobj, hown, hFv⟩ := h.cells
  rw [List.length_append, List.length_singleton] at hcap hc0 hobj hown hFv
  obtain ⟨g, rfl⟩ : ∃ g, a = some ⟨g, 0, none⟩ := by
    rcases hown.2 with ⟨e, hn⟩ | ⟨g, c, cur, e, _⟩
    · omega
    · simp only [Value.slice.injEq] at e
      exact ⟨g, e.1⟩
  have hcs : Cells w g (0 + L.length * 2) (blkCells b) := by
    obtain ⟨a', c', e, _, _, h3⟩ := own_cells hown
    simp only [Value.slice.injEq] at e
    obtain ⟨rfl, -⟩ := e
    rcases h3 with h3 | ⟨g', e, _, hc⟩
    · simp [blkCells] at h3
    · simp only [Option.some.injEq, Addr.mk.injEq] at e
      obtain ⟨rfl, -⟩ := e
      have := flat_cells (m := 2) (fun _ => rfl) hc L.length (by simp)
      simpa using this
  have d0 := hcs 0 (by simp [blkCells])
  have d1 := hcs 1 (by simp [blkCells])
  simp only [blkCells, List.getElem_cons_zero, List.getElem_cons_succ, Nat.zero_add, Nat.add_zero] at d0 d1
  refine ⟨g, cap, hcap, hcm, hobj, ?_, hFv g rfl, d0, d1⟩
  rw [List.flatMap_append, List.flatMap_singleton] at hown
  exact hown
theorem IsBlk.look {w : World} {F : Nat → Prop} {b : MB} (h : IsBlk w F b) (s : ByteArray) : (Instr.lookup 56 (.map (some b.mb)) (.string s) false).run Try.prog w = .ok (.pointer ((findTh b.l s).map fun x => ⟨x.pos, 0, none⟩)) w := by
  have := h.map.look (P := Try.prog) (t := 56) (kt := 9) (et := 63) (k := .string s) (by kernel_rfl) (by kernel_rfl) trivial (z := .pointer none) (by rfl) false
  rw [this]
  cases hf : findTh b.l s <;> simp [blkMap, hf]

set_option maxRecDepth 100000 in
set_option maxHeartbeats 2000000 in
theorem declare_twice {w : World} {F : Nat → Prop} {p : Nat} {L : List MB} {b : MB} (h : IsScope w F p (L ++ [b])) (hL : L.length ≤ 1000000000000) (s : ByteArray) (x : Th) (hx : findTh b.l s = some x) (k n a : Value) :
    Calls Try.prog 12 #[.pointer (some ⟨p, 0, none⟩), .string s, .agg #[k, n, a]] w fun e w' => e = .returned (.int .i64 110) ∧ Below w.heap.size w w' := by
  obtain ⟨w1, hw1⟩ : ∃ w1, w1 = w.alloc (.cells #[k, n, a] 37 (0, 0)) := ⟨_, rfl⟩
  have hf : Fr nothing w w1 := by rw [hw1]; exact Fr.alloc _ _
  obtain ⟨g, cap, hcap, hcm, hobj, _, _, d0, d1⟩ := (h.new hf).last
  have hcm' : cap ≤ 9223372036854775807 := hcm
  have hlk := fun q : Nat => ((h.new (hf.trans (Fr.drewN w1 q))).blk b (by simp)).look s
  rw [hx] at hlk
  simp only [Option.map_some] at hlk
  have hc0 := obj_cell hobj 0 rfl
  have hc1 := obj_cell hobj 1 rfl
  have HR := Lib.hid fun q => rowDeep_any (w1.drewN q) p _ _ cap hc0
  have HR0 := Lib.hid (rowDeep_any w1 p _ _ cap hc0)
  have HK := Lib.hid (known_yes w1 p true hc1)
  have HB := Lib.hid hf.below_new
  have HW := Lib.hid hw1
  have hwr : IntKind.i64.wrap ((L.length : Int) + 1 - 1) = L.length := by rw [IntWalk.i64_in _ (by omega)]; omega
  clear h hf hobj hw1 hcm
  go_enter Try.func12, Try.ntmps12
  go_upto_region 1 with fail
  rw [← HW.out]
  go_wp2_with (first | (go_at_call 20; refine HK.out.mono ?_; rintro e w' ⟨rfl, rfl⟩) | (go_at_call 21; refine HR0.out.mono ?_; rintro e w' ⟨rfl, rfl⟩))
  go_quiet ((go_at_call 21; exact Calls.quiet_of_same ((HR.out _).mono fun _ _ ⟨he, hw⟩ => ⟨he, hw.symm⟩)))
  go_wp2
  go_ret
  exact ⟨rfl, below_drewN HB.out _⟩

def BoxAt (W : World) (g i x : Nat) (m c0 c1 c2 : Value) : Prop := W.cell? ⟨g, i, none⟩ = some m ∧ W.cell? ⟨x, 0, none⟩ = some c0 ∧ W.cell? ⟨x, 1, none⟩ = some c1 ∧ W.cell? ⟨x, 2, none⟩ = some c2
theorem BoxAt.fr {W W' : World} {g i x : Nat} {m c0 c1 c2 : Value} {ch : Nat → Prop} (h : BoxAt W g i x m c0 c1 c2) (k : Fr ch W W') (hg : ¬ ch g) (hx : ¬ ch x) : BoxAt W' g i x m c0 c1 c2 :=
  ⟨k.cell h.1 hg, k.cell h.2.1 hx, k.cell h.2.2.1 hx, k.cell h.2.2.2 hx⟩
set_option maxRecDepth 100000 in
set_option maxHeartbeats 4000000 in
theorem declare_ok {w : World} {F : Nat → Prop} {p : Nat} {L : List MB} {b : MB} (h : IsScope w F p (L ++ [b])) (hL : L.length ≤ 1000000000000) (hl : b.l.length ≤ 1000000000000) (s : ByteArray) (hx : findTh b.l s = none) {t : Ty} {v : Value} {S : Nat → Prop} (ht : IsTy w S t v) (hSF : ∀ g, S g → ¬ F g) :
    Calls Try.prog 12 #[.pointer (some ⟨p, 0, none⟩), .string s, v] w fun e w' => e = .returned (.int .i64 0) ∧ ∃ v' pos, IsScope w' (grow F w w') p (L ++ [⟨v', b.mb, b.l ++ [⟨⟨s, t, false⟩, pos⟩]⟩]) ∧ Fr F w w' := by
  obtain ⟨k, n, a, len, cp, rfl, -⟩ := ht.parts
  obtain ⟨i0, hi, hz0, hz1, hz2⟩ := info_parts Try.infoStr
  obtain ⟨w1, hw1⟩ : ∃ w1, w1 = w.alloc (.cells #[.int .u8 k, .string n, .slice a len cp] 37 (0, 0)) := ⟨_, rfl⟩
  have hf : Fr nothing w w1 := by rw [hw1]; exact Fr.alloc _ _
  have hbx : w1.heap[w.heap.size]? = some (.cells #[.int .u8 k, .string n, .slice a len cp] 37 (0, 0)) := by rw [hw1]; exact alloc_obj w _
  have h1 := h.new hf
  obtain ⟨g, cap, hcap, hcm, hobj, hrow, hgF, d0, d1⟩ := h1.last
  have hb1 := h1.blk b (by simp)
  have hcm' : cap ≤ 9223372036854775807 := hcm
  have hlk := fun q : Nat => ((h1.new (Fr.drewN w1 q)).blk b (by simp)).look s
  rw [hx] at hlk
  simp only [Option.map_none] at hlk
  have hc0 := obj_cell hobj 0 rfl
  have hc1 := obj_cell hobj 1 rfl
  obtain ⟨csg, hgo⟩ := own_obj hrow g rfl
  have hfg := obj_frozen hgo (L.length * 2)
  have HR := Lib.hid fun q => rowDeep_any (w1.drewN q) p _ _ cap hc0
  have HR0 := Lib.hid (rowDeep_any w1 p _ _ cap hc0)
  have HK := Lib.hid (known_yes w1 p true hc1)
  have HW := Lib.hid hw1
  have hwr : IntKind.i64.wrap ((L.length : Int) + 1 - 1) = L.length := by rw [IntWalk.i64_in _ (by omega)]; omega
  obtain ⟨an, cn, hnv, _⟩ := own_cells hb1.names
  have hown := hb1.names
  have hne1 : b.nv.ownBlock ≠ some g := own_ne hown hgo (by decide)
  have HH1 := Lib.hid h1
  have HBX := Lib.hid hbx
  have HX := Lib.hid hx
  have HROW := Lib.hid hrow
  have HOB := Lib.hid hobj
  clear h h1 hb1 hobj hw1 hcm hrow hbx hx
  rw [hnv] at d0
  go_enter Try.func12, Try.ntmps12
  go_upto_region 1 with fail
  rw [← HW.out]
  go_wp2_with (first | (go_at_call 20; refine HK.out.mono ?_; rintro e w' ⟨rfl, rfl⟩) | (go_at_call 21; refine HR0.out.mono ?_; rintro e w' ⟨rfl, rfl⟩))
  go_quiet ((go_at_call 21; exact Calls.quiet_of_same ((HR.out _).mono fun _ _ ⟨he, hw⟩ => ⟨he, hw.symm⟩)))
  go_upto_region 9 with (at_builtin; refine wpList_append_keep rfl _ _ 30 rfl 0 9 i0 _ 1 16 Try.underlying30 hi hz0 hz1 hz2 rfl (by decide) b.nv b.l.length (nameCells b.l) hnv.symm ((own_fr hown (Fr.drewN (ch := nothing) _ _) fun _ _ e => e).alloc _) ⟨w1.heap.size, 0, none⟩ 1 1 [.string s] rfl rfl (cells_add (cells_new' _ _ _ rfl _ _ _ (by simp))) (by simp [Value.oneCell']) (by decide) (by unfold maxLen; omega) (by omega) (Nat.zero_le _) ?_; intro v2 w2 hown2 hold2 hgrow2 hsame2; obtain ⟨a2, c2, rfl, -⟩ := own_cells hown2; have hf2 := (((Fr.drewN (ch := nothing) w1 nq).trans (Fr.alloc _ (.cells #[.string s] 9 (0, 0)))).wide.trans hgrow2); have hgo2 := hf2.obj hgo hne1; have dd0 := hf2.cell d0 hne1; have ff0 := obj_frozen hgo2 (L.length * 2))
  refine wp_atW (F := fun W => W.ownsRow 0 58 2 (.slice (some ⟨g, 0, none⟩) (L.length + 1) cap) (L.length + 1) (L.flatMap blkCells ++ [.slice a2 (b.l.length + 1) c2, .map (some b.mb)]) ∧
      W.ownsRow 0 9 1 (.slice a2 (b.l.length + 1) c2) (b.l.length + 1) (nameCells b.l ++ [.string s]) ∧ Fr (fun k => k = g ∨ b.nv.ownBlock = some k) w1 W) ?_ ?_
  · have hr2 := (own_fr HROW.out hf2 fun k hk e => hne1 (by rw [e, ← hk]; rfl)).stored (L.length * 2) (.slice a2 (b.l.length + 1) c2)
    replace hr2 := hr2.1
    refine ⟨?_, own_fr hown2 (Fr.setCell w2 ⟨g, L.length * 2, none⟩ _) fun k hk e => ?_, (hf2.mono fun _ _ e => .inr e).trans (Fr.setCell' _ _ (.inl rfl))⟩
    · rw [List.set_append_right _ _ (by rw [flat_len blkCells 2 (fun _ => rfl)]; omega), flat_len blkCells 2 (fun _ => rfl)] at hr2
      simpa using hr2
    · have e' : k = g := e
      subst e'
      exact own_ne hown2 hgo2 (by decide) hk
  have hv2 : ∀ k, (Value.slice a2 (b.l.length + 1) c2).ownBlock = some k → b.nv.ownBlock = some k ∨ w1.heap.size ≤ k := by
    intro k hk
    rcases hsame2 with ⟨g', c', e1, e2⟩ | h
    · rw [e2] at hk; rw [e1]; exact .inl hk
    · have := h k hk; simp at this; exact .inr (by omega)
  have HV2 := Lib.hid hv2
  clear hown2 hold2 hgrow2 hsame2 hf2 hgo2 dd0 ff0 hv2 d0 d1 hlk hc0 hc1
  rintro W ⟨hrw, hnw, hfw⟩
  have hbW : W.heap[w.heap.size]? = some (.cells #[.int .u8 k, .string n, .slice a len cp] 37 (0, 0)) := hfw.obj HBX.out (fun e => by
    rcases e with e | e
    · exact obj_ne HBX.out hgo (by decide) e
    · obtain ⟨cs', hk'⟩ := own_obj hown _ e
      exact obj_ne HBX.out hk' (by decide) rfl)
  have d1 : W.cell? ⟨g, L.length * 2 + 1, none⟩ = some (.map (some b.mb)) := by
    have := hrw.cellAt (L.length * 2 + 1) (by omega)
    rw [this, List.getElem?_append_right (by rw [flat_len blkCells 2 (fun _ => rfl)]; omega), flat_len blkCells 2 (fun _ => rfl)]
    simp
  have b0 := obj_cell hbW 0 rfl
  have b1 := obj_cell hbW 1 rfl
  have b2 := obj_cell hbW 2 rfl
  have hmW : MapIs W .string b.mb (blkMap b.l) := by
    have hm := (HH1.out.blk b (by simp)).map
    obtain ⟨es, mc, hmo⟩ := hm.obj
    refine hm.fr hfw fun e => ?_
    rcases e with e | e
    · exact obj_ne_map hgo hmo e.symm
    · obtain ⟨cs', hk'⟩ := own_obj hown _ e
      exact obj_ne_map hk' hmo rfl
  have hbF : ∀ k, b.nv.ownBlock = some k → F k := (HH1.out.blk b (by simp)).own
  have hmF : F b.mb := (HH1.out.blk b (by simp)).hF
  have hsW : w1.heap.size ≤ W.heap.size := hfw.size
  have hs1 : w1.heap.size = w.heap.size + 1 := by rw [HW.out]; simp
  have hown4 : ∀ w', Fr (only b.mb) W w' → Calls Try.prog 25 #[.agg #[.int .u8 k, .string n, .slice a len cp]] w' fun e w'' => ∃ v', e = .returned v' ∧ OwnTy w'' (Rng w'.heap.size w''.heap.size) t v' ∧ Below w'.heap.size w' w'' := by
    intro w' hw'
    refine own_any (ht.fr (((hf.wide.trans hfw).mono (ch' := declCh g b) fun k _ e => ?_).trans (hw'.mono (ch' := declCh g b) fun k _ e => .inr (.inr e))) (S' := S) fun k hk => ⟨fun e => hSF k hk ?_, hk⟩) w' (Fr.refl _ _)
    · rcases e with e | e
      · exact .inl e
      · exact .inr (.inl e)
    · rcases e with rfl | e | rfl
      · exact hgF
      · exact hbF k e
      · exact hmF
  have HOWN := Lib.hid hown4
  have HMW := Lib.hid hmW
  have HWR := Lib.hid hrw
  have HWN := Lib.hid hnw
  have HFW := Lib.hid hfw
  have hmS : ∀ (w4 : World) (cs : Array Value), Below W.drew.heap.size W.drew w4 → ∃ w5, (Instr.mapUpdate 56 (.map (some b.mb)) (.string s) (.pointer (some ⟨w4.heap.size, 0, none⟩))).run Try.prog (w4.alloc (.cells cs 66 (0, 0))) = .ok () w5 ∧
      MapIs w5 .string b.mb (blkMap (b.l ++ [⟨⟨s, t, false⟩, w4.heap.size⟩])) ∧ Fr (only b.mb) (w4.alloc (.cells cs 66 (0, 0))) w5 := by
    intro w4 cs hb4
    refine ((hmW.fr (Fr.drew (ch := nothing) W) fun e => e).fr ((Fr.new hb4).trans (Fr.alloc _ _)) fun e => e).store (P := Try.prog) (kt := 9) (et := 63) (by kernel_rfl) (by kernel_rfl) (k := .string s) trivial _ ?_ ?_
    · simp [blkMap, findTh_snoc, HX.out]
    · intro k' hk' hne
      cases k' with
      | string s' =>
        have : ¬ s = s' := fun e => hne (by rw [e])
        simp only [blkMap, findTh_snoc, this, if_false]
        cases findTh b.l s' <;> rfl
      | _ => rfl
  have HMS := Lib.hid hmS
  have hbox : BoxAt W g (L.length * 2 + 1) w.heap.size (.map (some b.mb)) (.int .u8 k) (.string n) (.slice a len cp) := ⟨d1, b0, b1, b2⟩
  have hgm : g ≠ b.mb := by
    obtain ⟨es, mc, hmo⟩ := hmW.obj
    obtain ⟨cs, hk⟩ := own_obj hrw g rfl
    exact obj_ne_map hk hmo
  have hxm : w.heap.size ≠ b.mb := by
    obtain ⟨es, mc, hmo⟩ := hmW.obj
    exact obj_ne_map hbW hmo
  have HBOX := Lib.hid hbox
  have HNE := Lib.hid (And.intro hgm hxm)
  clear hbox hgm hxm
  clear hf hfw hbW hmW hown4 hrw hnw hmS hSF ht hbF HR HR0 HK hwr
  go_region_held3 (fun w' => w'.cell? ⟨g, L.length * 2 + 1, none⟩ = some (.map (some b.mb)) ∧ w'.cell? ⟨w.heap.size, 0, none⟩ = some (.int .u8 k) ∧ w'.cell? ⟨w.heap.size, 1, none⟩ = some (.string n) ∧ w'.cell? ⟨w.heap.size, 2, none⟩ = some (.slice a len cp))
    (first | exact HBOX.out.fr (ch := nothing) (Fr.drew _) (fun e => e) (fun e => e) | exact e4 | exact e5 | exact e6)
    (first | (go_at_call 25; refine (HOWN.out _ (Fr.drew _)).mono ?_; rintro e w4 ⟨v4, rfl, hty4, hb4⟩; obtain ⟨k4, n4, a4, l4, c4, rfl, -⟩ := hty4.parts; obtain ⟨w5, hrun5, hm5, hf5⟩ := HMS.out w4 #[.int .u8 k4, .string n4, .slice a4 l4 c4, .bool false] hb4; have e4 := (HBOX.out.fr (ch := nothing) (Fr.drew _) (fun e => e) (fun e => e)).fr (Fr.new hb4) (fun e => e) (fun e => e); have e5 := e4.fr (ch := nothing) (Fr.alloc w4 (.cells #[.int .u8 k4, .string n4, .slice a4 l4 c4, .bool false] 66 (0, 0))) (fun e => e) (fun e => e); have e6 := e5.fr hf5 HNE.out.1 HNE.out.2))
  clear hrun5 e4 e5 e6 d1 b0 b1 b2
  go_wp2
  go_ret
  obtain ⟨es, mc, hmo⟩ := HMW.out.obj
  have hmlt := obj_lt hmo
  have hsd : W.drew.heap.size = W.heap.size := rfl
  rw [hsd] at hb4 hty4
  have hs4 : W.heap.size ≤ w4.heap.size := hb4.size
  have hW5 : Fr (only b.mb) W w5 := (((Fr.drew (ch := nothing) W).trans (Fr.new hb4)).trans (Fr.alloc _ _)).wide.trans hf5
  have hW4 : Fr nothing w4 (w4.alloc (.cells #[.int .u8 k4, .string n4, .slice a4 l4 c4, .bool false] 66 (0, 0))) := Fr.alloc _ _
  have h15 : Fr (declCh g b) w1 w5 := (HFW.out.mono fun k _ e => e.elim .inl fun e => .inr (.inl e)).trans (hW5.mono fun k _ e => .inr (.inr e))
  have hs5 := hf5.size
  simp only [World.size_alloc] at hs5
  have hthing : ThingAt w5 (Rng w1.heap.size w5.heap.size) ⟨⟨s, t, false⟩, w4.heap.size⟩ := by
    refine ⟨_, _, (hty4.new hW4).fr hf5 (S' := Rng W.heap.size w4.heap.size) fun k hk => ⟨fun e => ?_, hk⟩, fun k hk => ⟨Nat.le_trans hsW hk.1, ?_⟩, hf5.obj (alloc_obj w4 _) fun e => ?_, ⟨?_, ?_⟩⟩
    · have e' : k = b.mb := e
      have := hk.1
      omega
    · have := hk.2
      omega
    · have e' : w4.heap.size = b.mb := e
      omega
    · show w1.heap.size ≤ w4.heap.size
      omega
    · show w4.heap.size < w5.heap.size
      omega
  have hfin := declare_fin HH1.out HOB.out ⟨csg, hgo⟩ hgF h15 (x := ⟨⟨s, t, false⟩, w4.heap.size⟩) (v' := .slice a2 (b.l.length + 1) c2)
    (by have := own_fr HWN.out hW5 (fun k hk e => by obtain ⟨cs, hk'⟩ := own_obj HWN.out k hk; exact obj_ne_map hk' hmo e); simpa [nameCells] using this) HV2.out
    (own_fr HWR.out hW5 fun k hk e => by simp only [Value.ownBlock, Option.some.injEq] at hk; subst hk; exact HNE.out.1 e) hm5 hthing HX.out
  refine ⟨rfl, _, _, hfin.1.fr (Fr.refl nothing _) fun k hk => ⟨fun e => e, ?_⟩, ?_⟩
  · rcases hk with hk | ⟨hk1, hk2⟩
    · exact .inl hk
    · exact .inr ⟨by omega, hk2⟩
  · refine Fr.trans ?_ hfin.2
    rw [HW.out]
    exact Fr.alloc _ _
end Go.Proofs.Yticdoccaabfjaaa
