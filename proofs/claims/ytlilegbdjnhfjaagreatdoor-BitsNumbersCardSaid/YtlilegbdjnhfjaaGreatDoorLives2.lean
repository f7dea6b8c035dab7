/-
  Sets joined and copied, by the document and by the program.
-/
import Derived.Test.YtlilegbdjnhfjaaGreatDoorLives1
namespace Go.Proofs.YtlilegbdjnhfjaaGreatDoor
open Go.RowKit Go.Shelf
set_option maxHeartbeats 400000

set_option maxRecDepth 100000 in
theorem rJoin (w : World) (B q : Nat) (u : Value) (bs : List Bool) (h : RSet w B q u bs) (B' q' : Nat) (u' : Value) (cs : List Bool) (h' : RSet w B' q' u' cs) (hd : ∀ g, u.ownBlock = some g → u'.ownBlock ≠ some g) :
    Calls Tryz.prog 23 #[.pointer (some ⟨q, 0, none⟩), .pointer (some ⟨q', 0, none⟩)] w fun e w' => e = .returned (.bool (newB bs (trues cs))) ∧ RSet w' B q u (orB bs (trues cs)) ∧ Fr (fun k => u.ownBlock = some k) w w' := by
  have hl := h'.2.2.1
  have HH := Lib.hid (And.intro h h')
  have HD := Lib.hid hd
  clear h h' hd
  go_enter Tryz.func23, Tryz.ntmps23
  go_wp2
  go_loopw [5, 6] (fun s i wr => ∃ k : Nat, k ≤ cs.length ∧ i = .int .i64 k ∧ s = .bool (newB bs (wantTo cs k)) ∧ RSet wr B q u (orB bs (wantTo cs k)) ∧ Fr (fun k => u.ownBlock = some k) w wr)
    (fun _ i _ => cs.length - (intOf i).toNat)
  case atStart => exact ⟨0, Nat.zero_le _, rfl, rfl, HH.out.1, Fr.refl _ _⟩
  case round =>
    obtain ⟨k, hk, rfl, rfl, hR, hF⟩ := hrel
    have hR' : RSet wr B' q' u' cs := HH.out.2.fr hF (HH.out.1.off HH.out.2.1 (by decide)) fun g e e' => HD.out g e' e
    have hc0 := obj_cell hR'.1 0 rfl
    obtain ⟨a, cap, hu', hv⟩ := hR'.val
    rw [hu'] at hc0
    clear hR'
    by_cases hlt : k < cs.length
    · obtain ⟨g, rfl, hc, _⟩ := hv k hlt
      have hws := wantTo_succ cs k
      clear hv
      have HR := Lib.hid (And.intro hR hF)
      have HA := Lib.hid (rAdd wr B q u _ hR k)
      clear hR hF
      cases hb : cs[k]?.getD false
      · rw [hb] at hc hws
        rw [if_neg (by simp)] at hws
        have HWS := Lib.hid hws
        clear hws hb
        generalize ht : newB bs (wantTo cs k) = t at *
        go_wp2
        go_roundw
        case rel => exact ⟨k + 1, by omega, by simp, by rw [HWS.out, ht], by rw [HWS.out]; exact HR.out.1, HR.out.2⟩
        case measure => simp [intOf]; omega
      · rw [hb] at hc hws
        rw [if_pos rfl] at hws
        have e1 := newB_snoc bs (wantTo cs k) k
        have e2 := orB_snoc bs (wantTo cs k) k
        rw [← hws] at e1 e2
        have HE := Lib.hid (And.intro e1 e2)
        clear hws hb e1 e2
        generalize newB bs (wantTo cs k) = t at *
        generalize newB1 (orB bs (wantTo cs k)) (k : Int) = nb at *
        cases nb
        all_goals
          go_wp2_with (go_at_call 14; refine HA.out.mono ?_; rintro e w' ⟨rfl, hS', hF'⟩)
          go_roundw
          case rel => exact ⟨k + 1, by omega, by simp, by rw [HE.out.1]; simp, by rw [HE.out.2]; exact hS', HR.out.2.trans (hF'.mono fun _ _ e => e.2)⟩
          case measure => simp [intOf]; omega
    · have hkl : k = cs.length := by omega
      have hall : wantTo cs k = trues cs := by rw [hkl]; exact wantTo_all cs
      rw [hall] at hR
      rw [hall]
      clear hall hkl hv
      go_wp2
      go_ret
      exact ⟨rfl, hR, hF⟩
theorem pJoinNil (w : World) (B p : Nat) (v : Value) (bs : List Bool) (h : PSet w B p v bs) :
    Calls Tryz.prog 22 #[.pointer (some ⟨p, 0, none⟩), .pointer none] w fun e w' => e = .returned (.bool false) ∧ Below w.heap.size w w' := by
  have hp2 : w.cell? ⟨p, 2, none⟩ = some (.bool true) := by obtain ⟨_, h, _⟩ := h; simp [World.cell?, h.hp]
  have hB0 : Fr nothing w ((w.alloc (.cells #[.pointer (some ⟨p, 0, none⟩)] 23)).alloc (.cells #[.bool false] 4)) := (Fr.alloc _ _).trans (Fr.alloc _ _)
  have HK1 := Lib.hid (known_yes _ p true (hB0.cell hp2 (fun e => e)))
  have HK2 := Lib.hid (known_nil ((w.alloc (.cells #[.pointer (some ⟨p, 0, none⟩)] 23)).alloc (.cells #[.bool false] 4)))
  clear h hp2
  go_enter Tryz.func22, Tryz.ntmps22
  go_wp2_with (go_at_call 26; first | (with_reducible refine HK1.out.mono ?_); rintro e w' ⟨rfl, rfl⟩ | (with_reducible refine HK2.out.mono ?_); rintro e w' ⟨rfl, rfl⟩)
  go_ret
  exact ⟨rfl, hB0.below_new⟩
set_option maxRecDepth 100000 in
theorem rCopy (w : World) (B q : Nat) (u : Value) (bs : List Bool) (h : RSet w B q u bs) :
    Calls Tryz.prog 25 #[.pointer (some ⟨q, 0, none⟩)] w fun e w' => ∃ q' u', e = .returned (.pointer (some ⟨q', 0, none⟩)) ∧ RSet w' w.heap.size q' u' bs ∧ Below w.heap.size w w' := by
  obtain ⟨i0, hi, hz0, hz1, hz2⟩ := info_parts Tryz.infoBool
  have hc0 : w.cell? ⟨q, 0, none⟩ = some u := obj_cell h.1 0 rfl
  have hl := h.2.2.1
  obtain ⟨a, cap, rfl, hx⟩ := own_as_cells h.2.1
  obtain ⟨_, _, hx⟩ := hx
  have hql := h.lt.1
  have hown0 : (w.alloc (.cells #[] 4)).ownsRow w.heap.size 4 1 (.slice (some ⟨w.heap.size, 0, none⟩) 0 0) 0 [] :=
    ⟨rfl, .inr ⟨w.heap.size, 0, #[], rfl, Nat.le_refl _, World.alloc_heap_new _ _, Nat.le_refl _, by unfold maxLen; omega, rfl, rfl⟩⟩
  have hn : (a = none ∧ bs.length = 0) ∨ ∃ ad, a = some ad ∧ ∀ j u, (bs.map Value.bool)[j]? = some u → (w.alloc (.cells #[] 4)).cell? (ad.add j) = some u := by
    rcases hx with hx | ⟨g, rfl, _, hc⟩
    · have h0 : bs.length = 0 := by rw [← List.length_map (f := Value.bool), hx]; rfl
      cases a with
      | none => exact .inl ⟨rfl, h0⟩
      | some ad => exact .inr ⟨ad, rfl, fun j u hu => by rw [hx] at hu; cases hu⟩
    · exact .inr ⟨_, rfl, cells_add (hc.fr (ch := nothing) (Fr.alloc _ _) fun e => e)⟩
  have hone : ∀ u ∈ bs.map Value.bool, u.oneCell' = true := fun u hu => by
    obtain ⟨b, _, rfl⟩ := List.mem_map.1 hu
    rfl
  clear h hx
  go_enter Tryz.func25, Tryz.ntmps25
  go_wp2_with (at_builtin; refine wpList_append_any rfl _ _ 47 rfl w.heap.size 4 i0 (.bool false) 1 1 Tryz.underlying47 hi hz0 hz1 hz2 rfl (by decide) _ _ _ rfl hown0 a bs.length cap (bs.map Value.bool) rfl (by simp) hn hone (by unfold maxLen; omega) (by omega) (by simp) ?_; intro v' w4 hown4 hgrow; obtain ⟨va, vc, rfl, _⟩ := own_as_cells hown4)
  go_ret
  have hF4 : Fr (fun g => (Value.slice (some ⟨w.heap.size, 0, none⟩) 0 0).ownBlock = some g) w w4 := (Fr.alloc _ _).trans (Fr.grown hgrow)
  have hB4 : Below w.heap.size w w4 := hF4.below (Nat.le_refl _) fun g e => by cases e; exact Nat.le_refl _
  rw [Nat.zero_add, List.nil_append] at hown4
  exact ⟨_, _, rfl, ⟨World.alloc_heap_new _ _, own_fr hown4 (Fr.alloc (ch := nothing) _ _) fun _ _ e => e, hl, hB4.size⟩, hB4.alloc hB4.size _⟩
set_option maxRecDepth 100000 in
theorem pCopy (w : World) (B p : Nat) (v : Value) (bs : List Bool) (h : PSet w B p v bs) :
    Calls Tryz.prog 24 #[.pointer (some ⟨p, 0, none⟩)] w fun e w' => ∃ p' v', e = .returned (.pointer (some ⟨p', 0, none⟩)) ∧ PSet w' w.heap.size p' v' bs ∧ Below w.heap.size w w' := by
  obtain ⟨i0, hi, hz0, hz1, hz2⟩ := info_parts Tryz.infoWord
  have hpl := h.lt.1
  obtain ⟨ws, h, hr⟩ := h
  have hc0 : w.cell? ⟨p, 0, none⟩ = some v := obj_cell h.hp 0 rfl
  have hc1 : w.cell? ⟨p, 1, none⟩ = some (.int .i64 bs.length) := obj_cell h.hp 1 rfl
  have hc2 : w.cell? ⟨p, 2, none⟩ = some (.bool true) := obj_cell h.hp 2 rfl
  have HK := Lib.hid (known_yes w p true hc2)
  have HH := Lib.hid h
  have hn := h.hn
  have hwl : ws.length ≤ 64 := by have := h.len; omega
  obtain ⟨a, cap, rfl, _, _, hx⟩ := own_as_cells h.own
  clear h
  by_cases h0 : ws.length = 0
  · obtain rfl : ws = [] := List.eq_nil_of_length_eq_zero h0
    clear hx h0 hwl
    have hown0 : (w.alloc (.cells #[] 102)).ownsRow w.heap.size 102 1 (.slice (some ⟨w.heap.size, 0, none⟩) 0 0) 0 [] :=
      ⟨rfl, .inr ⟨w.heap.size, 0, #[], rfl, Nat.le_refl _, World.alloc_heap_new _ _, Nat.le_refl _, by unfold maxLen; omega, rfl, rfl⟩⟩
    have hob := World.alloc_heap_new (w.alloc (.cells #[] 102)) (.cells #[.slice (some ⟨w.heap.size, 0, none⟩) 0 0, .int .i64 bs.length, .bool true] 46)
    rw [World.size_alloc] at hob
    have hfin : (fun e w' => ∃ p' v', e = Ending.returned (.pointer (some ⟨p', 0, none⟩)) ∧ PSet w' w.heap.size p' v' bs ∧ Below w.heap.size w w') (Ending.returned (.pointer (some ⟨w.heap.size + 1, 0, none⟩)))
        (((w.alloc (.cells #[] 102)).alloc (.cells #[.slice (some ⟨w.heap.size, 0, none⟩) 0 0, .int .i64 bs.length, .bool true] 46)).drew) :=
      ⟨_, _, rfl, ⟨[], ⟨hob, own_fr hown0 ((Fr.alloc (ch := nothing) _ _).trans (Fr.drew _)) fun _ _ e => e, HH.out.len, hn, fun u hu => by simp at hu, by omega⟩, hr⟩, ((((Below.refl _ w).alloc (Nat.le_refl _) _).alloc (by simp) _)).drew⟩
    clear hob hown0
    have HFIN := Lib.hid hfin
    clear hfin
    go_enter Tryz.func24, Tryz.ntmps24
    go_wp2_with (go_at_call 26; refine HK.out.mono ?_; rintro e w' ⟨rfl, rfl⟩)
    cases a with
    | none =>
      go_region_held3 (fun w' => w'.cell? ⟨p, 0, none⟩ = some (.slice none 0 cap) ∧ w'.cell? ⟨p, 1, none⟩ = some (.int .i64 bs.length)) (first | go_keep) (fail)
      go_wp2
      go_ret
      exact HFIN.out
    | some ad =>
      go_region_held3 (fun w' => w'.cell? ⟨p, 0, none⟩ = some (.slice (some ad) 0 cap) ∧ w'.cell? ⟨p, 1, none⟩ = some (.int .i64 bs.length)) (first | go_keep) (fail)
      go_wp2
      go_ret
      exact HFIN.out
  · obtain ⟨g, rfl, _, hcs⟩ : ∃ g, a = some ⟨g, 0, none⟩ ∧ B ≤ g ∧ Cells w g 0 (words ws) := by
      rcases hx with hx | h
      · have := congrArg List.length hx
        rw [words_length] at this
        exact absurd this h0
      · exact h
    clear hx
    have hown0 : (w.alloc (.cells #[] 102)).ownsRow w.heap.size 102 1 (.slice (some ⟨w.heap.size, 0, none⟩) 0 0) 0 [] :=
      ⟨rfl, .inr ⟨w.heap.size, 0, #[], rfl, Nat.le_refl _, World.alloc_heap_new _ _, Nat.le_refl _, by unfold maxLen; omega, rfl, rfl⟩⟩
    have hcs' : ∀ j u, (words ws)[j]? = some u → ((w.alloc (.cells #[] 102)).drew).cell? ((⟨g, 0, none⟩ : Addr).add j) = some u := cells_add (hcs.fr (ch := nothing) ((Fr.alloc _ _).trans (Fr.drew _)) fun e => e)
    have hone : ∀ u ∈ words ws, u.oneCell' = true := fun u hu => by
      obtain ⟨b, _, rfl⟩ := List.mem_map.1 hu
      rfl
    go_enter Tryz.func24, Tryz.ntmps24
    go_wp2_with (go_at_call 26; refine HK.out.mono ?_; rintro e w' ⟨rfl, rfl⟩)
    go_region_held3 (fun w' => w'.cell? ⟨p, 0, none⟩ = some (.slice (some ⟨g, 0, none⟩) ws.length cap) ∧ w'.cell? ⟨p, 1, none⟩ = some (.int .i64 bs.length)) (first | go_keep | (constructor <;> (rw [hgrow.cell_far _ (by simp; omega) (by simp [Value.ownBlock]; omega)]; assumption)))
      ((go_split_ands; refine step_append_lies _ (by rfl) _ _ _ (by rfl) w.heap.size 102 i0 _ 1 8 Tryz.underlying44 hi hz0 hz1 hz2 rfl (by omega) (.slice (some ⟨w.heap.size, 0, none⟩) 0 0) 0 _ (by rfl) (hown0.drew)
            ⟨g, 0, none⟩ ws.length cap (words ws) (by rfl) (by rw [words_length]; omega) hcs' hone
            (by omega) (by unfold maxLen; omega) (by omega) (by simp) (w.heap.size + 1) (by simp) ?_; intro gg cap1 w1 hown1 hgrow hat hlt'))
    go_wp2
    go_ret
    have hB1 : Below w.heap.size w w1 := (((Below.refl _ w).alloc (Nat.le_refl _) _).drew).grown hgrow (by simp) (fun k e => by simp [Value.ownBlock] at e; omega)
    rw [Nat.zero_add, List.nil_append] at hown1
    exact ⟨_, _, rfl, ⟨ws, ⟨World.alloc_heap_new _ _, own_fr hown1 (Fr.alloc (ch := nothing) _ _) fun _ _ e => e, HH.out.len, HH.out.hn, HH.out.hw, hB1.size⟩, hr⟩, hB1.alloc hB1.size _⟩
end Go.Proofs.YtlilegbdjnhfjaaGreatDoor
