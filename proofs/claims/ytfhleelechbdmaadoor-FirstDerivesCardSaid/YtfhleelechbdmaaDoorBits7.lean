/-
  Package bits: Join.
-/
import Derived.Test.YtfhleelechbdmaaDoorBits6
namespace Go.Proofs.YtfhleelechbdmaaDoor
open Go.RowKit Go.Shelf
attribute [local go_sem] Oper.semAt_some
set_option maxHeartbeats 400000

theorem own_isCells {w : World} {B : Nat} {e : TypeId} {size n : Nat} {v : Value} {xs : List Value} (h : w.ownsRow B e size v n xs) (g : Nat) (hg : v.ownBlock = some g) : ∃ o : Obj, w.heap[g]? = some o ∧ o.isCells = true := by
  rcases h.2 with ⟨rfl, _⟩ | ⟨g', cap, cur, rfl, _, hg', _⟩
  · cases hg
  · cases hg; exact ⟨_, hg', rfl⟩
theorem PSet.cells {w : World} {B p : Nat} {v : Value} {bs : List Bool} (h : PSet w B p v bs) (g : Nat) (hg : v.ownBlock = some g) : ∃ o : Obj, w.heap[g]? = some o ∧ o.isCells = true := by
  obtain ⟨ws, h, _⟩ := h
  exact own_isCells h.own g hg
theorem PSet.grown {w w' : World} {B p : Nat} {v : Value} {bs : List Bool} {row : Option Nat} (h : PSet w B p v bs) (k : w.grownBy w' row) (hr : ∀ r, row = some r → ∃ o : Obj, w.heap[r]? = some o ∧ o.isCells = false) : PSet w' B p v bs := by
  have hp : ∃ o : Obj, w.heap[p]? = some o ∧ o.isCells = true := by
    obtain ⟨ws, h, _⟩ := h
    exact ⟨_, h.hp, rfl⟩
  have no : ∀ r, (∃ o : Obj, w.heap[r]? = some o ∧ o.isCells = true) → ¬ row = some r := fun r ⟨o, ho, hc⟩ e => by
    obtain ⟨o', ho', hc'⟩ := hr r e
    rw [ho] at ho'; cases ho'; rw [hc] at hc'; cases hc'
  exact h.fr (Fr.grown k) (no p hp) fun g hg => no g (h.cells g hg)
theorem keepsOthers_fr {ch : Nat → Prop} {w w' : World} (h : Fr ch w w') (hc : ∀ k, ch k → ∃ o : Obj, w.heap[k]? = some o ∧ o.isCells = true) : KeepsOthers w w' :=
  ⟨h.size, fun k o hk ho => h.obj hk fun e => by
    obtain ⟨o', ho', hc'⟩ := hc k e
    rw [hk] at ho'; cases ho'; rw [ho] at hc'; cases hc'⟩

set_option maxRecDepth 100000 in
set_option maxHeartbeats 2000000 in
theorem pJoin (w : World) (B p : Nat) (v : Value) (bs : List Bool) (h : PSet w B p v bs) (B' q : Nat) (u : Value) (cs : List Bool) (k : PSet w B' q u cs) (hs : p = q → cs = bs) (hd : p ≠ q → ∀ g, v.ownBlock = some g → u.ownBlock ≠ some g) (hT : Tab w) (hgT : v.ownBlock ≠ some 0) :
    Calls Tryd.prog 35 #[.pointer (some ⟨p, 0, none⟩), .pointer (some ⟨q, 0, none⟩)] w fun e w' => e = .returned (.bool (newB bs (trues cs))) ∧ PSet w' B p v (orB bs (trues cs)) ∧ Fr (fun k => p ≠ q ∧ v.ownBlock = some k) w w' := by
  obtain ⟨ws, k, hr⟩ := k
  have hce := hr.elems
  have hp2 : w.cell? ⟨p, 2, none⟩ = some (.bool true) := by obtain ⟨_, h, _⟩ := h; simp [World.cell?, h.hp]
  have hq0 : w.cell? ⟨q, 0, none⟩ = some u := by simp [World.cell?, k.hp]
  have hq2 : w.cell? ⟨q, 2, none⟩ = some (.bool true) := by simp [World.cell?, k.hp]
  obtain ⟨g, a, cap, rfl, ha, hcs⟩ := k.block'
  have hl := k.len
  have hn := k.hn
  have hw := k.hw
  have hpl := World.block_lt_of_cell? w _ hp2
  have hql := World.block_lt_of_cell? w _ hq0
  have hl64 : ws.length ≤ 64 := by omega
  refine (callsIn_wide (n := 9)).1 ?_
  refine callsIn_of_wp_marks Tryd.func35 rfl trivial ?_ rfl
  simp only [Tryd.ntmps35, List.size_toArray, List.length_cons, List.length_nil, Nat.reduceAdd, Nat.reduceSub, Array.replicate_succ, Array.replicate_zero, List.push_toArray, List.append_toArray, List.nil_append, List.cons_append]
  clear k hl hn
  have hB0 : Fr nothing w ((w.alloc (.cells #[.pointer (some ⟨p, 0, none⟩)] 52)).alloc (.cells #[.bool false] 4)) := (Fr.alloc _ _).trans (Fr.alloc _ _)
  have HK1 := Lib.hid (known_yes _ p true (hB0.cell hp2 (fun e => e)))
  have HK2 := Lib.hid (known_yes _ q true (hB0.cell hq2 (fun e => e)))
  gi_wp2_with (first | (refine ⟨trivial, ?_⟩; gi_at_call 32; first | (with_reducible refine (callsIn_wide.2 HK1.out).mono ?_); rintro e w' ⟨rfl, rfl⟩ | (with_reducible refine (callsIn_wide.2 HK2.out).mono ?_); rintro e w' ⟨rfl, rfl⟩) | (refine ⟨trivial, ?_⟩; gi_at_call 33; refine (callsIn_wide.2 (each_any _ _ _ _)).mono ?_; rintro e w' ⟨rfl, rfl⟩))
  have bS := Boxed.new w 52 (.pointer (some ⟨p, 0, none⟩))
  have bO := Boxed.new (w.alloc (.cells #[.pointer (some ⟨p, 0, none⟩)] 52)) 4 (.bool false)
  have bN := Boxed.new ((w.alloc (.cells #[.pointer (some ⟨p, 0, none⟩)] 52)).alloc (.cells #[.bool false] 4)) 69 (.slice a ws.length cap)
  rw [World.size_alloc] at bO
  rw [World.size_alloc, World.size_alloc] at bN
  generalize hw3 : ((w.alloc (.cells #[.pointer (some ⟨p, 0, none⟩)] 52)).alloc (.cells #[.bool false] 4)).alloc (.cells #[.slice a ws.length cap] 69) = w3 at *
  have hF3 : Fr nothing w w3 := by rw [← hw3]; exact hB0.trans (Fr.alloc _ _)
  have hS3 : w3.heap.size = w.heap.size + 3 := by rw [← hw3]; simp
  have bS3 : Boxed w3 w.heap.size 52 (.pointer (some ⟨p, 0, none⟩)) := by rw [← hw3]; exact (bS.alloc _).alloc _
  have bO3 : Boxed w3 (w.heap.size + 1) 4 (.bool false) := by rw [← hw3]; exact bO.alloc _
  have hgw : 0 < ws.length → g < w.heap.size := fun h0 => World.block_lt_of_cell? w _ (hcs 0 (by rw [words_length]; exact h0))
  have hTl : 0 < w.heap.size := World.block_lt_of_cell? w _ (hT 0 (by omega))
  have hcs3 : Cells w3 g 0 (words ws) := fun i hi => hF3.cell (hcs i hi) (fun e => e)
  have hv : ∀ gg, v.ownBlock = some gg → gg < w.heap.size := fun gg e => by
    obtain ⟨o, ho, _⟩ := h.cells gg e
    exact (Array.getElem?_eq_some_iff.1 ho).1
  have hKC : ∀ A B, Fr (fun k => w.heap.size ≤ k ∨ (p ≠ q ∧ v.ownBlock = some k)) A B → Cells A g 0 (words ws) → Cells B g 0 (words ws) := fun A B hb hc i hi => hb.cell (hc i hi) (by
    rw [words_length] at hi
    have h0 : ws ≠ [] := by rintro rfl; simp at hi
    have h1 := hgw (by omega)
    rintro (e | ⟨e1, e2⟩)
    · simp only at e; omega
    · exact hd e1 _ e2 (by rw [ha h0]; rfl))
  have hKT : ∀ A B, Fr (fun k => w.heap.size ≤ k ∨ (p ≠ q ∧ v.ownBlock = some k)) A B → Tab A → Tab B := fun A B hb ht => ht.fr hb (by
    rintro (e | ⟨_, e⟩)
    · omega
    · exact hgT e)
  refine wpIn_rangeFunc_ownF rfl (by omega) (gf := 39) (lb := #[.pointer (some ⟨w.heap.size + 1 + 1, 0, none⟩)]) rfl trivial (enters_of Tryd.func39 (by kernel_rfl) rfl)
    (each_stopsM 8 (by omega) (w.heap.size + 2) g cap a ws ha hl64 hw (Fr (fun k => w.heap.size ≤ k ∨ (p ≠ q ∧ v.ownBlock = some k))) hKT hKC _ (by omega) bN.cell hcs3 (hT.fr hF3 (fun e => e)))
    (fun h k => h.trans k)
    (fun W l o o' hl ho hc hw => (Fr.grown (grownBy_putObj' W l o')).mono fun k _ e => .inl (by cases e; omega))
    (Below.refl _ _) (fun _ => rfl)
    (fun pre W => Boxed W w.heap.size 52 (.pointer (some ⟨p, 0, none⟩)) ∧ Boxed W (w.heap.size + 1) 4 (.bool (newB bs (pre.map (·.1)))) ∧ PSet W B p v (orB bs (pre.map (·.1))) ∧ Fr (fun k => p ≠ q ∧ v.ownBlock = some k) w W)
    (fun _ _ _ => False)
    (by
      rintro pre W W' row ⟨h1, h2, h3, h4⟩ hg hr
      have nb : ∀ b t x, Boxed W b t x → ¬ row = some b := fun b t x hb e => by
        obtain ⟨_, o, ho, hc⟩ := hr b e
        rw [show W.heap[b]? = _ from hb] at ho; cases ho; cases hc
      exact ⟨boxed_fr h1 (Fr.grown hg) (nb _ _ _ h1), boxed_fr h2 (Fr.grown hg) (nb _ _ _ h2), h3.grown hg fun r e => (hr r e).2,
        ⟨(Fr.grown hg).os.trans h4.os, (Fr.grown hg).tape.trans h4.tape, (Fr.grown hg).output.trans h4.output, Nat.le_trans h4.size hg.size, fun k hk hn => ((Fr.grown hg).block k (Nat.lt_of_lt_of_le hk h4.size) (fun e => by have := (hr k e).1; omega)).trans (h4.block k hk hn)⟩⟩)
    (fun _ _ _ _ _ hs _ _ => hs)
    ⟨bS3, bO3, h.fresh hF3, hF3.wide⟩
    (fun x => { tmps := #[.pointer (some ⟨p, 0, none⟩), .pointer (some ⟨q, 0, none⟩), .pointer (some ⟨w.heap.size, 0, none⟩), undef, .bool false, .pointer (some ⟨w.heap.size + 1, 0, none⟩), .int .i64 (x.1 : Nat), .pointer (some ⟨p, 0, none⟩), .bool true, .bool true, .pointer (some ⟨q, 0, none⟩), .bool true, .bool true, .pointer (some ⟨q, 0, none⟩), .pointer (some ⟨q, 0, none⟩), .pointer (some ⟨q, 0, none⟩), .slice a ws.length cap, .func (.func 39) #[] #[.pointer (some ⟨w.heap.size + 1 + 1, 0, none⟩)], .int .i64 (x.1 : Nat), undef, undef, undef, undef, undef, undef, undef], defers := [] }) ?assign ?body ?done ?stop
  case assign =>
    intro l x W K hK
    gi_wp2
    exact hK
  case body =>
    rintro l pre x W ⟨h1, h2, h3, h4⟩ hlt
    have hself : newB1 (orB bs (pre.map (·.1))) x.1 = true → p ≠ q := by
      intro e1 e2
      have e3 := hs e2
      subst e3
      have hm : x.1 ∈ trues cs := (fun y (hy : y ∈ elems ws) => by rw [← hce]; exact hy : ∀ y, y ∈ elems ws → y ∈ trues cs) x.1 x.2
      have hb := (trues_mem _ _).1 hm
      simp only [newB1, Int.toNat_natCast, orB_get, hb] at e1
      simp at e1
    have e1 : newB bs ((pre ++ [x]).map (·.1)) = (newB1 (orB bs (pre.map (·.1))) x.1 || newB bs (pre.map (·.1))) := by rw [List.map_append]; exact newB_snoc _ _ _
    have e2 : orB bs ((pre ++ [x]).map (·.1)) = addB (orB bs (pre.map (·.1))) x.1 := by rw [List.map_append]; exact orB_snoc _ _ _
    have HA := Lib.hid (pAdd W B p v _ h3 x.1)
    have h3c := h3.cells
    have hc1 := h1.cell
    have H2 := Lib.hid h2
    clear hp2 hq0 hq2 hB0 HK1 HK2 bN hKC hKT h3 hs hd hw ha hcs hcs3 hT
    generalize hx : x.1 = xn at *
    generalize newB1 (orB bs (pre.map (·.1))) xn = nb at *
    generalize newB bs (pre.map (·.1)) = ob at *
    have hz : ∀ (w' : World), Fr (fun k => nb = true ∧ v.ownBlock = some k) W w' → PSet w' B p v (addB (orB bs (pre.map (·.1))) xn) → Boxed w' (w.heap.size + 1) 4 (.bool ob) →
        KeepsOthers W (w'.setCell ⟨w.heap.size + 1, 0, none⟩ (.bool (nb || ob))) ∧ Fr (fun k => w.heap.size ≤ k ∨ (p ≠ q ∧ v.ownBlock = some k)) W (w'.setCell ⟨w.heap.size + 1, 0, none⟩ (.bool (nb || ob))) ∧
        (Boxed (w'.setCell ⟨w.heap.size + 1, 0, none⟩ (.bool (nb || ob))) w.heap.size 52 (.pointer (some ⟨p, 0, none⟩)) ∧ Boxed (w'.setCell ⟨w.heap.size + 1, 0, none⟩ (.bool (nb || ob))) (w.heap.size + 1) 4 (.bool (newB bs ((pre ++ [x]).map (·.1)))) ∧
          PSet (w'.setCell ⟨w.heap.size + 1, 0, none⟩ (.bool (nb || ob))) B p v (orB bs ((pre ++ [x]).map (·.1))) ∧ Fr (fun k => p ≠ q ∧ v.ownBlock = some k) w (w'.setCell ⟨w.heap.size + 1, 0, none⟩ (.bool (nb || ob)))) := by
      intro w' hF hS hb
      have hset : Fr (only (w.heap.size + 1)) w' (w'.setCell ⟨w.heap.size + 1, 0, none⟩ (.bool (nb || ob))) := Fr.setCell _ ⟨w.heap.size + 1, 0, none⟩ _
      have hF4 : Fr (fun k => p ≠ q ∧ v.ownBlock = some k) w w' := h4.trans (hF.mono fun k _ e => ⟨hself e.1, e.2⟩)
      refine ⟨(keepsOthers_fr hF fun k e => h3c k e.2).trans (KeepsOthers.setCell _ _ _), ?_, ?_, ?_, ?_, ?_⟩
      · exact (hF.mono fun k _ e => .inr ⟨hself e.1, e.2⟩).trans (hset.mono fun k _ e => .inl (by have e' : k = _ := e; omega))
      · exact boxed_fr (boxed_fr h1 hF (fun e => by have := hv _ e.2; omega)) hset (fun e => by have e' : w.heap.size = w.heap.size + 1 := e; omega)
      · rw [e1]; exact hb.set _
      · rw [e2]; exact hS.fr hset (fun e => by have e' : p = w.heap.size + 1 := e; omega) (fun gg e e' => by have e'' : gg = w.heap.size + 1 := e'; have := hv _ e; omega)
      · exact ⟨hset.os.trans hF4.os, hset.tape.trans hF4.tape, hset.output.trans hF4.output, Nat.le_trans hF4.size hset.size, fun k hk hn => (hset.block k (Nat.lt_of_lt_of_le hk hF4.size) (fun e => by have e' : k = w.heap.size + 1 := e; omega)).trans (hF4.block k hk hn)⟩
    have HZ := Lib.hid hz
    clear hz e1 e2 hself h4 h3c h1
    cases nb <;> cases ob
    all_goals (gi_wp2_with (refine ⟨trivial, ?_⟩; gi_at_call 24; refine (callsIn_wide.2 HA.out).mono ?_; rintro e w' ⟨rfl, hS', hF'⟩; have hbx := boxed_fr H2.out hF' (fun e => by have := hv _ e.2; omega); have hc2 := hbx.cell; have hf2 := hbx.frozen))
    all_goals exact HZ.out _ hF' hS' hbx
  case done =>
    rintro D ys W hD hys ⟨h1, h2, h3, h4⟩ hK
    rw [hys, hce] at h2 h3
    have hcc := h2.cell
    clear hp2 hq0 hq2 hB0 HK1 HK2 bN hKC hKT h1 hs hd hw ha hcs hcs3 hT
    gi_wp2
    refine ⟨by simp, .inl ⟨_, _, rfl, run_takeDeferred hK, ?_⟩⟩
    have hg := grownBy_putObj' W D (.deferred none)
    exact ⟨_, results_tmp rfl _ _ _, rfl, h3.grown hg fun r e => by cases e; exact ⟨_, hK, rfl⟩,
      ⟨(Fr.grown hg).os.trans h4.os, (Fr.grown hg).tape.trans h4.tape, (Fr.grown hg).output.trans h4.output, Nat.le_trans h4.size hg.size, fun k hk hn => ((Fr.grown hg).block k (Nat.lt_of_lt_of_le hk h4.size) (fun e => by cases e; omega)).trans (h4.block k hk hn)⟩⟩
  case stop =>
    rintro D c pre W _ _ h _
    exact h.elim
end Go.Proofs.YtfhleelechbdmaaDoor
