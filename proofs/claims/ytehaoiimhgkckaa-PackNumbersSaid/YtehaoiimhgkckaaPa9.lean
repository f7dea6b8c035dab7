/-
  Package pack: put of the chapter's row of entries into what is empty.
-/
import Derived.Test.YtehaoiimhgkckaaPa8
import Derived.Test.YtehaoiimhgkckaaPk8
import Derived.Test.YtehaoiimhgkckaaOwnRows
import Derived.Test.YtehaoiimhgkckaaAnyT
import Derived.Deep.AppendLies
namespace Go.Proofs.Ytehaoiimhgkckaa
open Go.RowKit
set_option maxHeartbeats 400000

abbrev nilS : Value := .slice none 0 0
theorem keepP {n pb i : Nat} {u v : Value} {w2 W W' : World} (h1 : W.cell? ⟨n, 0, none⟩ = some u) (h2 : W.cell? ⟨pb, i, none⟩ = some v) (h3 : Fr nothing w2 W) (k : Fr nothing W W') :
    W'.cell? ⟨n, 0, none⟩ = some u ∧ W'.cell? ⟨pb, i, none⟩ = some v ∧ Fr nothing w2 W' := ⟨k.cell h1 fun e => e, k.cell h2 fun e => e, h3.trans k⟩
theorem fr_grown_nil {w w' : World} (h : w.grownBy w' none) : Fr nothing w w' := (Fr.grown h).mono fun k _ e => by cases e
/-- How long the list at place 1 of block pb is. -/
def lenAt (pb : Nat) (w : World) : Nat := match w.cell? ⟨pb, 1, none⟩ with
  | some (.slice _ n _) => n
  | _ => 0
theorem fr_join {a b c : World} {pb : Nat} {ch : Nat → Prop} (h : Fr (only pb) a b) (k : Fr ch b c) (hc : ∀ g, ch g → a.heap.size ≤ g) : Fr (only pb) a c :=
  ⟨k.os.trans h.os, k.tape.trans h.tape, k.output.trans h.output, Nat.le_trans h.size k.size, fun i hi hn => (k.block i (Nat.lt_of_lt_of_le hi h.size) (fun e => by have := hc i e; omega)).trans (h.block i hi hn)⟩
theorem own_get {w : World} {B e size n g cap : Nat} {xs : List Value} (h : w.ownsRow B e size (.slice (some ⟨g, 0, none⟩) n cap) n xs) {j : Nat} {u : Value} (hu : xs[j]? = some u) : w.cell? ⟨g, j, none⟩ = some u := by
  obtain ⟨a, c, he, _, _, h3⟩ := own_cells h
  simp only [Value.slice.injEq] at he
  obtain ⟨rfl, -, rfl⟩ := he
  rcases h3 with h3 | ⟨g', e', _, hc⟩
  · rw [h3] at hu
    simp at hu
  · simp only [Option.some.injEq, Addr.mk.injEq] at e'
    obtain ⟨rfl, -⟩ := e'
    obtain ⟨hj, rfl⟩ := List.getElem?_eq_some_iff.1 hu
    simpa using hc j hj
def OwnA (w : World) (B : Nat) (v : Value) (l : List Ac) : Prop := w.ownsRow B 31 2 v l.length (l.flatMap acCells)
/-- A packer's block. -/
def packA (b c n : Value) : Obj := .cells #[b, c, n] 111 (0, 0)
/-- What the inner loop keeps: so many places put, each of nobody and empty. -/
structure InA (wz wr : World) (pb : Nat) (bv : Value) (c : Nat) (cv nv : Value) : Prop where
  pk : wr.heap[pb]? = some (packA bv cv nv)
  own1 : wr.ownsRow wz.heap.size 3 1 cv c (List.replicate c (.int .i64 (-1)))
  own2 : wr.ownsRow wz.heap.size 31 2 nv c ((List.replicate c [.int .u8 0, .int .i64 0]).flatten)
  sep : ∀ g, cv.ownBlock = some g → nv.ownBlock = some g → False
  fr : Fr (only pb) wz wr
set_option maxRecDepth 100000 in
set_option maxHeartbeats 8000000 in
theorem putA_row (pb rb rc : Nat) (kv : Value) (w : World) (hp : w.heap[pb]? = some (packA nilS nilS nilS)) (hcs : Cells w rb 0 [.int .u8 2, .int .i64 1, .int .u8 2, .int .i64 1, .int .u8 0, .int .i64 0]) (hrp : rb ≠ pb) (hk : OwnI w (pb + 1) kv [2]) :
    Calls Try.prog 53 #[.pointer (some ⟨pb, 0, none⟩), .slice (some ⟨rb, 0, none⟩) 3 rc, kv] w fun e w' => e = .returned (.tuple #[]) ∧ ∃ bv cv nv, w'.heap[pb]? = some (packA bv cv nv) ∧ OwnI w' w.heap.size bv [0] ∧ OwnI w' w.heap.size cv [-1, -1, 0] ∧ OwnA w' w.heap.size nv [⟨0, 0⟩, ⟨0, 0⟩, ⟨0, 0⟩] ∧ Fr (only pb) w w' := by
  obtain ⟨i0, hi, hz0, hz1, hz2⟩ := info_parts Try.infoInt'
  obtain ⟨j0, hj, hy0, hy1, hy2⟩ := info_parts Try.infoAct
  have hkI : Ints w kv [2] := own_ints hk (by simp) (by simp)
  obtain ⟨ka, kc, rfl, hkc, hkm, hkg⟩ := own_cells hk
  obtain ⟨kb, rfl, hkp, hkx⟩ := hkg.resolve_left (by simp)
  simp only [List.length_cons, List.length_nil, Nat.zero_add, List.map_cons, List.map_nil] at hkI hkc hkx
  have hx := two_boxes w (.cells #[.pointer (some ⟨pb, 0, none⟩)] 140 (0, 0)) (.cells #[.slice (some ⟨kb, 0, none⟩) 1 kc] 22 (0, 0))
  obtain ⟨w1, hw1⟩ : ∃ w1, w1 = (w.alloc (.cells #[.pointer (some ⟨pb, 0, none⟩)] 140 (0, 0))).alloc (.cells #[.slice (some ⟨kb, 0, none⟩) 1 kc] 22 (0, 0)) := ⟨_, rfl⟩
  rw [← hw1] at hx
  obtain ⟨o0, o1, hB1⟩ := hx
  have hF1 := Fr.new hB1
  have HO := Lib.hid (And.intro o0 (And.intro o1 (And.intro (hF1.obj hp fun e => e) (And.intro (hcs.fr hF1 fun e => e) (And.intro (hkx.fr hF1 fun e => e) (hkI.fr hF1))))))
  have HF1 := Lib.hid hF1
  have HW := Lib.hid hw1
  have hpl : pb < w.heap.size := (Array.getElem?_eq_some_iff.1 hp).1
  have z1 : w1.cell? ⟨w.heap.size + 1, 0, none⟩ = some (.slice (some ⟨kb, 0, none⟩) 1 kc) := obj_cell o1 0 rfl
  have HFR := Lib.hid (freeA_any (w.heap.size + 1) w.heap.size pb (.slice (some ⟨kb, 0, none⟩) 1 kc) w1 z1 HO.out.2.2.2.2.2 (obj_cell o0 0 rfl) (obj_cell HO.out.2.2.1 1 rfl))
  have t0 : decide ((0 : Int) < 1) = true := by decide
  clear hp hk hcs hkx hkI hw1 o0 o1 hB1 hF1
  simp only [List.length_cons, List.length_nil, Nat.zero_add]
  go_enter Try.func53, Try.ntmps53
  go_upto_region 1 with fail
  rw [← HW.out]
  go_wp2
  go_loopw [7] (fun b wr => b = .int .i64 0 ∧ w1 = wr) (fun _ _ => 0)
  case atStart => exact ⟨rfl, rfl⟩
  case round =>
    obtain ⟨rfl, rfl⟩ := hrel
    go_upto_region 5 with (go_at_call 78; refine HFR.out.mono ?_; rintro e w2 ⟨rfl, hb2⟩)
    have hF2 := Fr.new hb2
    have q0 : w2.cell? ⟨w.heap.size, 0, none⟩ = some (.pointer (some ⟨pb, 0, none⟩)) := obj_cell (hF2.obj HO.out.1 fun e => e) 0 rfl
    have p0 := hF2.obj HO.out.2.2.1 fun e => e
    have q1 : w2.cell? ⟨pb, 0, none⟩ = some nilS := obj_cell p0 0 rfl
    have HP := Lib.hid p0
    have HF2 := Lib.hid hF2
    clear p0 hF2 hb2 z1
    go_upto_region 6 with fail
    go_cut [] (fun wx => ∃ bv, wx.heap[pb]? = some (packA bv nilS nilS) ∧ OwnI wx w2.heap.size bv [0] ∧ Fr (only pb) w2 wx)
    case first =>
      refine wp_region_anyT (fun j W => j < 12 → W.cell? ⟨w.heap.size, 0, none⟩ = some (.pointer (some ⟨pb, 0, none⟩)) ∧ W.cell? ⟨pb, 0, none⟩ = some nilS ∧ Fr nothing w2 W) (by kernel_rfl) ?_
      have hS : w2.drew.cell? ⟨w.heap.size, 0, none⟩ = some (.pointer (some ⟨pb, 0, none⟩)) ∧ w2.drew.cell? ⟨pb, 0, none⟩ = some nilS ∧ Fr nothing w2 w2.drew := keepP q0 q1 (Fr.refl _ _) (Fr.drew _)
      refine anyT_take (i := 0) (v := ?_) (fun j => decide (j < 12)) (fun j w h k => k (of_decide_eq_true h)) (fun w h _ => h) rfl (by kernel_rfl) (fun _ _ _ h => h) _ _ _ _ (by kernel_rfl) (by kernel_rfl) (by kernel_rfl) (by kernel_rfl) (Or.inl ⟨by rfl, ?_⟩) (by assumption) ?_
      rotate_left
      · (intro w hSw; (try dsimp only at hSw); go_simp)
        try with_reducible rfl
      refine anyT_take (i := 1) (v := ?_) (fun j => decide (j < 12)) (fun j w h k => k (of_decide_eq_true h)) (fun w h _ => h) rfl (by kernel_rfl) (fun _ _ _ h => h) _ _ _ _ (by kernel_rfl) (by kernel_rfl) (by kernel_rfl) (by kernel_rfl) (Or.inl ⟨by rfl, ?_⟩) (by assumption) ?_
      rotate_left
      · (intro w hSw; (try dsimp only at hSw); go_simp)
        try with_reducible rfl
      refine anyT_take (i := 2) (v := ?_) (fun j => decide (j < 12)) (fun j w h k => k (of_decide_eq_true h)) (fun w h _ => h) rfl (by kernel_rfl) (fun _ _ _ h => h) _ _ _ _ (by kernel_rfl) (by kernel_rfl) (by kernel_rfl) (by kernel_rfl) (Or.inl ⟨by rfl, ?_⟩) (by assumption) ?_
      rotate_left
      · (intro w hSw; (try dsimp only at hSw); go_simp)
        try with_reducible rfl
      refine anyT_take (i := 3) (v := ?_) (fun j => decide (j < 12)) (fun j w h k => k (of_decide_eq_true h)) (fun w h _ => h) rfl (by kernel_rfl) (fun _ _ _ h => h) _ _ _ _ (by kernel_rfl) (by kernel_rfl) (by kernel_rfl) (by kernel_rfl) (Or.inl ⟨by rfl, ?_⟩) (by assumption) ?_
      rotate_left
      · (intro w hSw; (try dsimp only at hSw); go_simp)
        try with_reducible rfl
      refine anyT_take (i := 4) (v := ?_) (fun j => decide (j < 12)) (fun j w h k => k (of_decide_eq_true h)) (fun w h _ => h) rfl (by kernel_rfl) (fun _ _ _ h => h) _ _ _ _ (by kernel_rfl) (by kernel_rfl) (by kernel_rfl) (by kernel_rfl) (Or.inl ⟨by rfl, ?_⟩) (by assumption) ?_
      rotate_left
      · (intro w hSw; (try dsimp only at hSw); go_simp)
        try with_reducible rfl
      refine anyT_take (i := 5) (v := ?_) (fun j => decide (j < 12)) (fun j w h k => k (of_decide_eq_true h)) (fun w h _ => h) rfl (by kernel_rfl) (fun _ _ _ h => h) _ _ _ _ (by kernel_rfl) (by kernel_rfl) (by kernel_rfl) (by kernel_rfl) (Or.inl ⟨by rfl, ?_⟩) (by assumption) ?_
      rotate_left
      · (intro w hSw; (try dsimp only at hSw); go_simp)
        try with_reducible rfl
      refine anyT_take (i := 6) (v := ?_) (fun j => decide (j < 12)) (fun j w h k => k (of_decide_eq_true h)) (fun w h _ => h) rfl (by kernel_rfl) (fun _ _ _ h => h) _ _ _ _ (by kernel_rfl) (by kernel_rfl) (by kernel_rfl) (by kernel_rfl) (Or.inl ⟨by rfl, ?_⟩) (by assumption) ?_
      rotate_left
      · (intro w hSw; (try dsimp only at hSw); go_simp)
        try with_reducible rfl
      refine anyT_ready (rs := [7]) (by kernel_rfl) (by simp) ?_
      intro j hj
      obtain rfl := List.mem_singleton.1 hj
      clear hj
      refine wpOp_plain rfl rfl ?_
      go_simp
      refine ⟨keepP hS.1 hS.2.1 hS.2.2 (Fr.alloc _ _), ?_⟩
      refine anyT_ready (rs := [8]) (by kernel_rfl) (by simp) ?_
      intro j hj
      obtain rfl := List.mem_singleton.1 hj
      clear hj
      refine wpOp_plain rfl rfl ?_
      refine wp_append_lies _ _ _ 22 rfl w2.heap.size 3 i0 _ 1 8 Try.underlying22 hi hz0 hz1 hz2 (by rfl) (by decide) nilS 0 [] (by rfl) (World.ownsRow_nil _ _ _ _) ⟨w2.heap.size, 0, none⟩ 1 1 [.int .i64 0] (by rfl) (by rfl) (cells_add (cells_new_at (w := w2.drew) rfl _ _ rfl _ _)) (by simp [Value.oneCell']) (by omega) (by unfold maxLen; omega) (by omega) (by simp) _ rfl ?_
      intro g cap w4 hown hgrow _ _
      have k4 : Fr nothing w2 w4 := ((Fr.drew w2).trans (Fr.alloc _ _)).trans (fr_grown_nil hgrow)
      have f4 := obj_frozen (k4.obj HP.out fun e => e) 0
      have c4 : w4.cell? ⟨pb, 0, none⟩ = some nilS := k4.cell q1 fun e => e
      have hS4 : w4.cell? ⟨w.heap.size, 0, none⟩ = some (.pointer (some ⟨pb, 0, none⟩)) ∧ w4.cell? ⟨pb, 0, none⟩ = some nilS ∧ Fr nothing w2 w4 := ⟨k4.cell q0 fun e => e, c4, k4⟩
      refine ⟨fun _ => hS4, ?_⟩
      clear hgrow
      refine anyT_take (i := 9) (v := ?_) (fun j => decide (j < 12)) (fun j w h k => k (of_decide_eq_true h)) (fun w h _ => h) rfl (by kernel_rfl) (fun _ _ _ h => h) _ _ _ _ (by kernel_rfl) (by kernel_rfl) (by kernel_rfl) (by kernel_rfl) (Or.inl ⟨by rfl, ?_⟩) (by assumption) ?_
      rotate_left
      · (intro w hSw; (try dsimp only at hSw); go_simp)
        try with_reducible rfl
      refine anyT_take (i := 10) (v := ?_) (fun j => decide (j < 12)) (fun j w h k => k (of_decide_eq_true h)) (fun w h _ => h) rfl (by kernel_rfl) (fun _ _ _ h => h) _ _ _ _ (by kernel_rfl) (by kernel_rfl) (by kernel_rfl) (by kernel_rfl) (Or.inl ⟨by rfl, ?_⟩) (by assumption) ?_
      rotate_left
      · (intro w hSw; (try dsimp only at hSw); go_simp)
        try with_reducible rfl
      refine anyT_take (i := 11) (v := ?_) (fun j => decide (j < 12)) (fun j w h k => k (of_decide_eq_true h)) (fun w h _ => h) rfl (by kernel_rfl) (fun _ _ _ h => h) _ _ _ _ (by kernel_rfl) (by kernel_rfl) (by kernel_rfl) (by kernel_rfl) (Or.inl ⟨by rfl, ?_⟩) (by assumption) ?_
      rotate_left
      · (intro w hSw; (try dsimp only at hSw); go_simp)
        try with_reducible rfl
      refine anyT_ready (rs := [12]) (by kernel_rfl) (by simp) ?_
      intro j hj
      obtain rfl := List.mem_singleton.1 hj
      clear hj
      refine wpOp_plain rfl rfl ?_
      go_simp
      refine ⟨by kernel_rfl, ?_⟩
      try go_wp2
      go_meet
      have hbig : ∀ g', (Value.slice (some ⟨g, 0, none⟩) (0 + 1) cap).ownBlock = some g' → ¬ only pb g' := fun g' hg' e => by
        have h1 := (hown.lt g' hg').1
        have h2 := HF2.out.size
        have h3 := HF1.out.size
        unfold only at e
        omega
      exact ⟨.slice (some ⟨g, 0, none⟩) 1 cap, setCell_obj (k4.obj HP.out fun e => e) _, own_fr hown (Fr.setCell w4 ⟨pb, 0, none⟩ _) hbig, k4.wide.trans (Fr.setCell w4 ⟨pb, 0, none⟩ _)⟩
    case rest =>
    obtain ⟨bv, hb0, hbo, hfc⟩ := hcut
    have hne1 : ¬ only pb (w.heap.size + 1) := fun e => by unfold only at e; omega
    have hne0 : ¬ only pb w.heap.size := fun e => by unfold only at e; omega
    have c1 : wc.cell? ⟨w.heap.size + 1, 0, none⟩ = some (.slice (some ⟨kb, 0, none⟩) 1 kc) := obj_cell (hfc.obj (HF2.out.obj HO.out.2.1 fun e => e) hne1) 0 rfl
    have c0 : wc.cell? ⟨w.heap.size, 0, none⟩ = some (.pointer (some ⟨pb, 0, none⟩)) := obj_cell (hfc.obj (HF2.out.obj HO.out.1 fun e => e) hne0) 0 rfl
    have HC := Lib.hid (And.intro hb0 (And.intro hbo hfc))
    have hszc : w.heap.size + 2 ≤ wc.heap.size := by
      have h1 := (Array.getElem?_eq_some_iff.1 HO.out.2.1).1
      have h2 := HF2.out.size
      have h3 := hfc.size
      omega
    have hk0 := HO.out.2.2.2.2.1 0 (by simp)
    have hkc2 : wc.cell? ⟨kb, 0, none⟩ = some (.int .i64 2) := hfc.cell (HF2.out.cell (by simpa using hk0) fun e => e) (fun e => by unfold only at e; simp only at e; omega)
    clear hb0 hbo hfc hk0 q0 q1
    go_wp2
    go_loopw [10, 11, 44] (fun _ _ i wr => ∃ j : Nat, j ≤ 1 ∧ i = .int .i64 j ∧ (j = 0 → wc = wr) ∧ (j = 1 → ∃ cv nv, wr.heap[pb]? = some (packA bv cv nv) ∧ OwnI wr w2.heap.size bv [0] ∧ OwnI wr wc.heap.size cv [-1, -1, 0] ∧ OwnA wr wc.heap.size nv [⟨0, 0⟩, ⟨0, 0⟩, ⟨0, 0⟩] ∧ Fr (only pb) wc wr)) (fun _ _ i _ => 1 - (intOf i).toNat)
    case atStart => exact ⟨0, by omega, rfl, fun _ => rfl, fun e => by omega⟩
    case round =>
      obtain ⟨j, hj1, rfl, h0, h1⟩ := hrel
      rcases (by omega : j = 0 ∨ j = 1) with rfl | rfl
      · obtain rfl := h0 rfl
        clear h0 h1 hj1
        go_wp2
        have hpd : wc.heap[pb]? = some (packA bv nilS nilS) := HC.out.1
        obtain ⟨wz, hwz⟩ : ∃ wz, wz = wc.alloc (.cells #[.int .u8 0, .int .i64 0] 31 (0, 0)) := ⟨_, rfl⟩
        rw [← hwz]
        have hfz : Fr nothing wc wz := by rw [hwz]; exact Fr.alloc _ _
        have oz : wz.heap[wc.heap.size]? = some (.cells #[.int .u8 0, .int .i64 0] 31 (0, 0)) := by rw [hwz]; exact alloc_obj _ _
        have HOZ := Lib.hid oz
        clear oz
        have hpz := hfz.obj hpd fun e => e
        have HZ := Lib.hid (And.intro hfz hpz)
        have HC0 := Lib.hid c0
        clear hwz hfz hpz c0 c1 hpd
        have hz : ((0 : Nat) : Int) = 0 := rfl
        simp only [hz]
        clear hz
        go_loopw [] (fun wr => ∃ c cv nv, c ≤ 2 + 1 ∧ InA wz wr pb bv c cv nv) (fun wr => 2 + 1 - lenAt pb wr)
        case atStart => exact ⟨0, nilS, nilS, by omega, ⟨HZ.out.2, World.ownsRow_nil _ _ _ _, World.ownsRow_nil _ _ _ _, (fun _ e _ => by cases e), Fr.refl _ _⟩⟩
        case round =>
          obtain ⟨c, cv, nv, hcl, hin⟩ := hrel
          obtain ⟨ca, cc, rfl, hcc, hcm, _⟩ := own_cells hin.own1
          obtain ⟨na, nc, rfl, hnc, hnm, _⟩ := own_cells hin.own2
          have g0 : wr.cell? ⟨w.heap.size, 0, none⟩ = some (.pointer (some ⟨pb, 0, none⟩)) := hin.fr.cell (HZ.out.1.cell HC0.out fun e => e) hne0
          have g1 : wr.cell? ⟨pb, 1, none⟩ = some (.slice ca c cc) := obj_cell hin.pk 1 rfl
          have g2 : wr.cell? ⟨pb, 2, none⟩ = some (.slice na c nc) := obj_cell hin.pk 2 rfl
          have y0 : wr.cell? ⟨wc.heap.size, 0, none⟩ = some (.int .u8 0) := obj_cell (hin.fr.obj HOZ.out (fun e => by unfold only at e; omega)) 0 rfl
          have y1 : wr.cell? ⟨wc.heap.size, 1, none⟩ = some (.int .i64 0) := obj_cell (hin.fr.obj HOZ.out (fun e => by unfold only at e; omega)) 1 rfl
          have e2 : IntKind.i64.wrap 2 = 2 := by decide
          have hszz : wc.heap.size + 1 ≤ wz.heap.size := (Array.getElem?_eq_some_iff.1 HOZ.out).1
          have hszr := hin.fr.size
          by_cases hlt : c < 2 + 1
          · have t1 : decide ((c : Int) ≤ 2) = true := by simp; omega
            have hfar : ∀ g, g < wz.heap.size → ¬ ((Value.slice ca c cc).ownBlock = some g ∨ (Value.slice na c nc).ownBlock = some g) := fun g hg e => by
              rcases e with e | e
              · have := (hin.own1.lt g e).1; omega
              · have := (hin.own2.lt g e).1; omega
            have hl0 : w.heap.size < wz.heap.size := by omega
            have hlp : pb < wz.heap.size := by omega
            have hlz : wc.heap.size < wz.heap.size := by omega
            have hSep := hin.sep
            go_upto_region 12 with fail
            have hS : ∀ W : World, Fr (fun g => (Value.slice ca c cc).ownBlock = some g ∨ (Value.slice na c nc).ownBlock = some g) wr W → W.cell? ⟨w.heap.size, 0, none⟩ = some (.pointer (some ⟨pb, 0, none⟩)) ∧ W.cell? ⟨pb, 1, none⟩ = some (.slice ca c cc) ∧ W.cell? ⟨pb, 2, none⟩ = some (.slice na c nc) ∧ W.cell? ⟨wc.heap.size, 0, none⟩ = some (.int .u8 0) ∧ W.cell? ⟨wc.heap.size, 1, none⟩ = some (.int .i64 0) := fun W k => ⟨k.cell g0 (hfar _ hl0), k.cell g1 (hfar _ hlp), k.cell g2 (hfar _ hlp), k.cell y0 (hfar _ hlz), k.cell y1 (hfar _ hlz)⟩
            have HI := Lib.hid hin
            have HF := Lib.hid (And.intro hfar hSep)
            clear g0 g1 g2 hin hSep hfar y0 y1
            obtain ⟨wq, hq⟩ : ∃ wq, wq = wr.drew := ⟨_, rfl⟩
            have kq : Fr nothing wr wq := by rw [hq]; exact Fr.drew _
            have hS0 := hS wq kq.wide
            have HS := Lib.hid hS
            clear hS
            refine wp_region_anyT (Lv (fun W => W.cell? ⟨w.heap.size, 0, none⟩ = some (.pointer (some ⟨pb, 0, none⟩))) (fun W => W.cell? ⟨w.heap.size, 0, none⟩ = some (.pointer (some ⟨pb, 0, none⟩)) ∧ W.cell? ⟨pb, 1, none⟩ = some (.slice ca c cc) ∧ W.cell? ⟨pb, 2, none⟩ = some (.slice na c nc) ∧ W.cell? ⟨wc.heap.size, 0, none⟩ = some (.int .u8 0) ∧ W.cell? ⟨wc.heap.size, 1, none⟩ = some (.int .i64 0)) 20 1) (by kernel_rfl) ?_
            rw [← hq]
            clear hq
            refine anyT_take (i := 1) (v := ?_) (fun j => decide (j ≤ 20)) (lv_weak fun _ h => h.1) (lv_self) rfl (by kernel_rfl) (fun _ _ _ h => h) _ _ _ _ (by kernel_rfl) (by kernel_rfl) (by kernel_rfl) (by kernel_rfl) (Or.inl ⟨by rfl, ?_⟩) hS0.1 ?_
            rotate_left
            · (intro w hSw; (try dsimp only at hSw); go_simp)
              try with_reducible rfl
            refine anyT_take (i := 0) (v := ?_) (fun j => decide (j < 20 ∧ j ≠ 1)) (lv_strong) (fun _ h => lv_of (by decide) (by decide) h) rfl (by kernel_rfl) (fun _ _ _ h => h) _ _ _ _ (by kernel_rfl) (by kernel_rfl) (by kernel_rfl) (by kernel_rfl) (Or.inl ⟨by rfl, ?_⟩) (by assumption) ?_
            rotate_left
            · (intro w hSw; (try dsimp only at hSw); go_simp)
              try with_reducible rfl
            refine anyT_take (i := 2) (v := ?_) (fun j => decide (j < 20 ∧ j ≠ 1)) (lv_strong) (fun _ h => lv_of (by decide) (by decide) h) rfl (by kernel_rfl) (fun _ _ _ h => h) _ _ _ _ (by kernel_rfl) (by kernel_rfl) (by kernel_rfl) (by kernel_rfl) (Or.inl ⟨by rfl, ?_⟩) (by assumption) ?_
            rotate_left
            · (intro w hSw; (try dsimp only at hSw); go_simp)
              try with_reducible rfl
            refine anyT_take (i := 3) (v := ?_) (fun j => decide (j < 20 ∧ j ≠ 1)) (lv_strong) (fun _ h => lv_of (by decide) (by decide) h) rfl (by kernel_rfl) (fun _ _ _ h => h) _ _ _ _ (by kernel_rfl) (by kernel_rfl) (by kernel_rfl) (by kernel_rfl) (Or.inl ⟨by rfl, ?_⟩) (by assumption) ?_
            rotate_left
            · (intro w hSw; (try dsimp only at hSw); go_simp)
              try with_reducible rfl
            refine anyT_take (i := 4) (v := ?_) (fun j => decide (j < 20 ∧ j ≠ 1)) (lv_strong) (fun _ h => lv_of (by decide) (by decide) h) rfl (by kernel_rfl) (fun _ _ _ h => h) _ _ _ _ (by kernel_rfl) (by kernel_rfl) (by kernel_rfl) (by kernel_rfl) (Or.inl ⟨by rfl, ?_⟩) (by assumption) ?_
            rotate_left
            · (intro w hSw; (try dsimp only at hSw); go_simp)
              try with_reducible rfl
            refine anyT_take (i := 5) (v := ?_) (fun j => decide (j < 20 ∧ j ≠ 1)) (lv_strong) (fun _ h => lv_of (by decide) (by decide) h) rfl (by kernel_rfl) (fun _ _ _ h => h) _ _ _ _ (by kernel_rfl) (by kernel_rfl) (by kernel_rfl) (by kernel_rfl) (Or.inl ⟨by rfl, ?_⟩) (by assumption) ?_
            rotate_left
            · (intro w hSw; (try dsimp only at hSw); go_simp)
              try with_reducible rfl
            refine anyT_take (i := 6) (v := ?_) (fun j => decide (j < 20 ∧ j ≠ 1)) (lv_strong) (fun _ h => lv_of (by decide) (by decide) h) rfl (by kernel_rfl) (fun _ _ _ h => h) _ _ _ _ (by kernel_rfl) (by kernel_rfl) (by kernel_rfl) (by kernel_rfl) (Or.inl ⟨by rfl, ?_⟩) (by assumption) ?_
            rotate_left
            · (intro w hSw; (try dsimp only at hSw); go_simp)
              try with_reducible rfl
            refine anyT_take (i := 9) (v := ?_) (fun j => decide (j < 20 ∧ j ≠ 1)) (lv_strong) (fun _ h => lv_of (by decide) (by decide) h) rfl (by kernel_rfl) (fun _ _ _ h => h) _ _ _ _ (by kernel_rfl) (by kernel_rfl) (by kernel_rfl) (by kernel_rfl) (Or.inl ⟨by rfl, ?_⟩) (by assumption) ?_
            rotate_left
            · (intro w hSw; (try dsimp only at hSw); go_simp)
              try with_reducible rfl
            refine anyT_take (i := 10) (v := ?_) (fun j => decide (j < 20 ∧ j ≠ 1)) (lv_strong) (fun _ h => lv_of (by decide) (by decide) h) rfl (by kernel_rfl) (fun _ _ _ h => h) _ _ _ _ (by kernel_rfl) (by kernel_rfl) (by kernel_rfl) (by kernel_rfl) (Or.inl ⟨by rfl, ?_⟩) (by assumption) ?_
            rotate_left
            · (intro w hSw; (try dsimp only at hSw); go_simp)
              try with_reducible rfl
            refine anyT_take (i := 11) (v := ?_) (fun j => decide (j < 20 ∧ j ≠ 1)) (lv_strong) (fun _ h => lv_of (by decide) (by decide) h) rfl (by kernel_rfl) (fun _ _ _ h => h) _ _ _ _ (by kernel_rfl) (by kernel_rfl) (by kernel_rfl) (by kernel_rfl) (Or.inl ⟨by rfl, ?_⟩) (by assumption) ?_
            rotate_left
            · (intro w hSw; (try dsimp only at hSw); go_simp)
              try with_reducible rfl
            refine anyT_take (i := 12) (v := ?_) (fun j => decide (j < 20 ∧ j ≠ 1)) (lv_strong) (fun _ h => lv_of (by decide) (by decide) h) rfl (by kernel_rfl) (fun _ _ _ h => h) _ _ _ _ (by kernel_rfl) (by kernel_rfl) (by kernel_rfl) (by kernel_rfl) (Or.inl ⟨by rfl, ?_⟩) (by assumption) ?_
            rotate_left
            · (intro w hSw; (try dsimp only at hSw); go_simp)
              try with_reducible rfl
            refine anyT_take (i := 13) (v := ?_) (fun j => decide (j < 20 ∧ j ≠ 1)) (lv_strong) (fun _ h => lv_of (by decide) (by decide) h) rfl (by kernel_rfl) (fun _ _ _ h => h) _ _ _ _ (by kernel_rfl) (by kernel_rfl) (by kernel_rfl) (by kernel_rfl) (Or.inl ⟨by rfl, ?_⟩) (by assumption) ?_
            rotate_left
            · (intro w hSw; (try dsimp only at hSw); go_simp)
              try with_reducible rfl
            refine anyT_take (i := 14) (v := ?_) (fun j => decide (j < 20 ∧ j ≠ 1)) (lv_strong) (fun _ h => lv_of (by decide) (by decide) h) rfl (by kernel_rfl) (fun _ _ _ h => h) _ _ _ _ (by kernel_rfl) (by kernel_rfl) (by kernel_rfl) (by kernel_rfl) (Or.inl ⟨by rfl, ?_⟩) (by assumption) ?_
            rotate_left
            · (intro w hSw; (try dsimp only at hSw); go_simp)
              try with_reducible rfl
            have o1q := own_fr HI.out.own1 kq fun _ _ e => e
            have o2q := own_fr HI.out.own2 kq fun _ _ e => e
            have hlt0 := fun g e => (HI.out.own1.lt g e).2
            have hszq := kq.size
            refine anyT_ready (rs := [7, 15]) (by kernel_rfl) (by simp) ?_
            intro j hj
            simp only [List.mem_cons, List.not_mem_nil, or_false] at hj
            rcases hj with rfl | rfl
            · refine wpOp_plain rfl rfl ?_
              go_simp
              generalize hV : wq.alloc (.cells #[.int .i64 (-1)] 3 (0, 0)) = w3
              have kw3 : Fr nothing wq w3 := hV ▸ Fr.alloc _ _
              have nXw3 : Cells w3 wq.heap.size 0 [.int .i64 (-1)] := hV ▸ cells_new _ _ _ rfl _ _
              have zw3 := kw3.size
              clear hV
              refine ⟨lv_of (by decide) (by decide) (HS.out w3 (kq.trans kw3).wide), ?_⟩
              try go_simp
              have o1w3 := own_fr o1q kw3 fun _ _ e => e
              have o2w3 := own_fr o2q kw3 fun _ _ e => e
              refine anyT_ready (rs := [8, 15]) (by kernel_rfl) (by simp) ?_
              intro j hj
              simp only [List.mem_cons, List.not_mem_nil, or_false] at hj
              rcases hj with rfl | rfl
              · refine wpOp_plain rfl rfl ?_
                refine wp_append_lies _ _ _ 22 rfl wz.heap.size 3 i0 _ 1 8 Try.underlying22 hi hz0 hz1 hz2 (by rfl) (by decide) (.slice ca c cc) c (List.replicate c (.int .i64 (-1))) (by rfl) o1w3 ⟨wq.heap.size, 0, none⟩ 1 1 [.int .i64 (-1)] (by rfl) (by rfl) (cells_add nXw3) (by simp [Value.oneCell']) (by omega) (by unfold maxLen; omega) (by omega) (by omega) _ rfl ?_
                intro g1 cap1 w4 o1w4 hgrow1 hat1 hlt1
                have kw4 : Fr (fun g => (Value.slice ca c cc).ownBlock = some g) w3 w4 := Fr.grown hgrow1
                have zw4 := kw4.size
                have o2w4 := own_fr o2w3 kw4 fun g hg e => HF.out.2 g e hg
                have sw4 : ∀ g, g1 = g → (Value.slice na c nc).ownBlock = some g → False := fun g e1 e2 => by
                  subst e1
                  rcases hat1 with e | e
                  · exact HF.out.2 _ e e2
                  · have := (o2w3.lt _ e2).2; omega
                refine ⟨lv_of (by decide) (by decide) (HS.out w4 ((kq.trans kw3).wide.trans (kw4.mono fun _ _ e => .inl e))), ?_⟩
                try go_simp
                refine anyT_ready (rs := [15]) (by kernel_rfl) (by simp) ?_
                intro j hj
                obtain rfl := List.mem_singleton.1 hj
                clear hj
                refine wpOp_plain rfl rfl ?_
                go_simp
                generalize hV : w4.alloc (.cells #[.int .u8 0, .int .i64 0] 31 (0, 0)) = w5
                have kw5 : Fr nothing w4 w5 := hV ▸ Fr.alloc _ _
                have nYw5 : Cells w5 w4.heap.size 0 [.int .u8 0, .int .i64 0] := hV ▸ cells_new _ _ _ rfl _ _
                have zw5 := kw5.size
                clear hV
                refine ⟨lv_of (by decide) (by decide) (HS.out w5 (((kq.trans kw3).wide.trans (kw4.mono fun _ _ e => .inl e)).trans kw5.wide)), ?_⟩
                try go_simp
                have o1w5 := own_fr o1w4 kw5 fun _ _ e => e
                have o2w5 := own_fr o2w4 kw5 fun _ _ e => e
                have sS := sw4
                refine anyT_ready (rs := [16]) (by kernel_rfl) (by simp) ?_
                intro j hj
                obtain rfl := List.mem_singleton.1 hj
                clear hj
                refine wpOp_plain rfl rfl ?_
                refine wp_append_lies _ _ _ 23 rfl wz.heap.size 31 j0 _ 2 16 Try.underlying23 hj hy0 hy1 hy2 (by rfl) (by decide) (.slice na c nc) c ((List.replicate c [.int .u8 0, .int .i64 0]).flatten) (by rfl) o2w5 ⟨w4.heap.size, 0, none⟩ 1 1 [.int .u8 0, .int .i64 0] (by rfl) (by rfl) (cells_add nYw5) (by simp [Value.oneCell']) (by omega) (by unfold maxLen; omega) (by omega) (by omega) _ rfl ?_
                intro g2 cap2 w6 o2w6 hgrow2 hat2 hlt2
                have kw6 : Fr (fun g => (Value.slice na c nc).ownBlock = some g) w5 w6 := Fr.grown hgrow2
                have o1w6 := own_fr o1w5 kw6 fun g hg e => sS g (Option.some.inj hg) e
                have sw6 : g1 ≠ g2 := fun e1 => by
                  rcases hat2 with e | e
                  · exact sS _ e1 e
                  · have := (o1w5.lt g1 rfl).2; omega
                have kk : Fr (fun g => (Value.slice ca c cc).ownBlock = some g ∨ (Value.slice na c nc).ownBlock = some g) wr w6 := ((((kq.trans kw3).wide.trans (kw4.mono fun _ _ e => .inl e)).trans kw5.wide).trans (kw6.mono fun _ _ e => .inr e))
                have hS6 := HS.out w6 kk
                refine ⟨lv_of (by decide) (by decide) hS6, ?_⟩
                have pk6 := kk.obj HI.out.pk (HF.out.1 _ hlp)
                have HP6 := Lib.hid pk6
                have O6 := Lib.hid (And.intro o1w6 (And.intro o2w6 (And.intro sw6 kk)))
                have f6 := obj_frozen pk6 1
                have c6 : w6.cell? ⟨pb, 1, none⟩ = some (.slice ca c cc) := obj_cell pk6 1 rfl
                clear pk6 o1w6 o2w6 sw6 kk hgrow1 hgrow2 hat1 hat2
                refine anyT_take (i := 17) (v := ?_) (fun j => decide (j < 20 ∧ j ≠ 1)) (lv_strong) (fun _ h => lv_of (by decide) (by decide) h) rfl (by kernel_rfl) (fun _ _ _ h => h) _ _ _ _ (by kernel_rfl) (by kernel_rfl) (by kernel_rfl) (by kernel_rfl) (Or.inl ⟨by rfl, ?_⟩) hS6 ?_
                rotate_left
                · (intro w hSw; (try dsimp only at hSw); go_simp)
                  try with_reducible rfl
                refine anyT_take (i := 18) (v := ?_) (fun j => decide (j < 20 ∧ j ≠ 1)) (lv_strong) (fun _ h => lv_of (by decide) (by decide) h) rfl (by kernel_rfl) (fun _ _ _ h => h) _ _ _ _ (by kernel_rfl) (by kernel_rfl) (by kernel_rfl) (by kernel_rfl) (Or.inl ⟨by rfl, ?_⟩) hS6 ?_
                rotate_left
                · (intro w hSw; (try dsimp only at hSw); go_simp)
                  try with_reducible rfl
                refine anyT_take (i := 19) (v := ?_) (fun j => decide (j < 20 ∧ j ≠ 1)) (lv_strong) (fun _ h => lv_of (by decide) (by decide) h) rfl (by kernel_rfl) (fun _ _ _ h => h) _ _ _ _ (by kernel_rfl) (by kernel_rfl) (by kernel_rfl) (by kernel_rfl) (Or.inl ⟨by rfl, ?_⟩) hS6 ?_
                rotate_left
                · (intro w hSw; (try dsimp only at hSw); go_simp)
                  try with_reducible rfl
                refine anyT_ready (rs := [20]) (by kernel_rfl) (by simp) ?_
                intro j hj
                obtain rfl := List.mem_singleton.1 hj
                clear hj
                refine wpOp_plain rfl rfl ?_
                go_simp
                generalize hV : w6.setCell ⟨pb, 1, none⟩ (.slice (some ⟨g1, 0, none⟩) (c + 1) cap1) = w7
                have pk7 : w7.heap[pb]? = some (packA bv (.slice (some ⟨g1, 0, none⟩) (c + 1) cap1) (.slice na c nc)) := hV ▸ setCell_obj HP6.out _
                have k7 : Fr (only pb) w6 w7 := hV ▸ Fr.setCell w6 ⟨pb, 1, none⟩ _
                clear hV
                refine ⟨lv_end (k7.cell hS6.1 hne0), ?_⟩
                have f7 := obj_frozen pk7 2
                have c7 : w7.cell? ⟨pb, 2, none⟩ = some (.slice na c nc) := obj_cell pk7 2 rfl
                have HP7 := Lib.hid (And.intro pk7 k7)
                clear pk7 k7 f6 c6 hS6
                refine anyT_ready (rs := [21]) (by kernel_rfl) (by simp) ?_
                intro j hj
                obtain rfl := List.mem_singleton.1 hj
                clear hj
                refine wpOp_plain rfl rfl ?_
                go_simp
                refine ⟨lv_past (by decide) (by decide), ?_⟩
                refine anyT_ready (rs := [22]) (by kernel_rfl) (by simp) ?_
                intro j hj
                obtain rfl := List.mem_singleton.1 hj
                clear hj
                refine wpOp_plain rfl rfl ?_
                go_simp
                refine ⟨lv_past (by decide) (by decide), ?_⟩
                refine anyT_ready (rs := [23]) (by kernel_rfl) (by simp) ?_
                intro j hj
                obtain rfl := List.mem_singleton.1 hj
                clear hj
                refine wpOp_plain rfl rfl ?_
                go_simp
                refine ⟨lv_past (by decide) (by decide), ?_⟩
                refine anyT_ready (rs := [24]) (by kernel_rfl) (by simp) ?_
                intro j hj
                obtain rfl := List.mem_singleton.1 hj
                clear hj
                refine wpOp_plain rfl rfl ?_
                go_simp
                refine ⟨lv_past (by decide) (by decide), by kernel_rfl, ?_⟩
                have pk8 := setCell_obj HP7.out.1 (i := 2) (.slice (some ⟨g2, 0, none⟩) (c + 1) cap2)
                have k8 := Fr.setCell w7 ⟨pb, 2, none⟩ (.slice (some ⟨g2, 0, none⟩) (c + 1) cap2)
                have hl1 : lenAt pb wr = c := by unfold lenAt; rw [obj_cell HI.out.pk 1 rfl]; rfl
                have hl2 : lenAt pb (w7.setCell ⟨pb, 2, none⟩ (.slice (some ⟨g2, 0, none⟩) (c + 1) cap2)) = c + 1 := by unfold lenAt; rw [obj_cell pk8 1 rfl]; rfl
                have hno : ∀ {e size n : Nat} {u : Value} {xs : List Value}, w6.ownsRow wz.heap.size e size u n xs → (w7.setCell ⟨pb, 2, none⟩ (.slice (some ⟨g2, 0, none⟩) (c + 1) cap2)).ownsRow wz.heap.size e size u n xs := fun h => own_fr (own_fr h HP7.out.2 fun g hg e => by have := (h.lt g hg).1; unfold only at e; omega) k8 fun g hg e => by have := (h.lt g hg).1; have e' : g = pb := e; omega
                have r1 : List.replicate (c + 1) (Value.int .i64 (-1)) = List.replicate c (.int .i64 (-1)) ++ [.int .i64 (-1)] := List.replicate_succ'
                have r2 : (List.replicate (c + 1) ([.int .u8 0, .int .i64 0] : List Value)).flatten = (List.replicate c [.int .u8 0, .int .i64 0]).flatten ++ [.int .u8 0, .int .i64 0] := by rw [List.replicate_succ', List.flatten_append]; simp
                have hin' : InA wz (w7.setCell ⟨pb, 2, none⟩ (.slice (some ⟨g2, 0, none⟩) (c + 1) cap2)) pb bv (c + 1) (.slice (some ⟨g1, 0, none⟩) (c + 1) cap1) (.slice (some ⟨g2, 0, none⟩) (c + 1) cap2) :=
                  ⟨pk8, by rw [r1]; exact hno O6.out.1, by rw [r2]; exact hno O6.out.2.1, fun g e1 e2 => O6.out.2.2.1 ((Option.some.inj e1).trans (Option.some.inj e2).symm), ((fr_join HI.out.fr O6.out.2.2.2 fun g hg => Nat.le_of_not_lt fun h => HF.out.1 g h hg).trans HP7.out.2).trans k8⟩
                have HR := Lib.hid hin'
                clear pk8 k8 hno r1 r2 hin' f7 c7
                try go_wp2
                go_roundw
                case rel => exact ⟨c + 1, _, _, by omega, HR.out⟩
                case measure => rw [hl2, hl1]; omega
              · refine wpOp_plain rfl rfl ?_
                go_simp
                generalize hV : w3.alloc (.cells #[.int .u8 0, .int .i64 0] 31 (0, 0)) = w4
                have kw4 : Fr nothing w3 w4 := hV ▸ Fr.alloc _ _
                have nYw4 : Cells w4 w3.heap.size 0 [.int .u8 0, .int .i64 0] := hV ▸ cells_new _ _ _ rfl _ _
                have zw4 := kw4.size
                clear hV
                refine ⟨lv_of (by decide) (by decide) (HS.out w4 ((kq.trans kw3).trans kw4).wide), ?_⟩
                try go_simp
                have o1w4 := own_fr o1w3 kw4 fun _ _ e => e
                have o2w4 := own_fr o2w3 kw4 fun _ _ e => e
                have nXw4 := nXw3.fr kw4 fun e => e
                refine anyT_ready (rs := [8]) (by kernel_rfl) (by simp) ?_
                intro j hj
                obtain rfl := List.mem_singleton.1 hj
                clear hj
                refine wpOp_plain rfl rfl ?_
                refine wp_append_lies _ _ _ 22 rfl wz.heap.size 3 i0 _ 1 8 Try.underlying22 hi hz0 hz1 hz2 (by rfl) (by decide) (.slice ca c cc) c (List.replicate c (.int .i64 (-1))) (by rfl) o1w4 ⟨wq.heap.size, 0, none⟩ 1 1 [.int .i64 (-1)] (by rfl) (by rfl) (cells_add nXw4) (by simp [Value.oneCell']) (by omega) (by unfold maxLen; omega) (by omega) (by omega) _ rfl ?_
                intro g1 cap1 w5 o1w5 hgrow1 hat1 hlt1
                have kw5 : Fr (fun g => (Value.slice ca c cc).ownBlock = some g) w4 w5 := Fr.grown hgrow1
                have zw5 := kw5.size
                have o2w5 := own_fr o2w4 kw5 fun g hg e => HF.out.2 g e hg
                have sw5 : ∀ g, g1 = g → (Value.slice na c nc).ownBlock = some g → False := fun g e1 e2 => by
                  subst e1
                  rcases hat1 with e | e
                  · exact HF.out.2 _ e e2
                  · have := (o2w4.lt _ e2).2; omega
                refine ⟨lv_of (by decide) (by decide) (HS.out w5 (((kq.trans kw3).trans kw4).wide.trans (kw5.mono fun _ _ e => .inl e))), ?_⟩
                try go_simp
                have nYw5 := nYw4.fr kw5 fun e => by have := hlt0 _ e; omega
                have sS := sw5
                refine anyT_ready (rs := [16]) (by kernel_rfl) (by simp) ?_
                intro j hj
                obtain rfl := List.mem_singleton.1 hj
                clear hj
                refine wpOp_plain rfl rfl ?_
                refine wp_append_lies _ _ _ 23 rfl wz.heap.size 31 j0 _ 2 16 Try.underlying23 hj hy0 hy1 hy2 (by rfl) (by decide) (.slice na c nc) c ((List.replicate c [.int .u8 0, .int .i64 0]).flatten) (by rfl) o2w5 ⟨w3.heap.size, 0, none⟩ 1 1 [.int .u8 0, .int .i64 0] (by rfl) (by rfl) (cells_add nYw5) (by simp [Value.oneCell']) (by omega) (by unfold maxLen; omega) (by omega) (by omega) _ rfl ?_
                intro g2 cap2 w6 o2w6 hgrow2 hat2 hlt2
                have kw6 : Fr (fun g => (Value.slice na c nc).ownBlock = some g) w5 w6 := Fr.grown hgrow2
                have o1w6 := own_fr o1w5 kw6 fun g hg e => sS g (Option.some.inj hg) e
                have sw6 : g1 ≠ g2 := fun e1 => by
                  rcases hat2 with e | e
                  · exact sS _ e1 e
                  · have := (o1w5.lt g1 rfl).2; omega
                have kk : Fr (fun g => (Value.slice ca c cc).ownBlock = some g ∨ (Value.slice na c nc).ownBlock = some g) wr w6 := ((((kq.trans kw3).trans kw4).wide.trans (kw5.mono fun _ _ e => .inl e)).trans (kw6.mono fun _ _ e => .inr e))
                have hS6 := HS.out w6 kk
                refine ⟨lv_of (by decide) (by decide) hS6, ?_⟩
                have pk6 := kk.obj HI.out.pk (HF.out.1 _ hlp)
                have HP6 := Lib.hid pk6
                have O6 := Lib.hid (And.intro o1w6 (And.intro o2w6 (And.intro sw6 kk)))
                have f6 := obj_frozen pk6 1
                have c6 : w6.cell? ⟨pb, 1, none⟩ = some (.slice ca c cc) := obj_cell pk6 1 rfl
                clear pk6 o1w6 o2w6 sw6 kk hgrow1 hgrow2 hat1 hat2
                refine anyT_take (i := 17) (v := ?_) (fun j => decide (j < 20 ∧ j ≠ 1)) (lv_strong) (fun _ h => lv_of (by decide) (by decide) h) rfl (by kernel_rfl) (fun _ _ _ h => h) _ _ _ _ (by kernel_rfl) (by kernel_rfl) (by kernel_rfl) (by kernel_rfl) (Or.inl ⟨by rfl, ?_⟩) hS6 ?_
                rotate_left
                · (intro w hSw; (try dsimp only at hSw); go_simp)
                  try with_reducible rfl
                refine anyT_take (i := 18) (v := ?_) (fun j => decide (j < 20 ∧ j ≠ 1)) (lv_strong) (fun _ h => lv_of (by decide) (by decide) h) rfl (by kernel_rfl) (fun _ _ _ h => h) _ _ _ _ (by kernel_rfl) (by kernel_rfl) (by kernel_rfl) (by kernel_rfl) (Or.inl ⟨by rfl, ?_⟩) hS6 ?_
                rotate_left
                · (intro w hSw; (try dsimp only at hSw); go_simp)
                  try with_reducible rfl
                refine anyT_take (i := 19) (v := ?_) (fun j => decide (j < 20 ∧ j ≠ 1)) (lv_strong) (fun _ h => lv_of (by decide) (by decide) h) rfl (by kernel_rfl) (fun _ _ _ h => h) _ _ _ _ (by kernel_rfl) (by kernel_rfl) (by kernel_rfl) (by kernel_rfl) (Or.inl ⟨by rfl, ?_⟩) hS6 ?_
                rotate_left
                · (intro w hSw; (try dsimp only at hSw); go_simp)
                  try with_reducible rfl
                refine anyT_ready (rs := [20]) (by kernel_rfl) (by simp) ?_
                intro j hj
                obtain rfl := List.mem_singleton.1 hj
                clear hj
                refine wpOp_plain rfl rfl ?_
                go_simp
                generalize hV : w6.setCell ⟨pb, 1, none⟩ (.slice (some ⟨g1, 0, none⟩) (c + 1) cap1) = w7
                have pk7 : w7.heap[pb]? = some (packA bv (.slice (some ⟨g1, 0, none⟩) (c + 1) cap1) (.slice na c nc)) := hV ▸ setCell_obj HP6.out _
                have k7 : Fr (only pb) w6 w7 := hV ▸ Fr.setCell w6 ⟨pb, 1, none⟩ _
                clear hV
                refine ⟨lv_end (k7.cell hS6.1 hne0), ?_⟩
                have f7 := obj_frozen pk7 2
                have c7 : w7.cell? ⟨pb, 2, none⟩ = some (.slice na c nc) := obj_cell pk7 2 rfl
                have HP7 := Lib.hid (And.intro pk7 k7)
                clear pk7 k7 f6 c6 hS6
                refine anyT_ready (rs := [21]) (by kernel_rfl) (by simp) ?_
                intro j hj
                obtain rfl := List.mem_singleton.1 hj
                clear hj
                refine wpOp_plain rfl rfl ?_
                go_simp
                refine ⟨lv_past (by decide) (by decide), ?_⟩
                refine anyT_ready (rs := [22]) (by kernel_rfl) (by simp) ?_
                intro j hj
                obtain rfl := List.mem_singleton.1 hj
                clear hj
                refine wpOp_plain rfl rfl ?_
                go_simp
                refine ⟨lv_past (by decide) (by decide), ?_⟩
                refine anyT_ready (rs := [23]) (by kernel_rfl) (by simp) ?_
                intro j hj
                obtain rfl := List.mem_singleton.1 hj
                clear hj
                refine wpOp_plain rfl rfl ?_
                go_simp
                refine ⟨lv_past (by decide) (by decide), ?_⟩
                refine anyT_ready (rs := [24]) (by kernel_rfl) (by simp) ?_
                intro j hj
                obtain rfl := List.mem_singleton.1 hj
                clear hj
                refine wpOp_plain rfl rfl ?_
                go_simp
                refine ⟨lv_past (by decide) (by decide), by kernel_rfl, ?_⟩
                have pk8 := setCell_obj HP7.out.1 (i := 2) (.slice (some ⟨g2, 0, none⟩) (c + 1) cap2)
                have k8 := Fr.setCell w7 ⟨pb, 2, none⟩ (.slice (some ⟨g2, 0, none⟩) (c + 1) cap2)
                have hl1 : lenAt pb wr = c := by unfold lenAt; rw [obj_cell HI.out.pk 1 rfl]; rfl
                have hl2 : lenAt pb (w7.setCell ⟨pb, 2, none⟩ (.slice (some ⟨g2, 0, none⟩) (c + 1) cap2)) = c + 1 := by unfold lenAt; rw [obj_cell pk8 1 rfl]; rfl
                have hno : ∀ {e size n : Nat} {u : Value} {xs : List Value}, w6.ownsRow wz.heap.size e size u n xs → (w7.setCell ⟨pb, 2, none⟩ (.slice (some ⟨g2, 0, none⟩) (c + 1) cap2)).ownsRow wz.heap.size e size u n xs := fun h => own_fr (own_fr h HP7.out.2 fun g hg e => by have := (h.lt g hg).1; unfold only at e; omega) k8 fun g hg e => by have := (h.lt g hg).1; have e' : g = pb := e; omega
                have r1 : List.replicate (c + 1) (Value.int .i64 (-1)) = List.replicate c (.int .i64 (-1)) ++ [.int .i64 (-1)] := List.replicate_succ'
                have r2 : (List.replicate (c + 1) ([.int .u8 0, .int .i64 0] : List Value)).flatten = (List.replicate c [.int .u8 0, .int .i64 0]).flatten ++ [.int .u8 0, .int .i64 0] := by rw [List.replicate_succ', List.flatten_append]; simp
                have hin' : InA wz (w7.setCell ⟨pb, 2, none⟩ (.slice (some ⟨g2, 0, none⟩) (c + 1) cap2)) pb bv (c + 1) (.slice (some ⟨g1, 0, none⟩) (c + 1) cap1) (.slice (some ⟨g2, 0, none⟩) (c + 1) cap2) :=
                  ⟨pk8, by rw [r1]; exact hno O6.out.1, by rw [r2]; exact hno O6.out.2.1, fun g e1 e2 => O6.out.2.2.1 ((Option.some.inj e1).trans (Option.some.inj e2).symm), ((fr_join HI.out.fr O6.out.2.2.2 fun g hg => Nat.le_of_not_lt fun h => HF.out.1 g h hg).trans HP7.out.2).trans k8⟩
                have HR := Lib.hid hin'
                clear pk8 k8 hno r1 r2 hin' f7 c7
                try go_wp2
                go_roundw
                case rel => exact ⟨c + 1, _, _, by omega, HR.out⟩
                case measure => rw [hl2, hl1]; omega
            · refine wpOp_plain rfl rfl ?_
              go_simp
              generalize hV : wq.alloc (.cells #[.int .u8 0, .int .i64 0] 31 (0, 0)) = w3
              have kw3 : Fr nothing wq w3 := hV ▸ Fr.alloc _ _
              have nYw3 : Cells w3 wq.heap.size 0 [.int .u8 0, .int .i64 0] := hV ▸ cells_new _ _ _ rfl _ _
              have zw3 := kw3.size
              clear hV
              refine ⟨lv_of (by decide) (by decide) (HS.out w3 (kq.trans kw3).wide), ?_⟩
              try go_simp
              refine anyT_ready (rs := [7]) (by kernel_rfl) (by simp) ?_
              intro j hj
              obtain rfl := List.mem_singleton.1 hj
              clear hj
              refine wpOp_plain rfl rfl ?_
              go_simp
              generalize hV : w3.alloc (.cells #[.int .i64 (-1)] 3 (0, 0)) = w4
              have kw4 : Fr nothing w3 w4 := hV ▸ Fr.alloc _ _
              have nXw4 : Cells w4 w3.heap.size 0 [.int .i64 (-1)] := hV ▸ cells_new _ _ _ rfl _ _
              have zw4 := kw4.size
              clear hV
              refine ⟨lv_of (by decide) (by decide) (HS.out w4 ((kq.trans kw3).trans kw4).wide), ?_⟩
              try go_simp
              have o1w4 := own_fr (own_fr o1q kw3 fun _ _ e => e) kw4 fun _ _ e => e
              have o2w4 := own_fr (own_fr o2q kw3 fun _ _ e => e) kw4 fun _ _ e => e
              have nYw4 := nYw3.fr kw4 fun e => e
              refine anyT_ready (rs := [8]) (by kernel_rfl) (by simp) ?_
              intro j hj
              obtain rfl := List.mem_singleton.1 hj
              clear hj
              refine wpOp_plain rfl rfl ?_
              refine wp_append_lies _ _ _ 22 rfl wz.heap.size 3 i0 _ 1 8 Try.underlying22 hi hz0 hz1 hz2 (by rfl) (by decide) (.slice ca c cc) c (List.replicate c (.int .i64 (-1))) (by rfl) o1w4 ⟨w3.heap.size, 0, none⟩ 1 1 [.int .i64 (-1)] (by rfl) (by rfl) (cells_add nXw4) (by simp [Value.oneCell']) (by omega) (by unfold maxLen; omega) (by omega) (by omega) _ rfl ?_
              intro g1 cap1 w5 o1w5 hgrow1 hat1 hlt1
              have kw5 : Fr (fun g => (Value.slice ca c cc).ownBlock = some g) w4 w5 := Fr.grown hgrow1
              have zw5 := kw5.size
              have o2w5 := own_fr o2w4 kw5 fun g hg e => HF.out.2 g e hg
              have sw5 : ∀ g, g1 = g → (Value.slice na c nc).ownBlock = some g → False := fun g e1 e2 => by
                subst e1
                rcases hat1 with e | e
                · exact HF.out.2 _ e e2
                · have := (o2w4.lt _ e2).2; omega
              refine ⟨lv_of (by decide) (by decide) (HS.out w5 (((kq.trans kw3).trans kw4).wide.trans (kw5.mono fun _ _ e => .inl e))), ?_⟩
              try go_simp
              have nYw5 := nYw4.fr kw5 fun e => by have := hlt0 _ e; omega
              have sS := sw5
              refine anyT_ready (rs := [16]) (by kernel_rfl) (by simp) ?_
              intro j hj
              obtain rfl := List.mem_singleton.1 hj
              clear hj
              refine wpOp_plain rfl rfl ?_
              refine wp_append_lies _ _ _ 23 rfl wz.heap.size 31 j0 _ 2 16 Try.underlying23 hj hy0 hy1 hy2 (by rfl) (by decide) (.slice na c nc) c ((List.replicate c [.int .u8 0, .int .i64 0]).flatten) (by rfl) o2w5 ⟨wq.heap.size, 0, none⟩ 1 1 [.int .u8 0, .int .i64 0] (by rfl) (by rfl) (cells_add nYw5) (by simp [Value.oneCell']) (by omega) (by unfold maxLen; omega) (by omega) (by omega) _ rfl ?_
              intro g2 cap2 w6 o2w6 hgrow2 hat2 hlt2
              have kw6 : Fr (fun g => (Value.slice na c nc).ownBlock = some g) w5 w6 := Fr.grown hgrow2
              have o1w6 := own_fr o1w5 kw6 fun g hg e => sS g (Option.some.inj hg) e
              have sw6 : g1 ≠ g2 := fun e1 => by
                rcases hat2 with e | e
                · exact sS _ e1 e
                · have := (o1w5.lt g1 rfl).2; omega
              have kk : Fr (fun g => (Value.slice ca c cc).ownBlock = some g ∨ (Value.slice na c nc).ownBlock = some g) wr w6 := ((((kq.trans kw3).trans kw4).wide.trans (kw5.mono fun _ _ e => .inl e)).trans (kw6.mono fun _ _ e => .inr e))
              have hS6 := HS.out w6 kk
              refine ⟨lv_of (by decide) (by decide) hS6, ?_⟩
              have pk6 := kk.obj HI.out.pk (HF.out.1 _ hlp)
              have HP6 := Lib.hid pk6
              have O6 := Lib.hid (And.intro o1w6 (And.intro o2w6 (And.intro sw6 kk)))
              have f6 := obj_frozen pk6 1
              have c6 : w6.cell? ⟨pb, 1, none⟩ = some (.slice ca c cc) := obj_cell pk6 1 rfl
              clear pk6 o1w6 o2w6 sw6 kk hgrow1 hgrow2 hat1 hat2
              refine anyT_take (i := 17) (v := ?_) (fun j => decide (j < 20 ∧ j ≠ 1)) (lv_strong) (fun _ h => lv_of (by decide) (by decide) h) rfl (by kernel_rfl) (fun _ _ _ h => h) _ _ _ _ (by kernel_rfl) (by kernel_rfl) (by kernel_rfl) (by kernel_rfl) (Or.inl ⟨by rfl, ?_⟩) hS6 ?_
              rotate_left
              · (intro w hSw; (try dsimp only at hSw); go_simp)
                try with_reducible rfl
              refine anyT_take (i := 18) (v := ?_) (fun j => decide (j < 20 ∧ j ≠ 1)) (lv_strong) (fun _ h => lv_of (by decide) (by decide) h) rfl (by kernel_rfl) (fun _ _ _ h => h) _ _ _ _ (by kernel_rfl) (by kernel_rfl) (by kernel_rfl) (by kernel_rfl) (Or.inl ⟨by rfl, ?_⟩) hS6 ?_
              rotate_left
              · (intro w hSw; (try dsimp only at hSw); go_simp)
                try with_reducible rfl
              refine anyT_take (i := 19) (v := ?_) (fun j => decide (j < 20 ∧ j ≠ 1)) (lv_strong) (fun _ h => lv_of (by decide) (by decide) h) rfl (by kernel_rfl) (fun _ _ _ h => h) _ _ _ _ (by kernel_rfl) (by kernel_rfl) (by kernel_rfl) (by kernel_rfl) (Or.inl ⟨by rfl, ?_⟩) hS6 ?_
              rotate_left
              · (intro w hSw; (try dsimp only at hSw); go_simp)
                try with_reducible rfl
              refine anyT_ready (rs := [20]) (by kernel_rfl) (by simp) ?_
              intro j hj
              obtain rfl := List.mem_singleton.1 hj
              clear hj
              refine wpOp_plain rfl rfl ?_
              go_simp
              generalize hV : w6.setCell ⟨pb, 1, none⟩ (.slice (some ⟨g1, 0, none⟩) (c + 1) cap1) = w7
              have pk7 : w7.heap[pb]? = some (packA bv (.slice (some ⟨g1, 0, none⟩) (c + 1) cap1) (.slice na c nc)) := hV ▸ setCell_obj HP6.out _
              have k7 : Fr (only pb) w6 w7 := hV ▸ Fr.setCell w6 ⟨pb, 1, none⟩ _
              clear hV
              refine ⟨lv_end (k7.cell hS6.1 hne0), ?_⟩
              have f7 := obj_frozen pk7 2
              have c7 : w7.cell? ⟨pb, 2, none⟩ = some (.slice na c nc) := obj_cell pk7 2 rfl
              have HP7 := Lib.hid (And.intro pk7 k7)
              clear pk7 k7 f6 c6 hS6
              refine anyT_ready (rs := [21]) (by kernel_rfl) (by simp) ?_
              intro j hj
              obtain rfl := List.mem_singleton.1 hj
              clear hj
              refine wpOp_plain rfl rfl ?_
              go_simp
              refine ⟨lv_past (by decide) (by decide), ?_⟩
              refine anyT_ready (rs := [22]) (by kernel_rfl) (by simp) ?_
              intro j hj
              obtain rfl := List.mem_singleton.1 hj
              clear hj
              refine wpOp_plain rfl rfl ?_
              go_simp
              refine ⟨lv_past (by decide) (by decide), ?_⟩
              refine anyT_ready (rs := [23]) (by kernel_rfl) (by simp) ?_
              intro j hj
              obtain rfl := List.mem_singleton.1 hj
              clear hj
              refine wpOp_plain rfl rfl ?_
              go_simp
              refine ⟨lv_past (by decide) (by decide), ?_⟩
              refine anyT_ready (rs := [24]) (by kernel_rfl) (by simp) ?_
              intro j hj
              obtain rfl := List.mem_singleton.1 hj
              clear hj
              refine wpOp_plain rfl rfl ?_
              go_simp
              refine ⟨lv_past (by decide) (by decide), by kernel_rfl, ?_⟩
              have pk8 := setCell_obj HP7.out.1 (i := 2) (.slice (some ⟨g2, 0, none⟩) (c + 1) cap2)
              have k8 := Fr.setCell w7 ⟨pb, 2, none⟩ (.slice (some ⟨g2, 0, none⟩) (c + 1) cap2)
              have hl1 : lenAt pb wr = c := by unfold lenAt; rw [obj_cell HI.out.pk 1 rfl]; rfl
              have hl2 : lenAt pb (w7.setCell ⟨pb, 2, none⟩ (.slice (some ⟨g2, 0, none⟩) (c + 1) cap2)) = c + 1 := by unfold lenAt; rw [obj_cell pk8 1 rfl]; rfl
              have hno : ∀ {e size n : Nat} {u : Value} {xs : List Value}, w6.ownsRow wz.heap.size e size u n xs → (w7.setCell ⟨pb, 2, none⟩ (.slice (some ⟨g2, 0, none⟩) (c + 1) cap2)).ownsRow wz.heap.size e size u n xs := fun h => own_fr (own_fr h HP7.out.2 fun g hg e => by have := (h.lt g hg).1; unfold only at e; omega) k8 fun g hg e => by have := (h.lt g hg).1; have e' : g = pb := e; omega
              have r1 : List.replicate (c + 1) (Value.int .i64 (-1)) = List.replicate c (.int .i64 (-1)) ++ [.int .i64 (-1)] := List.replicate_succ'
              have r2 : (List.replicate (c + 1) ([.int .u8 0, .int .i64 0] : List Value)).flatten = (List.replicate c [.int .u8 0, .int .i64 0]).flatten ++ [.int .u8 0, .int .i64 0] := by rw [List.replicate_succ', List.flatten_append]; simp
              have hin' : InA wz (w7.setCell ⟨pb, 2, none⟩ (.slice (some ⟨g2, 0, none⟩) (c + 1) cap2)) pb bv (c + 1) (.slice (some ⟨g1, 0, none⟩) (c + 1) cap1) (.slice (some ⟨g2, 0, none⟩) (c + 1) cap2) :=
                ⟨pk8, by rw [r1]; exact hno O6.out.1, by rw [r2]; exact hno O6.out.2.1, fun g e1 e2 => O6.out.2.2.1 ((Option.some.inj e1).trans (Option.some.inj e2).symm), ((fr_join HI.out.fr O6.out.2.2.2 fun g hg => Nat.le_of_not_lt fun h => HF.out.1 g h hg).trans HP7.out.2).trans k8⟩
              have HR := Lib.hid hin'
              clear pk8 k8 hno r1 r2 hin' f7 c7
              try go_wp2
              go_roundw
              case rel => exact ⟨c + 1, _, _, by omega, HR.out⟩
              case measure => rw [hl2, hl1]; omega
          · obtain rfl : c = 2 + 1 := by omega
            obtain ⟨m1, cap1, he1, hb1, _⟩ := hin.own1.form (by omega)
            obtain ⟨m2, cap2, he2, hb2, _⟩ := hin.own2.form (by omega)
            simp only [Value.slice.injEq] at he1 he2
            obtain ⟨rfl, -, rfl⟩ := he1
            obtain ⟨rfl, -, rfl⟩ := he2
            have t1 : decide (((2 + 1 : Nat) : Int) ≤ 2) = false := by decide
            have hrow := HO.out.2.2.2.1
            have hro : ∀ i u, w1.cell? ⟨rb, i, none⟩ = some u → wr.cell? ⟨rb, i, none⟩ = some u := fun i u h => hin.fr.cell (HZ.out.1.cell (HC.out.2.2.cell (HF2.out.cell h fun e => e) hrp) fun e => e) hrp
            have x0 : wr.cell? ⟨rb, 4, none⟩ = some (.int .u8 0) := hro _ _ (by simpa using hrow 4 (by simp))
            have x1 : wr.cell? ⟨rb, 5, none⟩ = some (.int .i64 0) := hro _ _ (by simpa using hrow 5 (by simp))
            go_upto_region 13 with fail
            obtain ⟨wq, hq⟩ : ∃ wq, wq = wr.drew := ⟨_, rfl⟩
            have kq : Fr nothing wr wq := by rw [hq]; exact Fr.drew _
            have hS0 : (fun W : World => W.cell? ⟨w.heap.size, 0, none⟩ = some (.pointer (some ⟨pb, 0, none⟩)) ∧ W.cell? ⟨pb, 1, none⟩ = some (.slice (some ⟨m1, 0, none⟩) (2 + 1) cc) ∧ W.cell? ⟨pb, 2, none⟩ = some (.slice (some ⟨m2, 0, none⟩) (2 + 1) nc) ∧ W.cell? ⟨rb, 4, none⟩ = some (.int .u8 0) ∧ W.cell? ⟨rb, 5, none⟩ = some (.int .i64 0)) wq := ⟨kq.cell g0 fun e => e, kq.cell g1 fun e => e, kq.cell g2 fun e => e, kq.cell x0 fun e => e, kq.cell x1 fun e => e⟩
            dsimp only at hS0
            have HI := Lib.hid hin
            clear hin g0 g1 g2 hro hrow t1 x0 x1 y0 y1
            refine wp_region_anyT (fun j W => j < 22 → j ≠ 13 → j ≠ 14 → j ≠ 15 → W.cell? ⟨w.heap.size, 0, none⟩ = some (.pointer (some ⟨pb, 0, none⟩)) ∧ W.cell? ⟨pb, 1, none⟩ = some (.slice (some ⟨m1, 0, none⟩) (2 + 1) cc) ∧ W.cell? ⟨pb, 2, none⟩ = some (.slice (some ⟨m2, 0, none⟩) (2 + 1) nc) ∧ W.cell? ⟨rb, 4, none⟩ = some (.int .u8 0) ∧ W.cell? ⟨rb, 5, none⟩ = some (.int .i64 0)) (by kernel_rfl) ?_
            rw [← hq]
            clear hq
            refine anyT_take (i := 13) (v := ?_) (fun _ => true) ((fun _ _ _ _ => trivial : ∀ j w, true = true → _ → (fun _ : World => True) w)) (fun _ _ _ h _ _ => absurd rfl h) rfl (by kernel_rfl) (fun _ _ _ h => h) _ _ _ _ (by kernel_rfl) (by kernel_rfl) (by kernel_rfl) (by kernel_rfl) (Or.inl ⟨by rfl, ?_⟩) trivial ?_
            rotate_left
            · (intro w hSw; (try dsimp only at hSw); go_simp)
              try with_reducible rfl
            refine anyT_take (i := 14) (v := ?_) (fun _ => true) ((fun _ _ _ _ => trivial : ∀ j w, true = true → _ → (fun _ : World => True) w)) (fun _ _ _ _ h _ => absurd rfl h) rfl (by kernel_rfl) (fun _ _ _ h => h) _ _ _ _ (by kernel_rfl) (by kernel_rfl) (by kernel_rfl) (by kernel_rfl) (Or.inl ⟨by rfl, ?_⟩) trivial ?_
            rotate_left
            · (intro w hSw; (try dsimp only at hSw); go_simp)
              try with_reducible rfl
            refine anyT_take (i := 15) (v := ?_) (fun _ => true) ((fun _ _ _ _ => trivial : ∀ j w, true = true → _ → (fun _ : World => True) w)) (fun _ _ _ _ _ h => absurd rfl h) rfl (by kernel_rfl) (fun _ _ _ h => h) _ _ _ _ (by kernel_rfl) (by kernel_rfl) (by kernel_rfl) (by kernel_rfl) (Or.inl ⟨by rfl, ?_⟩) trivial ?_
            rotate_left
            · (intro w hSw; (try dsimp only at hSw); go_simp)
              try with_reducible rfl
            refine anyT_take (i := 0) (v := ?_) (fun j => decide (j < 22 ∧ j ≠ 13 ∧ j ≠ 14 ∧ j ≠ 15)) (fun j w h k => k (of_decide_eq_true h).1 (of_decide_eq_true h).2.1 (of_decide_eq_true h).2.2.1 (of_decide_eq_true h).2.2.2) (fun w h _ _ _ _ => h) rfl (by kernel_rfl) (fun _ _ _ h => h) _ _ _ _ (by kernel_rfl) (by kernel_rfl) (by kernel_rfl) (by kernel_rfl) (Or.inl ⟨by rfl, ?_⟩) (by assumption) ?_
            rotate_left
            · (intro w hSw; (try dsimp only at hSw); go_simp)
              try with_reducible rfl
            refine anyT_take (i := 1) (v := ?_) (fun j => decide (j < 22 ∧ j ≠ 13 ∧ j ≠ 14 ∧ j ≠ 15)) (fun j w h k => k (of_decide_eq_true h).1 (of_decide_eq_true h).2.1 (of_decide_eq_true h).2.2.1 (of_decide_eq_true h).2.2.2) (fun w h _ _ _ _ => h) rfl (by kernel_rfl) (fun _ _ _ h => h) _ _ _ _ (by kernel_rfl) (by kernel_rfl) (by kernel_rfl) (by kernel_rfl) (Or.inl ⟨by rfl, ?_⟩) (by assumption) ?_
            rotate_left
            · (intro w hSw; (try dsimp only at hSw); go_simp)
              try with_reducible rfl
            refine anyT_take (i := 2) (v := ?_) (fun j => decide (j < 22 ∧ j ≠ 13 ∧ j ≠ 14 ∧ j ≠ 15)) (fun j w h k => k (of_decide_eq_true h).1 (of_decide_eq_true h).2.1 (of_decide_eq_true h).2.2.1 (of_decide_eq_true h).2.2.2) (fun w h _ _ _ _ => h) rfl (by kernel_rfl) (fun _ _ _ h => h) _ _ _ _ (by kernel_rfl) (by kernel_rfl) (by kernel_rfl) (by kernel_rfl) (Or.inl ⟨by rfl, ?_⟩) (by assumption) ?_
            rotate_left
            · (intro w hSw; (try dsimp only at hSw); go_simp)
              try with_reducible rfl
            refine anyT_take (i := 3) (v := ?_) (fun j => decide (j < 22 ∧ j ≠ 13 ∧ j ≠ 14 ∧ j ≠ 15)) (fun j w h k => k (of_decide_eq_true h).1 (of_decide_eq_true h).2.1 (of_decide_eq_true h).2.2.1 (of_decide_eq_true h).2.2.2) (fun w h _ _ _ _ => h) rfl (by kernel_rfl) (fun _ _ _ h => h) _ _ _ _ (by kernel_rfl) (by kernel_rfl) (by kernel_rfl) (by kernel_rfl) (Or.inl ⟨by rfl, ?_⟩) (by assumption) ?_
            rotate_left
            · (intro w hSw; (try dsimp only at hSw); go_simp)
              try with_reducible rfl
            refine anyT_take (i := 4) (v := ?_) (fun j => decide (j < 22 ∧ j ≠ 13 ∧ j ≠ 14 ∧ j ≠ 15)) (fun j w h k => k (of_decide_eq_true h).1 (of_decide_eq_true h).2.1 (of_decide_eq_true h).2.2.1 (of_decide_eq_true h).2.2.2) (fun w h _ _ _ _ => h) rfl (by kernel_rfl) (fun _ _ _ h => h) _ _ _ _ (by kernel_rfl) (by kernel_rfl) (by kernel_rfl) (by kernel_rfl) (Or.inl ⟨by rfl, ?_⟩) (by assumption) ?_
            rotate_left
            · (intro w hSw; (try dsimp only at hSw); go_simp)
              try with_reducible rfl
            refine anyT_take (i := 5) (v := ?_) (fun j => decide (j < 22 ∧ j ≠ 13 ∧ j ≠ 14 ∧ j ≠ 15)) (fun j w h k => k (of_decide_eq_true h).1 (of_decide_eq_true h).2.1 (of_decide_eq_true h).2.2.1 (of_decide_eq_true h).2.2.2) (fun w h _ _ _ _ => h) rfl (by kernel_rfl) (fun _ _ _ h => h) _ _ _ _ (by kernel_rfl) (by kernel_rfl) (by kernel_rfl) (by kernel_rfl) (Or.inl ⟨by rfl, ?_⟩) (by assumption) ?_
            rotate_left
            · (intro w hSw; (try dsimp only at hSw); go_simp)
              try with_reducible rfl
            refine anyT_take (i := 6) (v := ?_) (fun j => decide (j < 22 ∧ j ≠ 13 ∧ j ≠ 14 ∧ j ≠ 15)) (fun j w h k => k (of_decide_eq_true h).1 (of_decide_eq_true h).2.1 (of_decide_eq_true h).2.2.1 (of_decide_eq_true h).2.2.2) (fun w h _ _ _ _ => h) rfl (by kernel_rfl) (fun _ _ _ h => h) _ _ _ _ (by kernel_rfl) (by kernel_rfl) (by kernel_rfl) (by kernel_rfl) (Or.inl ⟨by rfl, ?_⟩) (by assumption) ?_
            rotate_left
            · (intro w hSw; (try dsimp only at hSw); go_simp)
              try with_reducible rfl
            refine anyT_take (i := 7) (v := ?_) (fun j => decide (j < 22 ∧ j ≠ 13 ∧ j ≠ 14 ∧ j ≠ 15)) (fun j w h k => k (of_decide_eq_true h).1 (of_decide_eq_true h).2.1 (of_decide_eq_true h).2.2.1 (of_decide_eq_true h).2.2.2) (fun w h _ _ _ _ => h) rfl (by kernel_rfl) (fun _ _ _ h => h) _ _ _ _ (by kernel_rfl) (by kernel_rfl) (by kernel_rfl) (by kernel_rfl) (Or.inl ⟨by rfl, ?_⟩) (by assumption) ?_
            rotate_left
            · (intro w hSw; (try dsimp only at hSw); go_simp)
              try with_reducible rfl
            refine anyT_take (i := 8) (v := ?_) (fun j => decide (j < 22 ∧ j ≠ 13 ∧ j ≠ 14 ∧ j ≠ 15)) (fun j w h k => k (of_decide_eq_true h).1 (of_decide_eq_true h).2.1 (of_decide_eq_true h).2.2.1 (of_decide_eq_true h).2.2.2) (fun w h _ _ _ _ => h) rfl (by kernel_rfl) (fun _ _ _ h => h) _ _ _ _ (by kernel_rfl) (by kernel_rfl) (by kernel_rfl) (by kernel_rfl) (Or.inl ⟨by rfl, ?_⟩) (by assumption) ?_
            rotate_left
            · (intro w hSw; (try dsimp only at hSw); go_simp)
              try with_reducible rfl
            refine anyT_take (i := 9) (v := ?_) (fun j => decide (j < 22 ∧ j ≠ 13 ∧ j ≠ 14 ∧ j ≠ 15)) (fun j w h k => k (of_decide_eq_true h).1 (of_decide_eq_true h).2.1 (of_decide_eq_true h).2.2.1 (of_decide_eq_true h).2.2.2) (fun w h _ _ _ _ => h) rfl (by kernel_rfl) (fun _ _ _ h => h) _ _ _ _ (by kernel_rfl) (by kernel_rfl) (by kernel_rfl) (by kernel_rfl) (Or.inl ⟨by rfl, ?_⟩) (by assumption) ?_
            rotate_left
            · (intro w hSw; (try dsimp only at hSw); go_simp)
              try with_reducible rfl
            refine anyT_take (i := 10) (v := ?_) (fun j => decide (j < 22 ∧ j ≠ 13 ∧ j ≠ 14 ∧ j ≠ 15)) (fun j w h k => k (of_decide_eq_true h).1 (of_decide_eq_true h).2.1 (of_decide_eq_true h).2.2.1 (of_decide_eq_true h).2.2.2) (fun w h _ _ _ _ => h) rfl (by kernel_rfl) (fun _ _ _ h => h) _ _ _ _ (by kernel_rfl) (by kernel_rfl) (by kernel_rfl) (by kernel_rfl) (Or.inl ⟨by rfl, ?_⟩) (by assumption) ?_
            rotate_left
            · (intro w hSw; (try dsimp only at hSw); go_simp)
              try with_reducible rfl
            refine anyT_take (i := 11) (v := ?_) (fun j => decide (j < 22 ∧ j ≠ 13 ∧ j ≠ 14 ∧ j ≠ 15)) (fun j w h k => k (of_decide_eq_true h).1 (of_decide_eq_true h).2.1 (of_decide_eq_true h).2.2.1 (of_decide_eq_true h).2.2.2) (fun w h _ _ _ _ => h) rfl (by kernel_rfl) (fun _ _ _ h => h) _ _ _ _ (by kernel_rfl) (by kernel_rfl) (by kernel_rfl) (by kernel_rfl) (Or.inl ⟨by rfl, ?_⟩) (by assumption) ?_
            rotate_left
            · (intro w hSw; (try dsimp only at hSw); go_simp)
              try with_reducible rfl
            refine anyT_take (i := 12) (v := ?_) (fun j => decide (j < 22 ∧ j ≠ 13 ∧ j ≠ 14 ∧ j ≠ 15)) (fun j w h k => k (of_decide_eq_true h).1 (of_decide_eq_true h).2.1 (of_decide_eq_true h).2.2.1 (of_decide_eq_true h).2.2.2) (fun w h _ _ _ _ => h) rfl (by kernel_rfl) (fun _ _ _ h => h) _ _ _ _ (by kernel_rfl) (by kernel_rfl) (by kernel_rfl) (by kernel_rfl) (Or.inl ⟨by rfl, ?_⟩) (by assumption) ?_
            rotate_left
            · (intro w hSw; (try dsimp only at hSw); go_simp)
              try with_reducible rfl
            refine anyT_take (i := 16) (v := ?_) (fun j => decide (j < 22 ∧ j ≠ 13 ∧ j ≠ 14 ∧ j ≠ 15)) (fun j w h k => k (of_decide_eq_true h).1 (of_decide_eq_true h).2.1 (of_decide_eq_true h).2.2.1 (of_decide_eq_true h).2.2.2) (fun w h _ _ _ _ => h) rfl (by kernel_rfl) (fun _ _ _ h => h) _ _ _ _ (by kernel_rfl) (by kernel_rfl) (by kernel_rfl) (by kernel_rfl) (Or.inl ⟨by rfl, ?_⟩) (by assumption) ?_
            rotate_left
            · (intro w hSw; (try dsimp only at hSw); go_simp)
              try with_reducible rfl
            refine anyT_take (i := 17) (v := ?_) (fun j => decide (j < 22 ∧ j ≠ 13 ∧ j ≠ 14 ∧ j ≠ 15)) (fun j w h k => k (of_decide_eq_true h).1 (of_decide_eq_true h).2.1 (of_decide_eq_true h).2.2.1 (of_decide_eq_true h).2.2.2) (fun w h _ _ _ _ => h) rfl (by kernel_rfl) (fun _ _ _ h => h) _ _ _ _ (by kernel_rfl) (by kernel_rfl) (by kernel_rfl) (by kernel_rfl) (Or.inl ⟨by rfl, ?_⟩) (by assumption) ?_
            rotate_left
            · (intro w hSw; (try dsimp only at hSw); go_simp)
              try with_reducible rfl
            refine anyT_take (i := 18) (v := ?_) (fun j => decide (j < 22 ∧ j ≠ 13 ∧ j ≠ 14 ∧ j ≠ 15)) (fun j w h k => k (of_decide_eq_true h).1 (of_decide_eq_true h).2.1 (of_decide_eq_true h).2.2.1 (of_decide_eq_true h).2.2.2) (fun w h _ _ _ _ => h) rfl (by kernel_rfl) (fun _ _ _ h => h) _ _ _ _ (by kernel_rfl) (by kernel_rfl) (by kernel_rfl) (by kernel_rfl) (Or.inl ⟨by rfl, ?_⟩) (by assumption) ?_
            rotate_left
            · (intro w hSw; (try dsimp only at hSw); go_simp)
              try with_reducible rfl
            refine anyT_take (i := 19) (v := ?_) (fun j => decide (j < 22 ∧ j ≠ 13 ∧ j ≠ 14 ∧ j ≠ 15)) (fun j w h k => k (of_decide_eq_true h).1 (of_decide_eq_true h).2.1 (of_decide_eq_true h).2.2.1 (of_decide_eq_true h).2.2.2) (fun w h _ _ _ _ => h) rfl (by kernel_rfl) (fun _ _ _ h => h) _ _ _ _ (by kernel_rfl) (by kernel_rfl) (by kernel_rfl) (by kernel_rfl) (Or.inl ⟨by rfl, ?_⟩) (by assumption) ?_
            rotate_left
            · (intro w hSw; (try dsimp only at hSw); go_simp)
              try with_reducible rfl
            refine anyT_take (i := 20) (v := ?_) (fun j => decide (j < 22 ∧ j ≠ 13 ∧ j ≠ 14 ∧ j ≠ 15)) (fun j w h k => k (of_decide_eq_true h).1 (of_decide_eq_true h).2.1 (of_decide_eq_true h).2.2.1 (of_decide_eq_true h).2.2.2) (fun w h _ _ _ _ => h) rfl (by kernel_rfl) (fun _ _ _ h => h) _ _ _ _ (by kernel_rfl) (by kernel_rfl) (by kernel_rfl) (by kernel_rfl) (Or.inl ⟨by rfl, ?_⟩) (by assumption) ?_
            rotate_left
            · (intro w hSw; (try dsimp only at hSw); go_simp)
              try with_reducible rfl
            refine anyT_take (i := 21) (v := ?_) (fun j => decide (j < 22 ∧ j ≠ 13 ∧ j ≠ 14 ∧ j ≠ 15)) (fun j w h k => k (of_decide_eq_true h).1 (of_decide_eq_true h).2.1 (of_decide_eq_true h).2.2.1 (of_decide_eq_true h).2.2.2) (fun w h _ _ _ _ => h) rfl (by kernel_rfl) (fun _ _ _ h => h) _ _ _ _ (by kernel_rfl) (by kernel_rfl) (by kernel_rfl) (by kernel_rfl) (Or.inl ⟨by rfl, ?_⟩) (by assumption) ?_
            rotate_left
            · (intro w hSw; (try dsimp only at hSw); go_simp)
              try with_reducible rfl
            have o1q := own_fr HI.out.own1 kq fun _ _ e => e
            have o2q := own_fr HI.out.own2 kq fun _ _ e => e
            have fa := o1q.frozenAt 2
            have xa := own_get o1q (j := 2) (u := .int .i64 (-1)) rfl
            refine anyT_ready (rs := [22]) (by kernel_rfl) (by simp) ?_
            intro j hj
            obtain rfl := List.mem_singleton.1 hj
            clear hj
            refine wpOp_plain rfl rfl ?_
            go_simp
            generalize hV : wq.setCell ⟨m1, 2, none⟩ (.int .i64 0) = w5
            have o1 := hV ▸ (o1q.stored 2 (.int .i64 0)).1
            have k5 : Fr (only m1) wq w5 := hV ▸ Fr.setCell wq ⟨m1, 2, none⟩ _
            clear hV fa xa
            have o2 := own_fr o2q k5 fun g hg e => HI.out.sep g (congrArg some (show m1 = g from (show g = m1 from e).symm)) hg
            refine anyT_ready (rs := [23]) (by kernel_rfl) (by simp) ?_
            intro j hj
            obtain rfl := List.mem_singleton.1 hj
            clear hj
            refine wpOp_plain rfl rfl ?_
            go_simp
            have fb4 := o2.frozenAt 4
            have xb4 := own_get o2 (j := 4) (u := .int .u8 0) rfl
            have fb5 := o2.frozenAt 5
            have xb5 := own_get o2 (j := 5) (u := .int .i64 0) rfl
            refine anyT_ready (rs := [24]) (by kernel_rfl) (by simp) ?_
            intro j hj
            obtain rfl := List.mem_singleton.1 hj
            clear hj
            refine wpOp_plain rfl rfl ?_
            go_simp
            refine ⟨by kernel_rfl, ?_⟩
            have st0 := (o2.stored 4 (.int .u8 0)).1
            have st1 := (st0.stored 5 (.int .i64 0)).1
            have k6 : Fr (only m2) w5 (((w5).setCell ⟨m2, 4, none⟩ (.int .u8 0)).setCell ⟨m2, 5, none⟩ (.int .i64 0)) := ((Fr.setCell (w5) ⟨m2, 4, none⟩ (.int .u8 0)).trans (Fr.setCell ((w5).setCell ⟨m2, 4, none⟩ (.int .u8 0)) ⟨m2, 5, none⟩ (.int .i64 0)))
            generalize ((w5).setCell ⟨m2, 4, none⟩ (.int .u8 0)).setCell ⟨m2, 5, none⟩ (.int .i64 0) = w6 at *
            have hm1 : pb ≠ m1 := by omega
            have hm2 : pb ≠ m2 := by omega
            have kk : Fr (fun g => g = m1 ∨ g = m2) wr w6 := (kq.wide.trans (k5.mono fun _ _ e => .inl e)).trans (k6.mono fun _ _ e => .inr e)
            have o1f := own_fr o1 k6 fun g hg e => HI.out.sep g hg (congrArg some (show m2 = g from (show g = m2 from e).symm))
            have FF := fr_join HI.out.fr kk fun g e => by rcases e with rfl | rfl <;> assumption
            have FW : Fr (only pb) wc w6 := HZ.out.1.wide.trans FF
            have obv := own_fr HC.out.2.1 FW fun g hg e => by have h1 := (HC.out.2.1.lt g hg).1; have h2 := HF1.out.size; have h3 := HF2.out.size; have e' : g = pb := e; omega
            have pkf := kk.obj HI.out.pk (fun e => e.elim hm1 hm2)
            have HR := Lib.hid (And.intro pkf (And.intro obv (And.intro (own_base o1f HZ.out.1.size) (And.intro (own_base st1 HZ.out.1.size) FW))))
            clear hS0 o1q o2q o1 o2 k5 k6 kk o1f FF FW obv pkf st0 st1 fb4 xb4 fb5 xb5
            try go_wp2
            go_roundw
            case rel => exact ⟨1, by omega, by simp, fun e => by omega, fun _ => ⟨_, _, HR.out⟩⟩
            case measure => simp [intOf]
      · have HH := Lib.hid (h1 rfl)
        clear h0 h1 hj1
        go_wp2
        go_end0
        obtain ⟨cv, nv, x1, x2, x3, x4, x5⟩ := HH.out
        have hw2 : w.heap.size ≤ w2.heap.size := Nat.le_trans HF1.out.size HF2.out.size
        have hwc : w.heap.size ≤ wc.heap.size := by omega
        exact ⟨rfl, bv, cv, nv, x1, own_base x2 hw2, own_base x3 hwc, own_base x4 hwc, ((HF1.out.trans HF2.out).wide.trans HC.out.2.2).trans x5⟩
end Go.Proofs.Ytehaoiimhgkckaa
