/-
  Package scope: slices.DeleteFunc, block.unused.
-/
import Derived.Test.YticdoccaabfjaaaSc4
namespace Go.Proofs.Yticdoccaabfjaaa
open Go.RowKit
set_option maxHeartbeats 400000

theorem fr_setCells (b : Nat) : ∀ (vs : List Value) (o : Nat) (w : World), Fr (only b) w (w.setCells b o vs)
  | [], _, w => Fr.refl _ w
  | v :: r, o, w => (Fr.setCell' (ch := only b) (w := w) ⟨b, o, none⟩ v rfl).trans (fr_setCells b r (o + 1) _)

/-- The row while it is gone through: what is kept ahead, what was not yet looked at behind. -/
structure DelSt (cur : Array Value) (p : ByteArray → Bool) (xs : List ByteArray) (i j : Nat) : Prop where
  hi : i = ((xs.take j).filter fun s => !p s).length
  hj : j ≤ xs.length
  size : xs.length ≤ cur.size
  head : ∀ (k : Nat) (s : ByteArray), ((xs.take j).filter fun s => !p s)[k]? = some s → cur[k]? = some (Value.string s)
  tail : ∀ (k : Nat) (s : ByteArray), j ≤ k → xs[k]? = some s → cur[k]? = some (Value.string s)
theorem DelSt.le {cur : Array Value} {p : ByteArray → Bool} {xs : List ByteArray} {i j : Nat} (h : DelSt cur p xs i j) : i ≤ j := by
  have h1 := List.length_filter_le (fun s => !p s) (xs.take j)
  have h2 := List.length_take_le j xs
  rw [h.hi]
  omega
theorem take_step {xs : List ByteArray} {j : Nat} (hj : j < xs.length) : xs.take (j + 1) = xs.take j ++ [xs[j]] := by rw [List.take_add_one, List.getElem?_eq_getElem hj]; rfl
theorem DelSt.skip {cur : Array Value} {p : ByteArray → Bool} {xs : List ByteArray} {i j : Nat} (h : DelSt cur p xs i j) (hj : j < xs.length) (hp : p xs[j] = true) : DelSt cur p xs i (j + 1) := by
  have e : ((xs.take (j + 1)).filter fun s => !p s) = (xs.take j).filter fun s => !p s := by rw [take_step hj, List.filter_append]; simp [hp]
  exact ⟨by rw [e]; exact h.hi, hj, h.size, by rw [e]; exact h.head, fun k s hk => h.tail k s (by omega)⟩
theorem DelSt.keep {cur : Array Value} {p : ByteArray → Bool} {xs : List ByteArray} {i j : Nat} (h : DelSt cur p xs i j) (hj : j < xs.length) (hp : p xs[j] = false) : DelSt (cur.setIfInBounds i (Value.string xs[j])) p xs (i + 1) (j + 1) := by
  have e : ((xs.take (j + 1)).filter fun s => !p s) = ((xs.take j).filter fun s => !p s) ++ [xs[j]] := by rw [take_step hj, List.filter_append]; simp [hp]
  have hle := h.le
  have hsz := h.size
  refine ⟨by rw [e, List.length_append, ← h.hi]; rfl, hj, by simpa using h.size, fun k s hk => ?_, fun k s hk hs => ?_⟩
  · rw [e] at hk
    by_cases hki : k = i
    · subst hki
      rw [h.hi, List.getElem?_append_right (Nat.le_refl _)] at hk
      simp at hk
      subst hk
      rw [Array.getElem?_setIfInBounds_self]
      simp
      omega
    · rw [Array.getElem?_setIfInBounds_ne (Ne.symm hki)]
      refine h.head k s ?_
      rcases Nat.lt_or_ge k i with hlt | hge
      · rwa [List.getElem?_append_left (by rw [← h.hi]; exact hlt)] at hk
      · rw [List.getElem?_eq_none (by rw [List.length_append, ← h.hi]; simp; omega)] at hk
        cases hk
  · rw [Array.getElem?_setIfInBounds_ne (by omega)]
    exact h.tail k s (by omega) hs
theorem DelSt.start {cur : Array Value} {p : ByteArray → Bool} {xs : List ByteArray} {n : Nat} (hc : cur.toList.take n = strs xs) (hn : n = xs.length) (hs : n ≤ cur.size) (j : Nat) (hj : j < xs.length) (hp : p xs[j] = true) (hno : ∀ i (hi : i < xs.length), i < j → p xs[i] = false) : DelSt cur p xs j (j + 1) := by
  have hcell : ∀ (k : Nat) (s : ByteArray), xs[k]? = some s → cur[k]? = some (Value.string s) := fun k s hk => by
    have h1 : (cur.toList.take n)[k]? = some (.string s) := by rw [hc]; simp [strs, hk]
    have hkn : k < n := by rw [hn]; exact (List.getElem?_eq_some_iff.1 hk).1
    rw [List.getElem?_take, if_pos hkn] at h1
    simpa using h1
  have e1 : ((xs.take j).filter fun s => !p s) = xs.take j := by
    rw [List.filter_eq_self]
    intro s hs
    obtain ⟨i, hi, rfl⟩ := List.mem_iff_getElem.1 hs
    rw [List.length_take] at hi
    rw [List.getElem_take, hno i (by omega) (by omega)]
    rfl
  have e : ((xs.take (j + 1)).filter fun s => !p s) = xs.take j := by rw [take_step hj, List.filter_append, e1]; simp [hp]
  refine ⟨by rw [e, List.length_take]; omega, hj, by omega, fun k s hk => ?_, fun k s _ hs => hcell k s hs⟩
  rw [e, List.getElem?_take] at hk
  split at hk
  · exact hcell k s hk
  · cases hk

def keptS (p : ByteArray → Bool) (xs : List ByteArray) : List ByteArray := xs.filter fun s => !p s
set_option maxRecDepth 100000 in
set_option maxHeartbeats 2000000 in
theorem deleteFunc_any (w : World) (g bb : Nat) (p : ByteArray → Bool) (xs : List ByteArray) (cap N : Nat) (hN : N = xs.length) (h : Tells w g bb p xs) (hown : w.ownsRow 0 9 1 (.slice (some ⟨g, 0, none⟩) N cap) N (strs xs)) :
    Calls Try.prog 26 #[.slice (some ⟨g, 0, none⟩) N cap, .func (.func 28) #[] #[.pointer (some ⟨bb, 0, none⟩)]] w fun e w' => (∃ v, e = .returned v ∧ Texts w' v (keptS p xs)) ∧ Fr (only g) w w' := by
  obtain ⟨cur, hobj, hcap, hcm, hcs, hct⟩ : ∃ cur, w.heap[g]? = some (.cells cur 9 (0, 0)) ∧ N ≤ cap ∧ cap ≤ maxLen ∧ cur.size = cap * 1 ∧ cur.toList.take (N * 1) = strs xs := by
    rcases hown.2 with ⟨e, _⟩ | ⟨g', c, cur, e, _, hg, r1, r2, r3, r4⟩
    · cases e
    · simp only [Value.slice.injEq, Option.some.injEq, Addr.mk.injEq] at e
      obtain ⟨⟨rfl, -⟩, -, rfl⟩ := e
      exact ⟨cur, hg, r1, r2, r3, r4⟩
  have hm' : cap ≤ 9223372036854775807 := hcm
  have hxc : xs = [] ∨ ∃ b o, (some ⟨g, 0, none⟩ : Option Addr) = some ⟨b, o, none⟩ ∧ Cells w b o (strs xs) := by
    obtain ⟨a', c', e, _, _, h3⟩ := own_cells hown
    simp only [Value.slice.injEq] at e
    obtain ⟨rfl, -⟩ := e
    rcases h3 with h3 | ⟨g', e, _, hc⟩
    · exact .inl (by simpa [strs] using h3)
    · exact .inr ⟨g', 0, e, hc⟩
  have HI := Lib.hid (indexFunc_any w g bb p xs h (some ⟨g, 0, none⟩) cap N hN hcap hcm hxc)
  have HT := Lib.hid h
  have HN := Lib.hid hN
  have HO := Lib.hid hobj
  have HCT := Lib.hid hct
  have hcs' : cap ≤ cur.size := by omega
  have HXC := Lib.hid hxc
  clear hxc h hN hobj hct hown hcm hcs
  go_enter Try.func26, Try.ntmps26
  go_upto_region 2 with (go_at_call 30; refine HI.out.mono ?_; rintro e w' ⟨⟨k, rfl, hf⟩, rfl⟩)
  rcases hf with ⟨rfl, hno⟩ | ⟨j0, hj0, rfl, hp0, hno0⟩
  · have HNO := Lib.hid hno
    clear hno
    go_wp2
    go_ret
    have e : keptS p xs = xs := by
      unfold keptS
      rw [List.filter_eq_self]
      intro s hs
      rw [HNO.out s hs]
      rfl
    rw [e]
    exact ⟨⟨_, rfl, _, _, by rw [HN.out]; rfl, by rw [← HN.out]; exact hcap, hm', HXC.out⟩, Fr.refl _ _⟩
  · have hst := DelSt.start (n := N) (p := p) (by have := HCT.out; rwa [Nat.mul_one] at this) HN.out (by omega) j0 hj0 hp0 hno0
    have hjN : j0 < N := by rw [HN.out]; exact hj0
    have ht1 : ((j0 : Int) == -1) = false := by simp
    have HST := Lib.hid hst
    clear hst hp0 hno0 hj0
    go_wp2
    go_loopw [5, 6] (fun iv jv wr => ∃ (i j : Nat) (cur' : Array Value), iv = .int .i64 i ∧ jv = .int .i64 j ∧ i < j ∧ j ≤ N ∧ DelSt cur' p xs i j ∧ cap ≤ cur'.size ∧ wr.heap[g]? = some (.cells cur' 9 (0, 0)) ∧ Fr (only g) w wr) (fun _ j _ => N - (intOf j).toNat)
    case atStart => exact ⟨j0, j0 + 1, cur, rfl, by simp, by omega, by omega, HST.out, hcs', HO.out, Fr.refl _ _⟩
    case round =>
      obtain ⟨i, j, cur', rfl, rfl, hij, hjN', hd, hcap', hobj, hfr⟩ := hrel
      have HD := Lib.hid hd
      have HOB := Lib.hid hobj
      have HFR := Lib.hid hfr
      clear hd
      by_cases hlt : j < N
      · have hjx : j < xs.length := by rw [← HN.out]; exact hlt
        have hcj := obj_cell hobj j (HD.out.tail j _ (Nat.le_refl _) (List.getElem?_eq_getElem hjx))
        obtain ⟨u, hu⟩ : ∃ u, cur'[i]? = some u := ⟨_, Array.getElem?_eq_getElem (by omega)⟩
        have hci := obj_cell hobj i hu
        have hfi := obj_frozen hobj i
        have hcall := HT.out wr hfr _ (List.getElem_mem hjx)
        have hkeep := fun hp => HD.out.keep hjx hp
        have hskip := fun hp => HD.out.skip hjx hp
        clear hobj hfr hu
        cases hp : p xs[j] with
        | true =>
          have hsk := Lib.hid (hskip hp)
          rw [hp] at hcall
          have HCL := Lib.hid hcall
          generalize hs : xs[j] = s at hcj HCL
          clear hs hp hcall hkeep hskip
          go_wp2_with (go_at_call 28; refine HCL.out.mono ?_; rintro e w' ⟨rfl, rfl⟩)
          go_roundw
          case rel => exact ⟨i, j + 1, cur', rfl, by simp, by omega, by omega, hsk.out, hcap', HOB.out, HFR.out⟩
          case measure => simp [intOf]; omega
        | false =>
          have hsk := Lib.hid (hkeep hp)
          rw [hp] at hcall
          have HCL := Lib.hid hcall
          generalize hs : xs[j] = s at hcj HCL hsk
          clear hs hp hcall hkeep hskip
          go_wp2_with (go_at_call 28; refine HCL.out.mono ?_; rintro e w' ⟨rfl, rfl⟩)
          go_roundw
          case rel => exact ⟨i + 1, j + 1, _, by simp, by simp, by omega, by omega, hsk.out, by simpa using hcap', setCell_obj HOB.out _, HFR.out.trans (Fr.setCell' _ _ rfl)⟩
          case measure => simp [intOf]; omega
      · obtain rfl : j = N := by omega
        clear hlt
        have hcl := Lib.run_clear_slice (P := Try.prog) wr 30 9 0 (.string ⟨#[]⟩) (by kernel_rfl) (fun _ => by rfl) rfl rfl g i (j - i) (cap - i) (by omega) (fun k hk => by rw [obj_cell hobj (i + k) (Array.getElem?_eq_getElem (by omega))]; rfl) (fun k _ => obj_frozen hobj (i + k))
        clear hobj hfr
        go_wp2
        go_ret
        have hk : keptS p xs = (xs.take j).filter fun s => !p s := by unfold keptS; rw [List.take_of_length_le (by rw [HN.out]; exact Nat.le_refl _)]
        have hfin : Fr (only g) w (wr.setCells g i (List.replicate (j - i) (.string ⟨#[]⟩))) := HFR.out.trans (fr_setCells _ _ _ _)
        refine ⟨⟨_, rfl, _, cap, by rw [hk, ← HD.out.hi]; rfl, by rw [hk, ← HD.out.hi]; omega, hm', .inr ⟨g, 0, rfl, fun k hkl => ?_⟩⟩, hfin⟩
        have hkl' : k < i := by rw [HD.out.hi, ← hk]; simpa [strs] using hkl
        rw [World.cell?_setCells_out _ _ _ _ _ (fun _ _ => .inl (by simpa using hkl'))]
        refine obj_cell HOB.out (0 + k) ?_
        rw [Nat.zero_add, HD.out.head k ((keptS p xs)[k]'(by simpa [strs] using hkl)) (by rw [← hk]; exact List.getElem?_eq_getElem _)]
        simp [strs]

theorem deleteFunc_nil (w : World) (bb : Nat) (p : ByteArray → Bool) :
    Calls Try.prog 26 #[.slice none 0 0, .func (.func 28) #[] #[.pointer (some ⟨bb, 0, none⟩)]] w fun e w' => e = .returned (.slice none 0 0) ∧ w = w' := by
  have HI := Lib.hid (indexFunc_any w 0 bb p [] (fun W _ s hs => by simp at hs) none 0 0 rfl (Nat.le_refl _) (by unfold maxLen; omega) (.inl rfl))
  go_enter Try.func26, Try.ntmps26
  go_upto_region 2 with (go_at_call 30; refine HI.out.mono ?_; rintro e w' ⟨⟨k, rfl, hf⟩, rfl⟩)
  obtain rfl : k = -1 := by
    rcases hf with ⟨rfl, _⟩ | ⟨j, hj, _⟩
    · rfl
    · simp at hj
  go_wp2
  go_ret
  exact ⟨rfl, rfl⟩
theorem deleteFunc_own (w : World) (bb B : Nat) (p : ByteArray → Bool) (xs : List ByteArray) (v : Value) (hown : w.ownsRow B 9 1 v xs.length (strs xs)) (h : ∀ g, v.ownBlock = some g → Tells w g bb p xs) :
    Calls Try.prog 26 #[v, .func (.func 28) #[] #[.pointer (some ⟨bb, 0, none⟩)]] w fun e w' => (∃ v, e = .returned v ∧ Texts w' v (keptS p xs)) ∧ Fr (fun g => v.ownBlock = some g) w w' := by
  have hown0 := own_base hown (Nat.zero_le _)
  rcases hown.2 with ⟨rfl, hn⟩ | ⟨g, cap, cur, rfl, _⟩
  · obtain rfl : xs = [] := List.eq_nil_of_length_eq_zero hn
    refine (deleteFunc_nil w bb p).mono ?_
    rintro e w' ⟨rfl, rfl⟩
    exact ⟨⟨_, rfl, none, 0, rfl, Nat.le_refl _, by unfold maxLen; omega, .inl rfl⟩, Fr.refl _ _⟩
  · refine (deleteFunc_any w g bb p xs cap xs.length rfl (h g rfl) hown0).mono ?_
    rintro e w' ⟨h1, h2⟩
    exact ⟨h1, h2.mono fun k _ e => by have e' : k = g := e; subst e'; rfl⟩
theorem findTh_of {l : List Th} {s : ByteArray} (h : s ∈ l.map fun x => x.nm.s) : ∃ x, findTh l s = some x := by
  obtain ⟨y, hy, rfl⟩ := List.mem_map.1 h
  cases hf : findTh l y.nm.s with
  | some x => exact ⟨x, rfl⟩
  | none =>
    unfold findTh at hf
    have := List.find?_eq_none.1 hf y hy
    simp at this

set_option maxRecDepth 100000 in
set_option maxHeartbeats 1000000 in
theorem unused_any {w : World} {F : Nat → Prop} {b : MB} (h : IsBlk w F b) (hl : b.l.length ≤ 1000000000000) :
    Calls Try.prog 22 #[.agg #[b.nv, .map (some b.mb)]] w fun e w' => (∃ v, e = .returned v ∧ Texts w' v (keptS (usedB b.l) (b.l.map fun x => x.nm.s))) ∧ Below w.heap.size w w' := by
  have hmf : ∀ (fn : Fn) (first cap : Array Value) (w : World), (Instr.makeFunc fn first cap).run Try.prog w = .ok (.func fn first cap) w := fun _ _ _ _ => rfl
  obtain ⟨xs, hxs⟩ : ∃ xs, xs = b.l.map fun x => x.nm.s := ⟨_, rfl⟩
  have hlen : xs.length = b.l.length := by rw [hxs]; simp
  have hst : strs xs = nameCells b.l := by rw [hxs]; simp [strs, nameCells, Function.comp_def]
  obtain ⟨w1, hw1⟩ : ∃ w1, w1 = w.alloc (.cells #[b.nv, .map (some b.mb)] 58 (0, 0)) := ⟨_, rfl⟩
  have hB : Below w.heap.size w w1 := by rw [hw1]; exact (Below.refl _ _).alloc (Nat.le_refl _) _
  have hs1 : w1.heap.size = w.heap.size + 1 := by rw [hw1]; simp
  have h1 : IsBlk w1 F b := h.fr (Fr.new hB) fun g hg => ⟨fun e => e, hg⟩
  have ho1 : w1.heap[w.heap.size]? = some (.cells #[b.nv, .map (some b.mb)] 58 (0, 0)) := by rw [hw1]; exact alloc_obj w _
  have HCL := Lib.hid (clone_any w1 b.nv xs (by rw [hlen, hst]; exact h1.names) (by rw [hlen]; exact hl))
  have hdel : ∀ (w2 : World) (v : Value), w2.ownsRow w1.heap.size 9 1 v xs.length (strs xs) → Below w1.heap.size w1 w2 → Calls Try.prog 26 #[v, .func (.func 28) #[] #[.pointer (some ⟨w.heap.size, 0, none⟩)]] w2 fun e w' => (∃ v, e = .returned v ∧ Texts w' v (keptS (usedB b.l) xs)) ∧ Below w1.heap.size w1 w' := by
    intro w2 v hown hb2
    refine (deleteFunc_own w2 w.heap.size _ (usedB b.l) xs v hown fun g hg W hW s hs => ?_).mono ?_
    · have hgl := (hown.lt g hg).1
      have hBW : Below w1.heap.size w1 W := hb2.trans (hW.below hb2.size fun k e => by have e' : k = g := e; omega)
      rw [hxs] at hs
      obtain ⟨x, hx⟩ := findTh_of hs
      exact used1_any (h1.fr (Fr.new hBW) fun g hg => ⟨fun e => e, hg⟩) w.heap.size ((Fr.new hBW).obj ho1 fun e => e) s x hx
    · rintro e w' ⟨h1, h2⟩
      exact ⟨h1, hb2.trans (h2.below hb2.size fun k e => (hown.lt k e).1)⟩
  obtain ⟨a, cap, hnv, _⟩ := own_cells h.names
  have c0 : w1.cell? ⟨w.heap.size, 0, none⟩ = some b.nv := obj_cell ho1 0 rfl
  have HD := Lib.hid hdel
  have HB := Lib.hid hB
  have HS1 := Lib.hid hs1
  have HW := Lib.hid hw1
  have HXS := Lib.hid hxs
  rw [← HXS.out]
  clear h h1 ho1 hB hlen hst hdel hs1 hw1 hxs
  rw [hnv] at c0 HCL HW ⊢
  clear hnv
  go_enter Try.func22, Try.ntmps22
  go_upto_region 1 with fail
  rw [← HW.out]
  go_wp2_with (first | (go_at_call 27; refine HCL.out.mono ?_; rintro e w2 ⟨v', rfl, hown2, hb2⟩; have HDL := Lib.hid (HD.out w2 v' hown2 hb2)) | (go_at_call 26; refine HDL.out.mono ?_; rintro e w3 ⟨⟨v3, rfl, ht3⟩, hb3⟩))
  go_ret
  exact ⟨⟨_, rfl, ht3⟩, HB.out.trans (hb3.mono HB.out.size)⟩
end Go.Proofs.Yticdoccaabfjaaa
