/-
  slices.ContainsFunc over numbers, with each of the closures that the program hands it.
  Chapter 19's statements: the chapter's example.
  ItemsClosed: the plain law.
  Package items: what Collection tells, read as states.
  Items, plain: what ItemsWhole goes by.
  ItemsWhole: what Collection tells, case by case; states at a place.
  Package table: Right of a table of one row whose entries may all stand, and of none.
  gristmillref19: Of (the closure).
  gristmillref19: on (what a closure goes on to).
  gristmillref19: the states that lie in a slice of their own.
  The document's answer on symbols: is a grammar right? It is what package symbols says.
-/
import Derived.Test.YtpnihegmhalcfaaRunG11
import Derived.Test.YtpnihegmhalcfaaRunG12
import Derived.Test.YtpnihegmhalcfaaRunG10
import Derived.Test.YtpnihegmhalcfaaRunG07
import Derived.Test.YtpnihegmhalcfaaRunG03
import Derived.Test.YtpnihegmhalcfaaRunG05
import Derived.Test.YtpnihegmhalcfaaRunG13
import Derived.Test.YtpnihegmhalcfaaRunG09
namespace Go.Proofs.Ytpnihegmhalcfaa
open Go.RowKit
set_option maxHeartbeats 400000

/-- The closure over these boxes tells of numbers what p tells, wherever what was there stands. -/
def TellR (w : World) (b0 : Nat) (p : Int → Bool) (xs : List Int) : Prop :=
  ∀ W, Below w.heap.size w W → ∀ x ∈ xs, Calls Try.prog 32 #[.int .i64 x, .pointer (some ⟨b0, 0, none⟩)] W fun e w' => e = .returned (.bool (p x)) ∧ Below W.heap.size W w'
set_option maxRecDepth 100000 in
set_option maxHeartbeats 1000000 in
theorem indexR_any (w : World) (b0 : Nat) (p : Int → Bool) (xs : List Int) (v : Value) (hv : Ints w v xs) (h : TellR w b0 p xs) :
    Calls Try.prog 65 #[v, .func (.func 32) #[] #[.pointer (some ⟨b0, 0, none⟩)]] w fun e w' => (∃ k : Int, e = .returned (.int .i64 k) ∧ decide (0 ≤ k) = xs.any p) ∧ Below w.heap.size w w' := by
  obtain ⟨_, hlen, a, cap, rfl, _, _, _⟩ := id hv
  have HV := Lib.hid hv
  have HT := Lib.hid h
  clear hv h
  generalize hN : xs.length = N at *
  have HN := Lib.hid hN
  clear hN
  go_enter Try.func65, Try.ntmps65
  go_wp2
  go_loopw [4, 5, 8] (fun _ _ i wr => ∃ k : Nat, k ≤ N ∧ i = .int .i64 k ∧ (∀ j (hj : j < xs.length), j < k → p xs[j] = false) ∧ Below w.heap.size w wr) (fun _ _ i _ => N - (intOf i).toNat)
  case atStart => exact ⟨0, Nat.zero_le _, rfl, fun j _ h => by omega, Below.refl _ _⟩
  case round =>
    obtain ⟨k, hk, rfl, hno, hB⟩ := hrel
    have HNO := Lib.hid hno
    clear hno
    by_cases hlt : k < N
    · have hk' : k < xs.length := by rw [HN.out]; exact hlt
      obtain ⟨b, o, rfl, -, -, hcx, -⟩ := (HV.out.fr (Fr.new hB)).at hk'
      have hcall := HT.out wr hB _ (List.getElem_mem hk')
      have HB := Lib.hid hB
      clear hB
      cases hp : p xs[k] with
      | true =>
        rw [hp] at hcall
        have HP := Lib.hid hp
        have HCL := Lib.hid hcall
        clear hp hcall
        generalize hs : xs[k] = s at hcx HCL
        clear hs
        go_wp2_with (go_at_call 32; refine HCL.out.mono ?_; rintro e w' ⟨rfl, hb⟩)
        go_ret
        exact ⟨⟨_, rfl, by rw [List.any_eq_true.2 ⟨_, List.getElem_mem hk', HP.out⟩]; simp⟩, HB.out.trans (hb.mono HB.out.size)⟩
      | false =>
        rw [hp] at hcall
        have HP := Lib.hid hp
        have HCL := Lib.hid hcall
        clear hp hcall
        generalize hs : xs[k] = s at hcx HCL
        clear hs
        go_wp2_with (go_at_call 32; refine HCL.out.mono ?_; rintro e w' ⟨rfl, hb⟩)
        go_roundw
        case rel =>
          refine ⟨k + 1, by omega, by simp, fun j hj hjk => ?_, HB.out.trans (hb.mono HB.out.size)⟩
          by_cases e : j = k
          · subst e; exact HP.out
          · exact HNO.out j hj (by omega)
        case measure => simp [intOf]; omega
    · obtain rfl : k = N := by omega
      clear hlt
      go_wp2
      go_ret
      refine ⟨⟨-1, rfl, ?_⟩, hB⟩
      have : xs.any p = false := by
        rw [List.any_eq_false]
        intro x hx
        obtain ⟨i, hi, rfl⟩ := List.mem_iff_getElem.1 hx
        rw [HNO.out i hi (by rw [← HN.out]; exact hi)]
        simp
      rw [this]
      rfl
theorem containsR_any (w : World) (b0 : Nat) (p : Int → Bool) (xs : List Int) (v : Value) (hv : Ints w v xs) (h : TellR w b0 p xs) :
    Calls Try.prog 31 #[v, .func (.func 32) #[] #[.pointer (some ⟨b0, 0, none⟩)]] w fun e w' => e = .returned (.bool (xs.any p)) ∧ Below w.heap.size w w' := by
  obtain ⟨_, hlen, a, cap, rfl, _, _, _⟩ := id hv
  have HI := Lib.hid (indexR_any w b0 p xs _ hv h)
  generalize xs.any p = bb at *
  clear hv h
  generalize xs.length = N at *
  go_enter Try.func31, Try.ntmps31
  go_wp2_with (go_at_call 65; refine HI.out.mono ?_; rintro e w' ⟨⟨k, rfl, rfl⟩, hb⟩)
  go_ret
  exact ⟨rfl, hb⟩



end Go.Proofs.Ytpnihegmhalcfaa
namespace Go.Proofs.Ytpnihegmhalcfaa
open Go.RowKit Go.MapKept Go.ChangeMaps
set_option maxHeartbeats 400000

theorem states_obj {w : World} {b : Nat} {cs : Array Value} {t : TypeId} {z : Nat × Nat} {l : List ((Value × Value) × Stt)} {n : Nat} (h : w.heap[b]? = some (.cells cs t z)) (hcs : cs = (l.flatMap fun x => [x.1.1, x.1.2]).toArray) (hok : ∀ x ∈ l, IsItems w x.1.1 x.2.1 ∧ IsItems w x.1.2 x.2.2) (hn : n = l.length) (hl : l.length ≤ 1000000) : IsStates w (.slice (some ⟨b, 0, none⟩) n n) (l.map Prod.snd) := by
  subst hn
  refine ⟨by simp; omega, some ⟨b, 0, none⟩, l.length, by simp, by simp, by unfold maxLen; omega, .inr ⟨b, 0, rfl, fun i hi => ?_⟩⟩
  have hi' : i < l.length := by simpa using hi
  have h1 := obj_flat (m := 2) h hcs (fun _ => rfl) i hi'
  have h2 := hok _ (List.getElem_mem hi')
  simp only [List.getElem_map]
  have c0 := h1 0 (by simp)
  have c1 := h1 1 (by simp)
  simp only [List.getElem_cons_zero, List.getElem_cons_succ, Nat.add_zero] at c0 c1
  exact ⟨_, _, h2.1, h2.2, by rw [Nat.zero_add]; exact c0, by rw [Nat.zero_add]; exact c1⟩
def smS : List Stt := [([(0, 0)], [(2, 1), (4, 2)]), ([(2, 1)], []), ([(0, 1), (1, 1)], [(1, 3)]), ([(1, 2)], [(2, 4)]), ([(1, 3)], [])]
theorem same_small (u : Value) (L : List It) (cs : Array Value) (n : Nat) (w : World) (h : IsItems w u L) (hcs : cs = (L.flatMap encI).toArray) (hi : ∀ x ∈ L, i64 x.1 ∧ i64 x.2) (hn : n = L.length) (hl : L.length ≤ 1000000) :
    Calls Try.prog 51 #[u, .slice (some ⟨w.heap.size, 0, none⟩) n n] (w.alloc (Obj.cells cs 102 (0, 0))) fun e w' => e = .returned (.bool true) ∧ Below w.heap.size w w' := by
  refine (sameItems_any u _ L L _ (h.fr (Fr.alloc _ _)) (items_obj (alloc_obj w _) hcs hi hn hl)).mono ?_
  rintro e w' ⟨rfl, m, rfl⟩
  exact ⟨by rw [decide_eq_true rfl], below_drewN ((Below.refl _ w).alloc (Nat.le_refl _) _) _⟩

end Go.Proofs.Ytpnihegmhalcfaa
namespace Go.Proofs.Ytpnihegmhalcfaa
open Go.RowKit Go.MapKept Go.ChangeMaps
set_option maxHeartbeats 400000

/-- A production of what stands behind an item's dot, the dot ahead. -/
def StepI (G : Gram) (x y : It) : Prop := ∃ (p : Nat) (hp : p < G.prods.length), behI G x = some G.prods[p].left ∧ y = ((p : Int), 0)
/-- The same, of the first productions alone. -/
def StepTo (G : Gram) (x : It) (n : Nat) (y : It) : Prop := ∃ (p : Nat) (hp : p < G.prods.length), p < n ∧ behI G x = some G.prods[p].left ∧ y = ((p : Int), 0)
theorem stepTo_all {G : Gram} {x y : It} {n : Nat} (hn : G.prods.length ≤ n) : StepTo G x n y ↔ StepI G x y :=
  ⟨fun ⟨p, hp, _, h1, h2⟩ => ⟨p, hp, h1, h2⟩, fun ⟨p, hp, h1, h2⟩ => ⟨p, hp, by omega, h1, h2⟩⟩
theorem stepTo_zero {G : Gram} {x y : It} : ¬ StepTo G x 0 y := fun ⟨_, _, h, _⟩ => by omega
theorem stepTo_hit {G : Gram} {x y : It} {n : Nat} (hn : n < G.prods.length) (h : behI G x = some G.prods[n].left) : StepTo G x (n + 1) y ↔ y = ((n : Int), 0) ∨ StepTo G x n y := by
  constructor
  · rintro ⟨p, hp, h1, h2, h3⟩
    by_cases e : p = n
    · subst e; exact .inl h3
    · exact .inr ⟨p, hp, by omega, h2, h3⟩
  · rintro (rfl | ⟨p, hp, h1, h2, h3⟩)
    · exact ⟨n, hn, by omega, h, rfl⟩
    · exact ⟨p, hp, by omega, h2, h3⟩
theorem stepTo_miss {G : Gram} {x y : It} {n : Nat} (hn : n < G.prods.length) (h : behI G x ≠ some G.prods[n].left) : StepTo G x (n + 1) y ↔ StepTo G x n y := by
  constructor
  · rintro ⟨p, hp, h1, h2, h3⟩
    by_cases e : p = n
    · subst e; exact absurd h2 h
    · exact ⟨p, hp, by omega, h2, h3⟩
  · rintro ⟨p, hp, h1, h2, h3⟩
    exact ⟨p, hp, by omega, h2, h3⟩
theorem stepI_none {G : Gram} {x y : It} (h : behI G x = none) : ¬ StepI G x y := fun ⟨p, hp, h1, _⟩ => by rw [h] at h1; cases h1
theorem cloL_step {G : Gram} {K : List It} {x y : It} (hx : x ∈ cloL G K) (h : StepI G x y) : y ∈ cloL G K := by
  obtain ⟨p, hp, h1, rfl⟩ := h
  exact cloL_mem.2 (.step hp (cloL_mem.1 hx) h1 rfl)
theorem cloL_ker {G : Gram} {K : List It} {x : It} (hx : x ∈ K) : x ∈ cloL G K := cloL_mem.2 (.ker hx)
theorem cloL_from {G : Gram} {K : List It} {y : It} (hy : y ∈ cloL G K) : y ∈ K ∨ ∃ x ∈ cloL G K, StepI G x y := by
  cases cloL_mem.1 hy with
  | ker h => exact .inl h
  | @step x s p hp hx hb hl => exact .inr ⟨x, cloL_mem.2 hx, p, hp, by rw [hb, hl], rfl⟩
theorem ris_lt {l : List It} (h : RisI l) {i j : Nat} (hij : i < j) (hj : j < l.length) : ltI l[i] l[j] := List.pairwise_iff_getElem.1 h i j (by omega) hj hij
theorem ris_new {l : List It} (h : RisI l) {k : Nat} (hk : k < l.length) : l[k] ∉ l.take k := fun hm => by
  obtain ⟨i, hi, e⟩ := List.getElem_of_mem hm
  rw [List.length_take] at hi
  rw [List.getElem_take] at e
  have := ris_lt h (show i < k by omega) hk
  rw [e] at this
  exact ltI_irrefl _ this
theorem take_more {l : List It} {k : Nat} (hk : k < l.length) (y : It) : y ∈ l.take (k + 1) ↔ y = l[k] ∨ y ∈ l.take k := by
  have e : l.take (k + 1) = l.take k ++ [l[k]] := by rw [List.take_add_one, List.getElem?_eq_getElem hk]; rfl
  rw [e, List.mem_append, List.mem_singleton, or_comm]
/-- What is asked for behind k items of the closure. -/
def AskTo (G : Gram) (K L : List It) (k : Nat) (y : It) : Prop := y ∈ K ∨ ∃ x ∈ L.take k, StepI G x y
theorem askTo_next {G : Gram} {K L : List It} {k : Nat} (hk : k < L.length) (y : It) : AskTo G K L (k + 1) y ↔ AskTo G K L k y ∨ StepI G L[k] y := by
  unfold AskTo
  constructor
  · rintro (h | ⟨x, hx, h⟩)
    · exact .inl (.inl h)
    · rcases (take_more hk x).1 hx with rfl | hx
      · exact .inr h
      · exact .inl (.inr ⟨x, hx, h⟩)
  · rintro ((h | ⟨x, hx, h⟩) | h)
    · exact .inl h
    · exact .inr ⟨x, (take_more hk x).2 (.inr hx), h⟩
    · exact .inr ⟨_, (take_more hk _).2 (.inl rfl), h⟩
theorem askTo_end {G : Gram} {K : List It} {y : It} {n : Nat} (hn : (cloL G K).length ≤ n) (hy : y ∈ cloL G K) : AskTo G K (cloL G K) n y := by
  unfold AskTo
  rw [List.take_of_length_le hn]
  exact cloL_from hy
theorem behI_some {G : Gram} {x : It} (h : InI G x) (hd : x.2 < ((rightOf G x.1).length : Int)) : ∃ (d : Nat) (hl : d < (rightOf G x.1).length), x.2 = (d : Int) ∧ behI G x = some (rightOf G x.1)[d] := by
  obtain ⟨_, _, h3, _⟩ := h
  refine ⟨x.2.toNat, by omega, by omega, ?_⟩
  unfold behI
  rw [List.getElem?_eq_getElem]
theorem behI_end {G : Gram} {x : It} (hd : ¬ x.2 < ((rightOf G x.1).length : Int)) : behI G x = none := by
  unfold behI
  rw [List.getElem?_eq_none]
  omega
end Go.Proofs.Ytpnihegmhalcfaa
namespace Go.Proofs.Ytpnihegmhalcfaa
open Go.RowKit Go.MapKept Go.ChangeMaps
set_option maxHeartbeats 400000

theorem edgesGo_kok {G : Gram} (hr : rightG G = true) (K : List It) {i : Nat} (hK : K.length ≤ 1 + 128 * i) (hKi : ∀ x ∈ K, InI G x) : ∀ (l : List Int) (ks : List (List It)) (es : List (Int × Int)) {ks' : List (List It)} {es' : List (Int × Int)}, KOk G ks → ks.length ≤ 256 → i < ks.length → edgesGo G (cloL G K) l ks es = some (ks', es') → KOk G ks' ∧ ks'.length ≤ 256
  | [], ks, es, ks', es', h, hl, _, he => by
    unfold edgesGo at he
    simp only [Option.some.injEq, Prod.mk.injEq] at he
    obtain ⟨rfl, rfl⟩ := he
    exact ⟨h, hl⟩
  | s :: l, ks, es, ks', es', h, hl, hi, he => by
    unfold edgesGo at he
    split at he
    · exact edgesGo_kok hr K hK hKi l ks es h hl hi he
    · cases hp : putK ks (onI G (cloL G K) s) with
      | none => rw [hp] at he; cases he
      | some q =>
        obtain ⟨j, ks1⟩ := q
        rw [hp] at he
        simp only at he
        obtain ⟨_, hl1, hor⟩ := putK_spec hp hl
        refine edgesGo_kok hr K hK hKi l ks1 _ (h.put hr hl K hi hK hKi s hp) hl1 ?_ he
        rcases hor with ⟨_, rfl⟩ | ⟨_, rfl, _⟩
        · exact hi
        · simp; omega
theorem colGo_kok {G : Gram} (hr : rightG G = true) : ∀ (n i : Nat) (ks : List (List It)) (gs : List (List (Int × Int))) {ks' : List (List It)} {gs' : List (List (Int × Int))}, KOk G ks → ks.length ≤ 256 → colGo G n i ks gs = some (ks', gs') → KOk G ks'
  | 0, _, _, _, _, _, _, _, h => by cases h
  | n + 1, i, ks, gs, ks', gs', hk, hl, h => by
    unfold colGo at h
    cases hki : ks[i]? with
    | none =>
      rw [hki] at h
      simp only [Option.some.injEq, Prod.mk.injEq] at h
      obtain ⟨rfl, rfl⟩ := h
      exact hk
    | some K =>
      rw [hki] at h
      simp only at h
      obtain ⟨hi, hK⟩ := List.getElem?_eq_some_iff.1 hki
      have h1 := hk i hi
      rw [hK] at h1
      cases he : edgesGo G (cloL G K) (symsI G) ks [] with
      | none => rw [he] at h; cases h
      | some q =>
        obtain ⟨ks1, es⟩ := q
        rw [he] at h
        simp only at h
        obtain ⟨h2, h3⟩ := edgesGo_kok hr K h1.1 h1.2 _ ks [] hk hl hi he
        exact colGo_kok hr n (i + 1) ks1 _ h2 h3 h
theorem colI_kok {G : Gram} (hr : rightG G = true) {ks : List (List It)} {gs : List (List (Int × Int))} (h : colI G = some (ks, gs)) : KOk G ks := by
  refine colGo_kok hr 257 0 [[(0, 0)]] [] (fun j hj => ?_) (by simp) h
  have : j = 0 := by simpa using hj
  subst this
  have hpl := (rightG_parts hr).1.2.2.2.2.1
  refine ⟨by simp, fun x hx => ?_⟩
  rw [List.mem_singleton.1 hx]
  exact ⟨Int.le_refl _, by show (0 : Int) < _; omega, Int.le_refl _, by show (0 : Int) ≤ _; omega⟩
theorem edgesIs_in {G : Gram} {L : List It} {ks : List (List It)} {syms : List Int} {es : List (Int × Int)} (h : EdgesIs G L ks syms es) : es.length ≤ syms.length ∧ ∀ x ∈ es, x.1 ∈ syms ∧ 0 ≤ x.2 ∧ x.2 < (ks.length : Int) := by
  induction h with
  | nil => exact ⟨Nat.le_refl _, fun x hx => by simp at hx⟩
  | skip _ _ ih => exact ⟨by simp; omega, fun x hx => ⟨List.mem_cons_of_mem _ (ih.2 x hx).1, (ih.2 x hx).2⟩⟩
  | edge _ hj _ ih =>
    refine ⟨by simp; omega, fun x hx => ?_⟩
    rcases List.mem_cons.1 hx with rfl | hx
    · exact ⟨by simp, by simp, by have := (List.getElem?_eq_some_iff.1 hj).1; simp; omega⟩
    · exact ⟨List.mem_cons_of_mem _ (ih.2 x hx).1, (ih.2 x hx).2⟩
end Go.Proofs.Ytpnihegmhalcfaa
namespace Go.Proofs.Ytpnihegmhalcfaa
set_option maxHeartbeats 400000

theorem come_det {c d d' : Nat} {es : List (Int × Int)} (h : Come c es d) (k : Come c es d') : d = d' := by
  induction h generalizing d' with
  | nil => cases k; rfl
  | @old c j d s r hlt h ih =>
    generalize he : (s, (j : Int)) :: r = es at k
    cases k with
    | nil => cases he
    | @old _ j' _ _ _ hlt' k' =>
      simp only [List.cons.injEq, Prod.mk.injEq] at he
      obtain ⟨_, rfl⟩ := he
      exact ih k'
    | @new _ _ _ _ k' =>
      simp only [List.cons.injEq, Prod.mk.injEq] at he
      omega
  | @new c d s r h ih =>
    generalize he : (s, (c : Int)) :: r = es at k
    cases k with
    | nil => cases he
    | @old _ j' _ _ _ hlt' k' =>
      simp only [List.cons.injEq, Prod.mk.injEq] at he
      omega
    | @new _ _ _ _ k' =>
      simp only [List.cons.injEq, Prod.mk.injEq] at he
      obtain ⟨_, rfl⟩ := he
      exact ih k'
theorem come_split {c d : Nat} : ∀ {a b : List (Int × Int)}, Come c (a ++ b) d → ∃ m, Come c a m ∧ Come m b d
  | [], b, h => ⟨c, .nil, h⟩
  | x :: a, b, h => by
    rw [List.cons_append] at h
    cases h with
    | old hlt h =>
      obtain ⟨m, h1, h2⟩ := come_split h
      exact ⟨m, .old hlt h1, h2⟩
    | new h =>
      obtain ⟨m, h1, h2⟩ := come_split h
      exact ⟨m, .new h1, h2⟩
theorem come_cons {c d : Nat} {x : Int × Int} {r : List (Int × Int)} (h : Come c (x :: r) d) : ∃ j : Nat, x.2 = (j : Int) ∧ (j < c ∧ Come c r d ∨ j = c ∧ Come (c + 1) r d) := by
  cases h with
  | old hlt h => exact ⟨_, rfl, .inl ⟨hlt, h⟩⟩
  | new h => exact ⟨_, rfl, .inr ⟨rfl, h⟩⟩
theorem edges_cons {G : Gram} {L : List It} {ks : List (List It)} {s : Int} {r : List Int} {es : List (Int × Int)} (h : EdgesIs G L ks (s :: r) es) :
    (onI G L s = [] ∧ EdgesIs G L ks r es) ∨ (onI G L s ≠ [] ∧ ∃ (j : Nat) (t : List (Int × Int)), es = (s, (j : Int)) :: t ∧ ks[j]? = some (onI G L s) ∧ EdgesIs G L ks r t) := by
  cases h with
  | skip h1 h2 => exact .inl ⟨h1, h2⟩
  | edge h1 h2 h3 => exact .inr ⟨h1, _, _, rfl, h2, h3⟩
theorem edges_end {G : Gram} {L : List It} {ks : List (List It)} {es : List (Int × Int)} (h : EdgesIs G L ks [] es) : es = [] := by
  cases h
  rfl
theorem symsI_len (G : Gram) : (symsI G).length = G.syms.length := by simp [symsI]
theorem symsI_drop {G : Gram} {k : Nat} (h : k < G.syms.length) : (symsI G).drop k = (k : Int) :: (symsI G).drop (k + 1) := by
  rw [List.drop_eq_getElem_cons (by rw [symsI_len]; exact h)]
  simp [symsI]
/-- How far a state's symbols have been gone through: a edges so far, c states come to, d at the end. -/
structure EdgAt (G : Gram) (L : List It) (ks : List (List It)) (es : List (Int × Int)) (d : Nat) (s a c : Nat) : Prop where
  le : a ≤ es.length
  edges : EdgesIs G L ks ((symsI G).drop s) (es.drop a)
  come : Come c (es.drop a) d
theorem EdgAt.step {G : Gram} {L : List It} {ks : List (List It)} {es : List (Int × Int)} {d s a c : Nat} (h : EdgAt G L ks es d s a c) (hs : s < G.syms.length) :
    (onI G L s = [] ∧ EdgAt G L ks es d (s + 1) a c) ∨ (onI G L s ≠ [] ∧ ∃ (j : Nat) (ha : a < es.length), es[a] = ((s : Int), (j : Int)) ∧ ks[j]? = some (onI G L s) ∧ (j < c ∧ EdgAt G L ks es d (s + 1) (a + 1) c ∨ j = c ∧ EdgAt G L ks es d (s + 1) (a + 1) (c + 1))) := by
  have hE := h.edges
  rw [symsI_drop hs] at hE
  rcases edges_cons hE with ⟨h1, h2⟩ | ⟨h1, j, t, h2, h3, h4⟩
  · exact .inl ⟨h1, h.le, h2, h.come⟩
  · have ha : a < es.length := by
      rcases Nat.lt_or_ge a es.length with h5 | h5
      · exact h5
      · rw [List.drop_eq_nil_of_le h5] at h2; cases h2
    rw [List.drop_eq_getElem_cons ha] at h2
    simp only [List.cons.injEq] at h2
    obtain ⟨h2, rfl⟩ := h2
    have hc := h.come
    rw [List.drop_eq_getElem_cons ha, h2] at hc
    obtain ⟨j', e, hor⟩ := come_cons hc
    simp only at e
    obtain rfl : j = j' := by omega
    refine .inr ⟨h1, j, ha, h2, h3, ?_⟩
    rcases hor with ⟨h5, h6⟩ | ⟨h5, h6⟩
    · exact .inl ⟨h5, ha, h4, h6⟩
    · exact .inr ⟨h5, ha, h4, h6⟩
theorem EdgAt.done {G : Gram} {L : List It} {ks : List (List It)} {es : List (Int × Int)} {d a c : Nat} (h : EdgAt G L ks es d G.syms.length a c) : a = es.length ∧ c = d := by
  have h1 := h.edges
  rw [List.drop_eq_nil_of_le (by rw [symsI_len]; exact Nat.le_refl _)] at h1
  have h2 := edges_end h1
  have h3 := h.come
  rw [h2] at h3
  have h4 : es.length ≤ a := by
    have := congrArg List.length h2
    simp only [List.length_drop, List.length_nil] at this
    omega
  cases h3
  exact ⟨Nat.le_antisymm h.le h4, rfl⟩
/-- How far the states have been gone through. -/
structure StsAt (gs : List (List (Int × Int))) (n i c : Nat) : Prop where
  le : i ≤ gs.length
  done : Come 1 (gs.take i).flatten c
  left : Come c (gs.drop i).flatten n
theorem StsAt.start {G : Gram} {ks : List (List It)} {gs : List (List (Int × Int))} (h : ColOk G ks.length ks gs) : StsAt gs ks.length 0 1 := ⟨Nat.zero_le _, .nil, h.come⟩
theorem StsAt.step {G : Gram} {ks : List (List It)} {gs : List (List (Int × Int))} (ho : ColOk G ks.length ks gs) {i c : Nat} (h : StsAt gs ks.length i c) (hi : i < gs.length) :
    i < c ∧ ∃ d, EdgAt G (cloL G (ks.getD i [])) ks gs[i] d 0 0 c ∧ StsAt gs ks.length (i + 1) d := by
  obtain ⟨c', h1, h2⟩ := ho.ahead i hi
  obtain rfl := come_det h.done h1
  refine ⟨h2, ?_⟩
  have hl := h.left
  rw [List.drop_eq_getElem_cons hi, List.flatten_cons] at hl
  obtain ⟨d, h3, h4⟩ := come_split hl
  obtain ⟨k, hk, hE⟩ := ho.edges i hi
  refine ⟨d, ⟨Nat.zero_le _, ?_, by simpa using h3⟩, ⟨hi, ?_, h4⟩⟩
  · rw [List.getD_eq_getElem?_getD, hk, Option.getD_some]
    simpa using hE
  · rw [List.take_add_one, List.getElem?_eq_getElem hi, List.flatten_append]
    exact come_app h.done (by simpa using h3)
end Go.Proofs.Ytpnihegmhalcfaa
namespace Go.Proofs.Ytpnihegmhalcfaa
open Go.RowKit Go.MapKept Go.ChangeMaps
set_option maxHeartbeats 400000

/-- A state of those that Collection tells. -/
theorem IsStates.get {w : World} {a : Option Addr} {n c : Nat} {ks : List (List It)} {gs : List (List (Int × Int))} (h : IsStates w (.slice a n c) (ks.zip gs)) {k : Nat} (hk : k < ks.length) (hg : k < gs.length) :
    ∃ b o ka kc ga gc, a = some ⟨b, o, none⟩ ∧ IsItems w (.slice ka ks[k].length kc) ks[k] ∧ IsItems w (.slice ga gs[k].length gc) gs[k] ∧ w.cell? ⟨b, o + k * 2, none⟩ = some (.slice ka ks[k].length kc) ∧ w.cell? ⟨b, o + k * 2 + 1, none⟩ = some (.slice ga gs[k].length gc) := by
  have hz : k < (ks.zip gs).length := by rw [List.length_zip]; omega
  obtain ⟨b, o, e, kv, gv, h1, h2, h3, h4⟩ := h.at hz
  rw [List.getElem_zip] at h1 h2
  obtain ⟨ka, kc, e1, -, -, -⟩ := h1.parts
  obtain ⟨ga, gc, e2, -, -, -⟩ := h2.parts
  have e1' : kv = .slice ka ks[k].length kc := e1
  have e2' : gv = .slice ga gs[k].length gc := e2
  subst e1' e2'
  exact ⟨b, o, ka, kc, ga, gc, e, h1, h2, h3, h4⟩
end Go.Proofs.Ytpnihegmhalcfaa
namespace Go.Proofs.Ytpnihegmhalcfaa
open Go.RowKit
set_option maxHeartbeats 400000

/-- What the closure of table.Right tells. -/
def badGoto (st : Int) (x : Int) : Bool := if x < -1 then true else decide (st ≤ x)
theorem right1_any (x st : Int) (b : Nat) (w : World) (hc : w.cell? ⟨b, 3, none⟩ = some (.int .i64 st)) :
    Calls Try.prog 32 #[.int .i64 x, .pointer (some ⟨b, 0, none⟩)] w fun e w' => e = .returned (.bool (badGoto st x)) ∧ Below w.heap.size w w' := by
  unfold badGoto
  by_cases h : x < -1
  · have d1 : decide (x < -1) = true := decide_eq_true h
    rw [if_pos h]
    clear h
    go_enter Try.func32, Try.ntmps32
    go_wp2
    go_ret
    exact ⟨rfl, Below.refl _ _⟩
  · have d1 : decide (x < -1) = false := decide_eq_false h
    rw [if_neg h]
    clear h
    generalize e2 : decide (st ≤ x) = B2
    go_enter Try.func32, Try.ntmps32
    go_wp2
    go_ret
    exact ⟨rfl, Below.refl _ _⟩

/-- Entries that may stand in a table of one state, at a terminal from 0 on, of so many productions. -/
def actOk (np : Nat) (a : Ac) : Prop := (a.kind = 0 ∧ a.dst = 0) ∨ (a.kind = 2 ∧ 1 ≤ a.dst ∧ a.dst < np)
theorem lookAct_any (terms st term : Int) (vs : Value) (b : Option Addr) (np cp : Nat) (a : Ac) (w : World) (h : actOk np a) :
    Calls Try.prog 33 #[.agg #[.int .i64 terms, vs, .slice b np cp, .int .i64 st], .int .i64 term, .agg #[.int .u8 a.kind, .int .i64 a.dst]] w fun e w' => e = .returned (.bool true) ∧ Below w.heap.size w w' := by
  obtain ⟨kind, dst⟩ := a
  have hx := two_boxes w (.cells #[.int .i64 terms, vs, .slice b np cp, .int .i64 st] 75 (0, 0)) (.cells #[.int .u8 kind, .int .i64 dst] 81 (0, 0))
  obtain ⟨w1, hw1⟩ : ∃ w1, w1 = (w.alloc (.cells #[.int .i64 terms, vs, .slice b np cp, .int .i64 st] 75 (0, 0))).alloc (.cells #[.int .u8 kind, .int .i64 dst] 81 (0, 0)) := ⟨_, rfl⟩
  rw [← hw1] at hx
  have x2 : w1.cell? ⟨w.heap.size, 2, none⟩ = some (.slice b np cp) := obj_cell hx.1 2 rfl
  have y0 : w1.cell? ⟨w.heap.size + 1, 0, none⟩ = some (.int .u8 kind) := obj_cell hx.2.1 0 rfl
  have y1 : w1.cell? ⟨w.heap.size + 1, 1, none⟩ = some (.int .i64 dst) := obj_cell hx.2.1 1 rfl
  have HB := Lib.hid hx.2.2
  have HW := Lib.hid hw1
  clear hx hw1
  rcases h with ⟨h1, h2⟩ | ⟨h1, h2, h3⟩
  · simp only at h1 h2
    subst h1 h2
    go_enter Try.func33, Try.ntmps33
    go_upto_region 1 with fail
    rw [← HW.out]
    go_wp2
    go_ret
    exact ⟨rfl, HB.out⟩
  · simp only at h1 h2 h3
    subst h1
    have d1 : decide ((1 : Int) ≤ dst) = true := decide_eq_true h2
    have d2 : decide (dst < (np : Int)) = true := decide_eq_true h3
    clear h2 h3
    go_enter Try.func33, Try.ntmps33
    go_upto_region 1 with fail
    rw [← HW.out]
    go_wp2
    go_ret
    exact ⟨rfl, HB.out⟩

/-- A table of one row. -/
structure Tab1 (w : World) (v : Value) (row : List Ac) (gotos : List Int) : Prop where
  lie : ∃ ga ca gg cg rv gv, v = .agg #[.slice (some ⟨ga, 0, none⟩) 1 ca, .slice (some ⟨gg, 0, none⟩) 1 cg] ∧ w.cell? ⟨ga, 0, none⟩ = some rv ∧ IsActs w rv row ∧ w.cell? ⟨gg, 0, none⟩ = some gv ∧ Ints w gv gotos
theorem Tab1.fr {w w' : World} {v : Value} {row : List Ac} {gotos : List Int} (h : Tab1 w v row gotos) (k : Fr nothing w w') : Tab1 w' v row gotos := by
  obtain ⟨ga, ca, gg, cg, rv, gv, h1, h2, h3, h4, h5⟩ := h.lie
  exact ⟨ga, ca, gg, cg, rv, gv, h1, k.cell h2 fun e => e, h3.fr k, k.cell h4 fun e => e, h5.fr k⟩
end Go.Proofs.Ytpnihegmhalcfaa
namespace Go.Proofs.Ytpnihegmhalcfaa
open Go.RowKit Go.MapKept Go.ChangeMaps
set_option maxHeartbeats 400000

/-- What a production at a place of a grammar in memory reads as. -/
theorem prd19_at {w : World} {pa : Option Addr} {n c : Nat} {l : List Prd} (h : IsPrds w (.slice pa n c) l) {k : Nat} (hk : k < l.length) :
    ∃ b o ra rc, pa = some ⟨b, o, none⟩ ∧ w.cell? ⟨b, o + k * 6, none⟩ = some (.int .i64 l[k].left) ∧ w.cell? ⟨b, o + k * 6 + 1, none⟩ = some (.slice ra l[k].right.length rc) ∧ Ints w (.slice ra l[k].right.length rc) l[k].right := by
  obtain ⟨pg, po, ra, rc, rfl, hprd, hcs⟩ := h.get k hk
  have c0 := hcs 0 (by simp [prdCells])
  have c1 := hcs 1 (by simp [prdCells])
  simp only [prdCells, List.getElem_cons_zero, List.getElem_cons_succ, Nat.add_zero] at c0 c1
  obtain ⟨_, r, hr, e⟩ := hprd
  have e' : Value.slice ra l[k].right.length rc = r := by simpa [prdVal] using e
  subst e'
  exact ⟨pg, po, ra, rc, rfl, c0, c1, hr⟩
theorem right_left {G : Gram} (h : rightG G = true) (k : Nat) (hk : k < G.prods.length) : 0 ≤ G.prods[k].left := by
  obtain ⟨terms, syms, prods⟩ := G
  have ht := (rightG_parts h).1.1
  have := (rightG_parts h).2.2
  simp only at ht
  cases prods with
  | nil => simp at hk
  | cons p r =>
    simp only [prodsG, Bool.and_eq_true, List.all_eq_true] at this
    obtain ⟨h1, h2⟩ := this
    cases k with
    | zero =>
      unfold firstG at h1
      simp only [Bool.and_eq_true, decide_eq_true_eq] at h1
      have := h1.1
      simp only [List.getElem_cons_zero]
      omega
    | succ k =>
      have hk' : k < r.length := by simpa using hk
      have h3 := h2 r[k] (List.getElem_mem _)
      simp only [List.getElem_cons_succ]
      generalize r[k] = p at *
      unfold prodG at h3
      simp only [Bool.and_eq_true, Bool.not_eq_true', Bool.or_eq_false_iff, decide_eq_false_iff_not] at h3
      have := h3.1.1
      omega
theorem ris_len : ∀ {l m : List It}, RisI l → RisI m → (∀ x ∈ l, x ∈ m) → l.length ≤ m.length
  | [], _, _, _, _ => Nat.zero_le _
  | a :: l, [], _, _, h => by have := h a (by simp); simp at this
  | a :: l, b :: m, hl, hm, h => by
    have hl' := List.pairwise_cons.1 hl
    have hm' := List.pairwise_cons.1 hm
    have key : ∀ x ∈ l, x ∈ m := fun x hx => by
      rcases List.mem_cons.1 (h x (List.mem_cons_of_mem _ hx)) with e | e
      · subst e
        rcases List.mem_cons.1 (h a (by simp)) with e2 | e2
        · subst e2
          exact absurd (hl'.1 _ hx) (ltI_irrefl _)
        · exact absurd (ltI_trans (hl'.1 _ hx) (hm'.1 a e2)) (ltI_irrefl _)
      · exact e
    have := ris_len hl'.2 hm'.2 key
    simp only [List.length_cons]
    omega
/-- What has been put together of a closure so far. -/
structure OfAt (G : Gram) (K L : List It) : Prop where
  ris : RisI L
  ker : ∀ x ∈ K, x ∈ L
  sound : ∀ x ∈ L, InClo G K x
theorem OfAt.len {G : Gram} {K L : List It} (h : OfAt G K L) : L.length ≤ (cloL G K).length := ris_len h.ris (cloL_ris G K) fun x hx => cloL_mem.2 (h.sound x hx)
theorem OfAt.put {G : Gram} {K L : List It} (h : OfAt G K L) {x y : It} (hx : x ∈ L) (hy : StepI G x y) : OfAt G K (putI y L) := by
  refine ⟨putI_ris h.ris, fun z hz => putI_mem.2 (.inr (h.ker z hz)), fun z hz => ?_⟩
  rcases putI_mem.1 hz with rfl | hz
  · obtain ⟨p, hp, h1, rfl⟩ := hy
    exact .step hp (h.sound x hx) h1 rfl
  · exact h.sound z hz
theorem OfAt.done {G : Gram} {K L : List It} (h : OfAt G K L) (hc : ∀ x ∈ L, ∀ y, StepI G x y → y ∈ L) : L = cloL G K := by
  refine cloL_is h.ris fun x => ⟨h.sound x, fun hx => ?_⟩
  induction hx with
  | ker hk => exact h.ker _ hk
  | step hp _ hb hl ih => exact hc _ ih _ ⟨_, hp, by rw [hb, hl], rfl⟩
theorem putI_longer {x : It} {l : List It} (h : newB x l = true) : (putI x l).length = l.length + 1 := by
  rw [putI_new h, List.length_append, List.length_cons, List.length_take, List.length_drop]
  have := lessN_le x l
  omega
theorem behZ_step {G : Gram} (hr : rightG G = true) {x : It} {p : Nat} (hp : p < G.prods.length) : G.prods[p].left = behZ G x ↔ behI G x = some G.prods[p].left := by
  have := right_left hr p hp
  unfold behZ
  cases hb : behI G x with
  | none => simp; omega
  | some s => simp [eq_comm]
def boolV : Value → Bool
  | .bool b => b
  | _ => false
def lenV : Value → Nat
  | .slice _ n _ => n
  | _ => 0

/-- What put tells, owned if what it was handed was. -/
theorem put_owned {w w' : World} {B : Nat} {u v : Value} {l : List It} {x : It} (ho : OwnI w B u l) (hB : B ≤ w.heap.size) (hb : Below w.heap.size w w') (h0 : newB x l = false → v = u) (h1 : newB x l = true → OwnI w' w.heap.size v (putI x l)) : OwnI w' B v (putI x l) := by
  cases hn : newB x l with
  | false =>
    rw [h0 hn, putI_old hn]
    exact own_fr ho (Fr.new hb) fun _ _ => id
  | true => exact (h1 hn).down hB
set_option maxRecDepth 100000 in
set_option maxHeartbeats 8000000 in
theorem of19_any (G : Gram) (v kv : Value) (K : List It) (w : World) (h : IsGram w v G) (hr : rightG G = true) (hk : IsItems w kv K) (hin : ∀ x ∈ K, InI G x) (hl : K.length ≤ 90000) :
    Calls Try.prog 49 #[v, kv] w fun e w' => ∃ u, e = .returned u ∧ IsItems w' u (cloL G K) ∧ OwnI w' w.heap.size u (cloL G K) ∧ Below w.heap.size w w' := by
  have hG := h
  obtain ⟨hterms, vs, vp, rfl, hs, hp⟩ := h
  obtain ⟨-, sa, sc, rfl, -, -, -⟩ := id hs
  obtain ⟨-, pa, pc, rfl, -, -, -⟩ := id hp
  obtain ⟨ka, kc, rfl, -, -, -⟩ := id hk.parts
  have hS0 : Stands w.heap.size w G sa pa sc pc (w.alloc (grO G sa pa sc pc)) := ⟨alloc_obj _ _, hG.fr (Fr.alloc _ _), (Below.refl _ w).alloc (Nat.le_refl _) _⟩
  have HS0 := Lib.hid hS0
  have HK := Lib.hid hk
  have HR := Lib.hid hr
  have HIN := Lib.hid hin
  have hpl := right_short hr
  have hcl := cloL_len G K
  clear hS0 hs hp hG hk hr hin
  obtain ⟨nK, hnK⟩ : ∃ n, K.length = n := ⟨_, rfl⟩
  rw [hnK] at hl HK hcl ⊢
  have HNK := Lib.hid hnK
  clear hnK
  obtain ⟨N, hN⟩ : ∃ n, (cloL G K).length = n := ⟨_, rfl⟩
  rw [hN] at hcl
  have HN := Lib.hid hN
  clear hN
  go_enter Try.func49, Try.ntmps49
  go_upto_region 1 with fail
  unfold grO at HS0
  generalize hw1 : w.alloc (Obj.cells #[.int .i64 G.terms, .slice sa G.syms.length sc, .slice pa G.prods.length pc] 25 (0, 0)) = W1 at *
  clear hw1
  go_wp2
  go_loopw [5, 6] (fun u i wr => ∃ (k : Nat) (u' : Value) (L : List It), u' = u ∧ k ≤ nK ∧ i = .int .i64 k ∧ (IsItems wr u' L ∧ OwnI wr W1.heap.size u' L) ∧ RisI L ∧ (∀ x, x ∈ L ↔ x ∈ K.take k) ∧ L.length ≤ k ∧ Below W1.heap.size W1 wr) (fun _ i _ => nK - (intOf i).toNat)
  case atStart => exact ⟨0, _, [], rfl, Nat.zero_le _, rfl, ⟨isItems_nil _, OwnI.nil _ _⟩, List.Pairwise.nil, by simp, Nat.le_refl _, Below.refl _ _⟩
  case round =>
    obtain ⟨k, u, L, rfl, hkn, rfl, ⟨hL, hLo⟩, hris, hmem, hlen, hb⟩ := hrel
    by_cases hlt : k < nK
    · have hkk : k < K.length := by rw [HNK.out]; exact hlt
      obtain ⟨kb, ko, rfl, c0, c1, i0, i1⟩ := (HK.out.fr (Fr.new (HS0.out.keep hb).below)).at hkk
      have hmem' := take_more hkk
      have HP := Lib.hid (put19_any u L K[k] wr hL ⟨i0, i1⟩ (by omega))
      have HM := Lib.hid (And.intro hris (And.intro hmem (And.intro hmem' (And.intro hlen hb))))
      have HLO := Lib.hid hLo
      have hpl2 := putI_len K[k] L
      clear hris hmem hmem' hlen hb hL hLo i0 i1
      generalize K[k] = x at *
      clear hkk
      obtain ⟨xa, xb⟩ := x
      unfold itVal at HP
      simp only at c0 c1
      go_wp2_with (go_at_call 86; refine HP.out.mono ?_; rintro e w2 ⟨v2, rfl, hi2, ho0, ho1, hb2⟩)
      go_roundw
      case rel => exact ⟨k + 1, v2, _, rfl, by omega, by simp, ⟨hi2, put_owned HLO.out HM.out.2.2.2.2.size hb2 ho0 ho1⟩, putI_ris HM.out.1, fun y => by rw [putI_mem, HM.out.2.1, HM.out.2.2.1], by have := HM.out.2.2.2.1; omega, HM.out.2.2.2.2.trans (hb2.mono HM.out.2.2.2.2.size)⟩
      case measure => simp [intOf]; omega
    · obtain rfl : k = nK := by omega
      have hof : OfAt G K L := ⟨hris, fun x hx => (hmem x).2 (by rw [List.take_of_length_le (Nat.le_of_eq HNK.out)]; exact hx), fun x hx => .ker (List.mem_of_mem_take ((hmem x).1 hx))⟩
      have HO := Lib.hid (And.intro hof (And.intro (And.intro hL hLo) hb))
      clear hof hL hLo hb hris hmem hlen hlt
      generalize wr = W2 at *
      go_wp2
      go_loopw [5, 7, 8, 9, 10] (fun u m _ _ _ wr => ∃ (mb : Bool) (u' : Value) (L : List It), u' = u ∧ m = .bool mb ∧ (IsItems wr u' L ∧ OwnI wr W1.heap.size u' L) ∧ OfAt G K L ∧ (mb = false → ∀ x ∈ L, ∀ y, StepI G x y → y ∈ L) ∧ Below W1.heap.size W1 wr) (fun u m _ _ _ _ => 2 * (N - lenV u) + if boolV m then 1 else 0)
      case atStart => exact ⟨true, u, L, rfl, rfl, HO.out.2.1, HO.out.1, (fun e => by cases e), HO.out.2.2⟩
      case round =>
        obtain ⟨mb, u, L1, rfl, rfl, ⟨hL, hLo⟩, hof, hcl1, hb⟩ := hrel
        have hle := hof.len
        rw [HN.out] at hle
        obtain ⟨ua, uc, rfl, -, -, -⟩ := id hL.parts
        cases mb with
        | false =>
          have hd := hof.done (hcl1 rfl)
          subst hd
          have hS := HS0.out.keep hb
          clear hcl1 hof
          go_wp2
          go_ret
          exact ⟨_, rfl, hL, hLo.down HS0.out.below.size, hS.below⟩
        | true =>
          have HL := Lib.hid (And.intro (And.intro hL hLo) (And.intro hof hb))
          clear hL hLo hof hb hcl1
          generalize wr = WA at *
          generalize hn1 : L1.length = n1 at *
          have HN1 := Lib.hid hn1
          clear hn1
          go_wp2
          go_loopw [5, 7, 8, 9, 10] (fun u m i _ _ wr => ∃ (mb : Bool) (u' : Value) (L : List It) (k : Nat), u' = u ∧ m = .bool mb ∧ i = .int .i64 k ∧ k ≤ L.length ∧ (IsItems wr u' L ∧ OwnI wr W1.heap.size u' L) ∧ OfAt G K L ∧ (mb = false → L = L1 ∧ ∀ x ∈ L1.take k, ∀ y, StepI G x y → y ∈ L1) ∧ (mb = true → n1 < L.length) ∧ Below W1.heap.size W1 wr) (fun _ _ i _ _ _ => N + 1 - (intOf i).toNat)
          case atStart => exact ⟨false, _, L1, 0, rfl, rfl, rfl, Nat.zero_le _, HL.out.1, HL.out.2.1, (fun _ => ⟨rfl, by simp⟩), (fun e => by cases e), HL.out.2.2⟩
          case round =>
            obtain ⟨mb, u, L, k, rfl, rfl, rfl, hkl, ⟨hi, hio⟩, hof, hf, ht, hb⟩ := hrel
            have hle := hof.len
            rw [HN.out] at hle
            obtain ⟨va, vc, rfl, -, -, -⟩ := id hi.parts
            have HQ := Lib.hid (And.intro hi (And.intro hof (And.intro hf (And.intro ht hb))))
            have HQO := Lib.hid hio
            clear hi hio hof hf ht hb
            generalize hln : L.length = ln at *
            have HLN := Lib.hid hln
            clear hln
            by_cases hgo : k < ln ∧ mb = false
            · obtain ⟨hkn, rfl⟩ := hgo
              have hkL : k < L.length := by rw [HLN.out]; exact hkn
              have hS := HS0.out.keep HQ.out.2.2.2.2
              obtain ⟨ob, oo, rfl, c0, c1, x6, x7⟩ := HQ.out.1.at hkL
              have hxL := List.getElem_mem hkL
              have hxin : InI G L[k] := inClo_in HIN.out (HQ.out.2.1.sound _ hxL)
              have hprev := (HQ.out.2.2.1 rfl).2
              have hL1 := (HQ.out.2.2.1 rfl).1
              rw [← hL1] at hprev
              have htk := take_more hkL
              have HBH := Lib.hid fun p : After wr => after_call p (behind19_any G (grV G sa pa sc pc) p.w (hS.gram.fr (Fr.new p.ok)) L[k] hxin)
              unfold grV at HBH
              have e0 := after_cell hS.d0
              have e1 := after_cell hS.d1
              have e2 := after_cell hS.d2
              have f0 := after_cell c0
              have f1 := after_cell c1
              have HX := Lib.hid (And.intro hxL (And.intro hprev (And.intro htk (And.intro hL1 hS))))
              have hne := after_ne wr
              clear hS c0 c1 x6 x7 hxL hxin hprev htk hL1
              generalize L[k] = x at *
              clear hkL
              generalize hbz : behZ G x = bz at *
              have HBZ := Lib.hid hbz
              clear hbz
              obtain ⟨xa, xb⟩ := x
              unfold itVal at HBH
              simp only at f0 f1
              have hkt : decide (k < ln) = true := decide_eq_true hkn
              go_upto_region 12 with fail
              refine wp_region_after wr (by kernel_rfl) (by kernel_rfl) (Below.refl _ _) ?_
              repeat (go_big_quiet_step (exact HBH.out _))
              refine wpQuiet_nil ?_
              intro _ hw'
              obtain ⟨pw, hw''⟩ := hw'
              subst hw''
              have hb2 := HQ.out.2.2.2.2.trans (pw.ok.mono HQ.out.2.2.2.2.size)
              have hi2 := HQ.out.1.fr (Fr.new pw.ok)
              have HW2 := Lib.hid (And.intro (And.intro hi2 (own_fr HQO.out (Fr.new pw.ok) fun _ _ => id)) hb2)
              have hlg : ln ≤ 100000 := by omega
              clear e0 e1 e2 f0 f1 hne hi2 hb2 HBH
              generalize pw.w = WB at *
              clear pw
              go_wp2
              go_loopw [5, 7, 10] (fun u m q wr => ∃ (mb : Bool) (u' : Value) (L' : List It) (r : Nat), u' = u ∧ m = .bool mb ∧ q = .int .i64 r ∧ r ≤ G.prods.length ∧ (IsItems wr u' L' ∧ OwnI wr W1.heap.size u' L') ∧ OfAt G K L' ∧ (mb = false → L' = L ∧ ∀ y, StepTo G (xa, xb) r y → y ∈ L) ∧ (mb = true → ln < L'.length) ∧ Below W1.heap.size W1 wr) (fun _ _ q _ => G.prods.length + 1 - (intOf q).toNat)
              case atStart => exact ⟨false, _, L, 0, rfl, rfl, rfl, Nat.zero_le _, HW2.out.1, HQ.out.2.1, (fun _ => ⟨rfl, fun y hy => absurd hy stepTo_zero⟩), (fun e => by cases e), HW2.out.2⟩
              case round =>
                obtain ⟨mb, u, L', r, rfl, rfl, rfl, hrm, ⟨hi, hio⟩, hof, hf, ht, hb⟩ := hrel
                have hle' := hof.len
                rw [HN.out] at hle'
                have hS := HS0.out.keep hb
                have d2 := hS.d2
                obtain ⟨va', vc', rfl, -, -, -⟩ := id hi.parts
                have HQ2 := Lib.hid (And.intro hi (And.intro hof (And.intro hf (And.intro ht hb))))
                have HQ2O := Lib.hid hio
                clear hi hio hof hf ht hb
                generalize hln2 : L'.length = ln2 at *
                have HLN2 := Lib.hid hln2
                clear hln2
                by_cases hgo : r < G.prods.length ∧ mb = false
                · obtain ⟨hrm2, rfl⟩ := hgo
                  have hL' := (HQ2.out.2.2.1 rfl).1
                  have hprev := (HQ2.out.2.2.1 rfl).2
                  obtain ⟨_, vs', vp', he, _, hPr⟩ := id hS.gram
                  unfold grV at he
                  simp only [Value.agg.injEq, Array.mk.injEq, List.cons.injEq, true_and, and_true] at he
                  obtain ⟨rfl, rfl⟩ := he
                  obtain ⟨pb, po, _, _, rfl, z0, -, -⟩ := prd19_at hPr hrm2
                  have hz := behZ_step HR.out (x := (xa, xb)) hrm2
                  have hhit := fun y (h : behI G (xa, xb) = some G.prods[r].left) => stepTo_hit (y := y) hrm2 h
                  have hmiss := fun y (h : behI G (xa, xb) ≠ some G.prods[r].left) => stepTo_miss (y := y) hrm2 h
                  have hstep : behI G (xa, xb) = some G.prods[r].left → StepI G (xa, xb) ((r : Int), 0) := fun h => ⟨r, hrm2, h, rfl⟩
                  have HZ := Lib.hid (And.intro hhit (And.intro hmiss (And.intro hstep (And.intro hL' hprev))))
                  have hrt : decide (r < G.prods.length) = true := decide_eq_true hrm2
                  rw [HBZ.out] at hz
                  clear hPr hhit hmiss hstep hS hL' hprev
                  generalize G.prods[r].left = lf at *
                  by_cases hit : lf = bz
                  · have hbi := hz.1 hit
                    have hit' : (lf == bz) = true := by simp [hit]
                    have hP := put19_any (.slice va' ln2 vc') L' ((r : Int), 0) wr HQ2.out.1 ⟨by unfold i64; simp only; omega, by unfold i64; simp only; omega⟩ (by rw [HLN2.out]; omega)
                    unfold itVal at hP
                    have HP := Lib.hid hP
                    have HBI := Lib.hid hbi
                    clear hit hz hbi hP
                    go_wp2_with (go_at_call 86; refine HP.out.mono ?_; rintro e w2 ⟨v2, rfl, hi2, ho0, ho1, hb2⟩)
                    go_roundw
                    case rel =>
                      have hy := HZ.out.2.2.1 HBI.out
                      have hxL' : (xa, xb) ∈ L' := by rw [HZ.out.2.2.2.1]; exact HX.out.1
                      refine ⟨newB ((r : Int), 0) L', v2, _, r + 1, rfl, rfl, by simp, by omega, ⟨hi2, put_owned HQ2O.out HQ2.out.2.2.2.2.size hb2 ho0 ho1⟩, HQ2.out.2.1.put hxL' hy, fun e => ?_, fun e => ?_, HQ2.out.2.2.2.2.trans (hb2.mono HQ2.out.2.2.2.2.size)⟩
                      · have ho := putI_old e
                        rw [ho]
                        refine ⟨HZ.out.2.2.2.1, fun y hy' => ?_⟩
                        rcases (HZ.out.1 y HBI.out).1 hy' with rfl | hy'
                        · rw [← HZ.out.2.2.2.1, ← ho]
                          exact putI_mem.2 (.inl rfl)
                        · exact HZ.out.2.2.2.2 y hy'
                      · rw [putI_longer e, HZ.out.2.2.2.1, HLN.out]
                        omega
                    case measure => simp [intOf]; omega
                  · have hnb : behI G (xa, xb) ≠ some lf := fun h => hit (hz.2 h)
                    have hit' : (lf == bz) = false := beq_eq_false_iff_ne.2 hit
                    have HNB := Lib.hid hnb
                    clear hit hz hnb
                    go_wp2
                    go_roundw
                    case rel => exact ⟨false, _, L', r + 1, rfl, rfl, by simp, by omega, ⟨HQ2.out.1, HQ2O.out⟩, HQ2.out.2.1, (fun _ => ⟨HZ.out.2.2.2.1, fun y hy => HZ.out.2.2.2.2 y ((HZ.out.2.1 y HNB.out).1 hy)⟩), (fun e => by cases e), HQ2.out.2.2.2.2⟩
                    case measure => simp [intOf]; omega
                · have hrel' : mb = false → L' = L1 ∧ ∀ z ∈ L1.take (k + 1), ∀ y, StepI G z y → y ∈ L1 := fun e => by
                    obtain ⟨h1, h2⟩ := HQ2.out.2.2.1 e
                    have hrm3 : G.prods.length ≤ r := by
                      rcases Nat.lt_or_ge r G.prods.length with h | h
                      · exact absurd ⟨h, e⟩ hgo
                      · exact h
                    have hLL := HX.out.2.2.2.1
                    refine ⟨by rw [h1, hLL], fun z hz y hy => ?_⟩
                    rw [← hLL] at hz ⊢
                    rcases (HX.out.2.2.1 z).1 hz with rfl | hz
                    · exact h2 y ((stepTo_all hrm3).2 hy)
                    · exact HX.out.2.1 z hz y hy
                  have hgt : mb = true → n1 < L'.length := fun e => by
                    have h1 := HQ2.out.2.2.2.1 e
                    rw [HLN2.out]
                    have h2 := HX.out.2.2.2.1
                    have h3 := HLN.out
                    rw [h2, HN1.out] at h3
                    omega
                  have hkl2 : k + 1 ≤ L'.length := by
                    cases mb with
                    | true => have h1 := HQ2.out.2.2.2.1 rfl; rw [HLN2.out]; omega
                    | false => rw [(HQ2.out.2.2.1 rfl).1, HLN.out]; omega
                  have HE := Lib.hid (And.intro hrel' (And.intro hgt hkl2))
                  clear hrel' hgt hkl2
                  by_cases hrm2 : r < G.prods.length
                  · have hmb : mb = true := by cases mb with
                      | true => rfl
                      | false => exact absurd ⟨hrm2, rfl⟩ hgo
                    subst hmb
                    have hrt : decide (r < G.prods.length) = true := decide_eq_true hrm2
                    clear hgo
                    go_wp2
                    go_roundw
                    case rel => exact ⟨true, _, L', k + 1, rfl, rfl, by simp, HE.out.2.2, ⟨HQ2.out.1, HQ2O.out⟩, HQ2.out.2.1, (fun e => by cases e), HE.out.2.1, HQ2.out.2.2.2.2⟩
                    case measure => simp [intOf]; omega
                  · have hrt : decide (r < G.prods.length) = false := decide_eq_false hrm2
                    clear hgo
                    go_wp2
                    go_roundw
                    case rel => exact ⟨mb, _, L', k + 1, rfl, rfl, by simp, HE.out.2.2, ⟨HQ2.out.1, HQ2O.out⟩, HQ2.out.2.1, HE.out.1, HE.out.2.1, HQ2.out.2.2.2.2⟩
                    case measure => simp [intOf]; omega
            · by_cases hkn : k < ln
              · have hmb : mb = true := by cases mb with
                  | true => rfl
                  | false => exact absurd ⟨hkn, rfl⟩ hgo
                subst hmb
                have hlonger := HQ.out.2.2.2.1 rfl
                have hkt : decide (k < ln) = true := decide_eq_true hkn
                clear hgo
                go_wp2
                go_roundw
                case rel => exact ⟨true, _, L, rfl, rfl, ⟨HQ.out.1, HQO.out⟩, HQ.out.2.1, (fun e => by cases e), HQ.out.2.2.2.2⟩
                case measure => simp [lenV, boolV]; omega
              · have hkt : decide (k < ln) = false := decide_eq_false hkn
                have hend : mb = false → ∀ x ∈ L, ∀ y, StepI G x y → y ∈ L := fun e x hx y hy => by
                  obtain ⟨h1, h2⟩ := HQ.out.2.2.1 e
                  rw [h1] at hx ⊢
                  refine h2 x ?_ y hy
                  rw [List.take_of_length_le (by have := HLN.out; rw [h1] at this; omega)]
                  exact hx
                have HE := Lib.hid hend
                have hml : mb = true → n1 < ln := HQ.out.2.2.2.1
                have hn1 : mb = false → ln = n1 := fun e => by rw [← HLN.out, ← HN1.out, (HQ.out.2.2.1 e).1]
                clear hgo hend
                go_wp2
                go_roundw
                case rel => exact ⟨mb, _, L, rfl, rfl, ⟨HQ.out.1, HQO.out⟩, HQ.out.2.1, HE.out, HQ.out.2.2.2.2⟩
                case measure =>
                  cases mb with
                  | true => have := hml rfl; simp [lenV, boolV]; omega
                  | false => have := hn1 rfl; simp [lenV, boolV]; omega
end Go.Proofs.Ytpnihegmhalcfaa
namespace Go.Proofs.Ytpnihegmhalcfaa
open Go.RowKit Go.MapKept Go.ChangeMaps
set_option maxHeartbeats 400000

theorem onI_take {G : Gram} {L : List It} {s : Int} {k : Nat} (hk : k < L.length) : onI G (L.take (k + 1)) s = if behI G L[k] = some s then onI G (L.take k) s ++ [(L[k].1, L[k].2 + 1)] else onI G (L.take k) s := by
  have e : L.take (k + 1) = L.take k ++ [L[k]] := by rw [List.take_add_one, List.getElem?_eq_getElem hk]; rfl
  unfold onI
  rw [e, List.filter_append, List.map_append]
  by_cases h : behI G L[k] = some s <;> simp [h]
theorem behZ_is {G : Gram} {x : It} {s : Int} (hs : 0 ≤ s) : behZ G x = s ↔ behI G x = some s := by
  unfold behZ
  cases hb : behI G x with
  | none => simp; omega
  | some t => simp

set_option maxRecDepth 100000 in
set_option maxHeartbeats 8000000 in
theorem on19_any (G : Gram) (v uv : Value) (L : List It) (s : Int) (w : World) (h : IsGram w v G) (hr : rightG G = true) (hu : IsItems w uv L) (hin : ∀ x ∈ L, InI G x) (hl : L.length ≤ 100000) (hs0 : 0 ≤ s) :
    Calls Try.prog 50 #[v, uv, .int .i64 s] w (NewI (onI G L s) w) := by
  have hG := h
  obtain ⟨hterms, vs, vp, rfl, hs, hp⟩ := h
  obtain ⟨-, sa, sc, rfl, -, -, -⟩ := id hs
  obtain ⟨-, pa, pc, rfl, -, -, -⟩ := id hp
  obtain ⟨ua, uc, rfl, -, -, -⟩ := id hu.parts
  have hS0 : Stands w.heap.size w G sa pa sc pc (w.alloc (grO G sa pa sc pc)) := ⟨alloc_obj _ _, hG.fr (Fr.alloc _ _), (Below.refl _ w).alloc (Nat.le_refl _) _⟩
  have HS0 := Lib.hid hS0
  have HU := Lib.hid hu
  have HR := Lib.hid hr
  have HIN := Lib.hid hin
  obtain ⟨i0, hi, hz0, hz1, hz2⟩ := info_parts Try.infoItem
  clear hS0 hs hp hG hu hr hin
  obtain ⟨n, hn⟩ : ∃ n, L.length = n := ⟨_, rfl⟩
  rw [hn] at hl HU ⊢
  have HNL := Lib.hid hn
  clear hn
  go_enter Try.func50, Try.ntmps50
  go_upto_region 1 with fail
  unfold grO at HS0
  generalize hw1 : w.alloc (Obj.cells #[.int .i64 G.terms, .slice sa G.syms.length sc, .slice pa G.prods.length pc] 25 (0, 0)) = W1 at *
  clear hw1
  go_wp2
  go_loopw [7, 8] (fun u i wr => ∃ (k : Nat) (u' : Value), u' = u ∧ k ≤ n ∧ i = .int .i64 k ∧ OwnI wr W1.heap.size u' (onI G (L.take k) s) ∧ Below W1.heap.size W1 wr) (fun _ i _ => n - (intOf i).toNat)
  case atStart => exact ⟨0, _, rfl, Nat.zero_le _, rfl, OwnI.nil _ _, Below.refl _ _⟩
  case round =>
    obtain ⟨k, u, rfl, hkn, rfl, hown, hb⟩ := hrel
    by_cases hlt : k < n
    · have hkL : k < L.length := by rw [HNL.out]; exact hlt
      have hS := HS0.out.keep hb
      obtain ⟨ob, oo, rfl, c0, c1, x6, x7⟩ := (HU.out.fr (Fr.new hS.below)).at hkL
      have hxin : InI G L[k] := HIN.out _ (List.getElem_mem hkL)
      have hsm := smallI_i64 (inI_small HR.out hxin)
      have hon := onI_take (G := G) (s := s) hkL
      have hbz := behZ_is (G := G) (x := L[k]) hs0
      have HBH := Lib.hid fun p : After wr => after_call p (behind19_any G (grV G sa pa sc pc) p.w (hS.gram.fr (Fr.new p.ok)) L[k] hxin)
      unfold grV at HBH
      have e0 := after_cell hS.d0
      have e1 := after_cell hS.d1
      have e2 := after_cell hS.d2
      have f0 := after_cell c0
      have f1 := after_cell c1
      have hd2 : -9223372036854775808 ≤ L[k].2 + 1 ∧ L[k].2 + 1 ≤ 9223372036854775807 := by
        have h1 := (inI_small HR.out hxin).2
        have h1 := (small_iff _).1 h1
        omega
      have HX := Lib.hid (And.intro hown (And.intro hb (And.intro hon (And.intro c0 c1))))
      have hol : (onI G (L.take k) s).length ≤ 100000 := by
        have h1 := onI_len G (L.take k) s
        have h2 := List.length_take_le k L
        omega
      have hne := after_ne wr
      obtain ⟨qa, qc, rfl, -, -, -⟩ := own_as_cells2 hown
      clear hS c0 c1 x6 x7 hxin hon hown hb hsm
      generalize L[k] = x at *
      clear hkL
      generalize behZ G x = bz at *
      generalize hM : onI G (L.take k) s = M at *
      clear hM
      obtain ⟨xa, xb⟩ := x
      unfold itVal at HBH
      simp only at f0 f1 hd2 HX
      generalize hml : M.length = mn at *
      have HML := Lib.hid hml
      clear hml
      by_cases hit : bz = s
      · have hbi := hbz.1 hit
        have hit' : (bz == s) = true := by simp [hit]
        have hon := HX.out.2.2.1
        rw [if_pos hbi] at hon
        have HON := Lib.hid hon
        clear hon hbi hit hbz
        go_upto_region 5 with fail
        refine wp_region_after wr (by kernel_rfl) (by kernel_rfl) (Below.refl _ _) ?_
        repeat (go_big_quiet_step (exact HBH.out _))
        refine wpQuiet_nil ?_
        intro _ hw'
        obtain ⟨pw, hw''⟩ := hw'
        subst hw''
        go_upto_region 6 with fail
        have hwr : IntKind.i64.wrap (xb + 1) = xb + 1 := IntWalk.i64_in _ (by omega)
        obtain ⟨wq, hq⟩ : ∃ wq, wq = pw.w.drew := ⟨_, rfl⟩
        have kq : Fr nothing wr wq := by rw [hq]; exact (Fr.new pw.ok).trans (Fr.drew _)
        have hownq : wq.ownsRow W1.heap.size 102 2 (.slice qa mn qc) M.length (M.flatMap encI) := own_fr HX.out.1 kq fun _ _ => id
        rw [HML.out] at hownq
        have hS0 : wq.cell? ⟨ob, oo + k * 2, none⟩ = some (.int .i64 xa) ∧ wq.cell? ⟨ob, oo + k * 2 + 1, none⟩ = some (.int .i64 xb) := ⟨kq.cell HX.out.2.2.2.1 id, kq.cell HX.out.2.2.2.2 id⟩
        have HQ := Lib.hid (And.intro kq hownq)
        refine wp_region_anyT (fun j W => j < 14 → W.cell? ⟨ob, oo + k * 2, none⟩ = some (.int .i64 xa) ∧ W.cell? ⟨ob, oo + k * 2 + 1, none⟩ = some (.int .i64 xb)) (by kernel_rfl) ?_
        rw [← hq]
        clear hq kq hownq e0 e1 e2 f0 f1 hne HBH
        clear pw
        refine anyT_take (R := _) (i := 0) (v := ?_) (fun j => decide (j < 14)) (fun j w h k => k (of_decide_eq_true h)) (fun w h _ => h) rfl (by kernel_rfl) (fun _ _ _ h => h) _ _ _ _ (by kernel_rfl) (by kernel_rfl) (by kernel_rfl) (by kernel_rfl) (Or.inl ⟨by rfl, ?_⟩) (by assumption) ?_
        rotate_left
        · (intro w hSw; (try dsimp only at hSw); go_simp)
          try with_reducible rfl
        refine anyT_take (R := _) (i := 1) (v := ?_) (fun j => decide (j < 14)) (fun j w h k => k (of_decide_eq_true h)) (fun w h _ => h) rfl (by kernel_rfl) (fun _ _ _ h => h) _ _ _ _ (by kernel_rfl) (by kernel_rfl) (by kernel_rfl) (by kernel_rfl) (Or.inl ⟨by rfl, ?_⟩) (by assumption) ?_
        rotate_left
        · (intro w hSw; (try dsimp only at hSw); go_simp)
          try with_reducible rfl
        refine anyT_take (R := _) (i := 2) (v := ?_) (fun j => decide (j < 14)) (fun j w h k => k (of_decide_eq_true h)) (fun w h _ => h) rfl (by kernel_rfl) (fun _ _ _ h => h) _ _ _ _ (by kernel_rfl) (by kernel_rfl) (by kernel_rfl) (by kernel_rfl) (Or.inl ⟨by rfl, ?_⟩) (by assumption) ?_
        rotate_left
        · (intro w hSw; (try dsimp only at hSw); go_simp)
          try with_reducible rfl
        refine anyT_take (R := _) (i := 3) (v := ?_) (fun j => decide (j < 14)) (fun j w h k => k (of_decide_eq_true h)) (fun w h _ => h) rfl (by kernel_rfl) (fun _ _ _ h => h) _ _ _ _ (by kernel_rfl) (by kernel_rfl) (by kernel_rfl) (by kernel_rfl) (Or.inl ⟨by rfl, ?_⟩) (by assumption) ?_
        rotate_left
        · (intro w hSw; (try dsimp only at hSw); go_simp)
          try with_reducible rfl
        refine anyT_take (R := _) (i := 4) (v := ?_) (fun j => decide (j < 14)) (fun j w h k => k (of_decide_eq_true h)) (fun w h _ => h) rfl (by kernel_rfl) (fun _ _ _ h => h) _ _ _ _ (by kernel_rfl) (by kernel_rfl) (by kernel_rfl) (by kernel_rfl) (Or.inl ⟨by rfl, ?_⟩) (by assumption) ?_
        rotate_left
        · (intro w hSw; (try dsimp only at hSw); go_simp)
          try with_reducible rfl
        refine anyT_take (R := _) (i := 5) (v := ?_) (fun j => decide (j < 14)) (fun j w h k => k (of_decide_eq_true h)) (fun w h _ => h) rfl (by kernel_rfl) (fun _ _ _ h => h) _ _ _ _ (by kernel_rfl) (by kernel_rfl) (by kernel_rfl) (by kernel_rfl) (Or.inl ⟨by rfl, ?_⟩) (by assumption) ?_
        rotate_left
        · (intro w hSw; (try dsimp only at hSw); go_simp)
          try with_reducible rfl
        refine anyT_take (R := _) (i := 6) (v := ?_) (fun j => decide (j < 14)) (fun j w h k => k (of_decide_eq_true h)) (fun w h _ => h) rfl (by kernel_rfl) (fun _ _ _ h => h) _ _ _ _ (by kernel_rfl) (by kernel_rfl) (by kernel_rfl) (by kernel_rfl) (Or.inl ⟨by rfl, ?_⟩) (by assumption) ?_
        rotate_left
        · (intro w hSw; (try dsimp only at hSw); go_simp)
          try with_reducible rfl
        refine anyT_take (R := _) (i := 7) (v := ?_) (fun j => decide (j < 14)) (fun j w h k => k (of_decide_eq_true h)) (fun w h _ => h) rfl (by kernel_rfl) (fun _ _ _ h => h) _ _ _ _ (by kernel_rfl) (by kernel_rfl) (by kernel_rfl) (by kernel_rfl) (Or.inl ⟨by rfl, ?_⟩) (by assumption) ?_
        rotate_left
        · (intro w hSw; (try dsimp only at hSw); go_simp)
          try with_reducible rfl
        refine anyT_take (R := _) (i := 8) (v := ?_) (fun j => decide (j < 14)) (fun j w h k => k (of_decide_eq_true h)) (fun w h _ => h) rfl (by kernel_rfl) (fun _ _ _ h => h) _ _ _ _ (by kernel_rfl) (by kernel_rfl) (by kernel_rfl) (by kernel_rfl) (Or.inl ⟨by rfl, ?_⟩) (by assumption) ?_
        rotate_left
        · (intro w hSw; (try dsimp only at hSw); go_simp)
          try with_reducible rfl
        refine anyT_take (R := _) (i := 9) (v := ?_) (fun j => decide (j < 14)) (fun j w h k => k (of_decide_eq_true h)) (fun w h _ => h) rfl (by kernel_rfl) (fun _ _ _ h => h) _ _ _ _ (by kernel_rfl) (by kernel_rfl) (by kernel_rfl) (by kernel_rfl) (Or.inl ⟨by rfl, ?_⟩) (by assumption) ?_
        rotate_left
        · (intro w hSw; (try dsimp only at hSw); go_simp)
          try with_reducible rfl
        refine anyT_take (R := _) (i := 10) (v := ?_) (fun j => decide (j < 14)) (fun j w h k => k (of_decide_eq_true h)) (fun w h _ => h) rfl (by kernel_rfl) (fun _ _ _ h => h) _ _ _ _ (by kernel_rfl) (by kernel_rfl) (by kernel_rfl) (by kernel_rfl) (Or.inl ⟨by rfl, ?_⟩) (by assumption) ?_
        rotate_left
        · (intro w hSw; (try dsimp only at hSw); go_simp)
          try with_reducible rfl
        refine anyT_take (R := _) (i := 11) (v := ?_) (fun j => decide (j < 14)) (fun j w h k => k (of_decide_eq_true h)) (fun w h _ => h) rfl (by kernel_rfl) (fun _ _ _ h => h) _ _ _ _ (by kernel_rfl) (by kernel_rfl) (by kernel_rfl) (by kernel_rfl) (Or.inl ⟨by rfl, ?_⟩) (by assumption) ?_
        rotate_left
        · (intro w hSw; (try dsimp only at hSw); go_simp)
          try with_reducible rfl
        refine anyT_take (R := _) (i := 12) (v := ?_) (fun j => decide (j < 14)) (fun j w h k => k (of_decide_eq_true h)) (fun w h _ => h) rfl (by kernel_rfl) (fun _ _ _ h => h) _ _ _ _ (by kernel_rfl) (by kernel_rfl) (by kernel_rfl) (by kernel_rfl) (Or.inl ⟨by rfl, ?_⟩) (by assumption) ?_
        rotate_left
        · (intro w hSw; (try dsimp only at hSw); go_simp)
          try with_reducible rfl
        refine anyT_ready (rs := [13]) (by kernel_rfl) (by simp) ?_
        intro j hj
        obtain rfl := List.mem_singleton.1 hj
        clear hj
        refine wpOp_plain rfl rfl ?_
        go_simp
        refine ⟨⟨(Fr.alloc (ch := nothing) wq _).cell hS0.1 id, (Fr.alloc (ch := nothing) wq _).cell hS0.2 id⟩, ?_⟩
        have hga := HQ.out.2.alloc (Obj.cells #[.int .i64 xa, .int .i64 (xb + 1)] 102 (0, 0))
        have hna := two_news (alloc_obj wq (Obj.cells #[.int .i64 xa, .int .i64 (xb + 1)] 102 (0, 0)))
        have hka := HQ.out.1.trans (Fr.alloc wq (Obj.cells #[.int .i64 xa, .int .i64 (xb + 1)] 102 (0, 0)))
        have hBa : W1.heap.size ≤ (wq.alloc (Obj.cells #[.int .i64 xa, .int .i64 (xb + 1)] 102 (0, 0))).heap.size := Nat.le_trans HX.out.2.1.size hka.size
        have HKA := Lib.hid hka
        clear hS0 hka
        refine anyT_ready (rs := [14]) (by kernel_rfl) (by simp) ?_
        intro j hj
        obtain rfl := List.mem_singleton.1 hj
        clear hj
        refine wpOp_plain rfl rfl ?_
        generalize hwa : wq.alloc (Obj.cells #[.int .i64 xa, .int .i64 (xb + 1)] 102 (0, 0)) = wa at *
        refine wp_append_lies _ _ _ 103 rfl W1.heap.size 102 i0 _ 2 16 Try.underlying103 hi hz0 hz1 hz2 (by rfl) (by decide) (.slice qa mn qc) _ _ (by rfl) hga ⟨wq.heap.size, 0, none⟩ 1 1 [.int .i64 xa, .int .i64 (xb + 1)] (by rfl) (by rfl) hna (by simp [Value.oneCell']) (by omega) (by unfold maxLen; omega) (by omega) hBa _ rfl ?_
        intro g cap w4 hown4 hgrow4 hat4 hlt4
        refine ⟨fun h => absurd h (by decide), ?_⟩
        refine anyT_ready (rs := [15]) (by kernel_rfl) (by simp) ?_
        intro j hj
        obtain rfl := List.mem_singleton.1 hj
        clear hj
        refine wpOp_plain rfl rfl ?_
        go_simp
        refine anyT_done (by kernel_rfl) ?_ _
        have hf4 : Fr (from_ W1.heap.size) wr w4 := by
          have h1 := HKA.out
          exact h1.wide.trans ((Fr.grown hgrow4).mono fun g _ e => (ownObj hga g e).1)
        have hb4 : Below W1.heap.size W1 w4 := HX.out.2.1.trans (hf4.below HX.out.2.1.size fun g e => e)
        have ho4 : OwnI w4 W1.heap.size (.slice (some ⟨g, 0, none⟩) (mn + 1) cap) (onI G (L.take (k + 1)) s) := by
          rw [HON.out]
          unfold OwnI
          rw [List.length_append, List.flatMap_append, HML.out]
          simpa [encI] using hown4
        have HE := Lib.hid (And.intro ho4 hb4)
        clear ho4 hb4 hf4 hown4 hgrow4 hat4 hlt4 hga hna hBa HKA hwa HQ
        go_wp2
        go_roundw
        case rel => exact ⟨k + 1, _, rfl, by omega, by simp, HE.out.1, HE.out.2⟩
        case measure => simp [intOf]; omega
      · have hbi : ¬ behI G (xa, xb) = some s := fun h => hit (hbz.2 h)
        have hit' : (bz == s) = false := beq_eq_false_iff_ne.2 hit
        have hon := HX.out.2.2.1
        rw [if_neg hbi] at hon
        have HON := Lib.hid hon
        clear hon hbi hit hbz
        go_upto_region 5 with fail
        refine wp_region_after wr (by kernel_rfl) (by kernel_rfl) (Below.refl _ _) ?_
        repeat (go_big_quiet_step (exact HBH.out _))
        refine wpQuiet_nil ?_
        intro _ hw'
        obtain ⟨pw, hw''⟩ := hw'
        subst hw''
        have ho4 := own_fr HX.out.1 (Fr.new pw.ok) fun _ _ => id
        have hb4 := HX.out.2.1.trans (pw.ok.mono HX.out.2.1.size)
        have HE := Lib.hid (And.intro ho4 hb4)
        clear ho4 hb4 e0 e1 e2 f0 f1 hne HBH
        generalize pw.w = WB at *
        clear pw
        go_wp2
        go_roundw
        case rel => exact ⟨k + 1, _, rfl, by omega, by simp, by rw [HON.out]; exact HE.out.1, HE.out.2⟩
        case measure => simp [intOf]; omega
    · obtain rfl : k = n := by omega
      rw [List.take_of_length_le (Nat.le_of_eq HNL.out)] at hown
      have hS := HS0.out.keep hb
      clear hb
      go_wp2
      go_ret
      exact ⟨_, rfl, hown.down HS0.out.below.size, hS.below⟩
end Go.Proofs.Ytpnihegmhalcfaa
namespace Go.Proofs.Ytpnihegmhalcfaa
open Go.RowKit Go.MapKept Go.ChangeMaps
set_option maxHeartbeats 400000

/-- The states in memory: kernels ks, edges es. -/
structure StsR (w : World) (B : Nat) (lv : Value) (vs : List (Value × Value)) (ks : List (List It)) (es : List (List (Int × Int))) : Prop where
  own : w.ownsRow B 106 2 lv vs.length (stV vs)
  lk : ks.length = vs.length
  le : es.length = vs.length
  small : SmallK ks
  ker : ∀ i (h : i < vs.length), OwnI w B vs[i].1 (ks.getD i [])
  edg : ∀ i (h : i < vs.length), OwnE w B vs[i].2 (es.getD i [])
  apart : ∀ i j (hi : i < vs.length) (hj : j < vs.length) g, i ≠ j → vs[i].2.ownBlock = some g → vs[j].2.ownBlock ≠ some g
theorem StsR.fr {w w' : World} {B : Nat} {lv : Value} {vs : List (Value × Value)} {ks : List (List It)} {es : List (List (Int × Int))} (h : StsR w B lv vs ks es) (k : Fr nothing w w') : StsR w' B lv vs ks es :=
  ⟨own_fr h.own k fun _ _ => id, h.lk, h.le, h.small, fun i hi => own_fr (h.ker i hi) k fun _ _ => id, fun i hi => own_fr (h.edg i hi) k fun _ _ => id, h.apart⟩
theorem StsR.keepRow {w w' : World} {B : Nat} {lv : Value} {vs : List (Value × Value)} {ks : List (List It)} {es : List (List (Int × Int))} (h : StsR w B lv vs ks es) (k : Fr (fun g => lv.ownBlock = some g) w w')
    {B' e size n : Nat} {v : Value} {xs : List Value} (hv : w.ownsRow B' e size v n xs) (h1 : e ≠ 106) : w'.ownsRow B' e size v n xs := by
  refine own_fr hv k fun g hg hc => ?_
  obtain ⟨_, cs, hcs⟩ := ownObj hv g hg
  obtain ⟨_, cs', hcs'⟩ := ownObj h.own g hc
  rw [hcs'] at hcs
  simp only [Option.some.injEq, Obj.cells.injEq] at hcs
  exact h1 hcs.2.1.symm
/-- A new state has been laid. -/
theorem StsR.snoc {w w' : World} {B : Nat} {lv lv' kv : Value} {vs : List (Value × Value)} {ks : List (List It)} {es : List (List (Int × Int))} {K : List It} (h : StsR w B lv vs ks es) (k : Fr (fun g => lv.ownBlock = some g) w w')
    (hown : w'.ownsRow B 106 2 lv' (vs.length + 1) (stV vs ++ [kv, .slice none 0 0]))
    (hK : ∀ x ∈ K, smallI x) (hkv : OwnI w B kv K) : StsR w' B lv' (vs ++ [(kv, .slice none 0 0)]) (ks ++ [K]) (es ++ [[]]) := by
  have hlk := h.lk
  have hle := h.le
  refine ⟨by simpa [stV] using hown, by simp [hlk], by simp [hle], fun k hk => ?_, fun i hi => ?_, fun i hi => ?_, fun i j hi hj g hij hg => ?_⟩
  · rcases List.mem_append.1 hk with hk | hk
    · exact h.small k hk
    · rw [List.mem_singleton.1 hk]; exact hK
  · simp only [List.length_append, List.length_singleton] at hi
    by_cases e : i < vs.length
    · rw [List.getElem_append_left e, List.getD_eq_getElem?_getD, List.getElem?_append_left (by omega), ← List.getD_eq_getElem?_getD]
      exact h.keepRow k (h.ker i e) (by decide)
    · have : i = vs.length := by omega
      subst this
      rw [List.getElem_concat_length rfl, List.getD_eq_getElem?_getD, ← hlk, List.getElem?_concat_length]
      exact h.keepRow k hkv (by decide)
  · simp only [List.length_append, List.length_singleton] at hi
    by_cases e : i < vs.length
    · rw [List.getElem_append_left e, List.getD_eq_getElem?_getD, List.getElem?_append_left (by omega), ← List.getD_eq_getElem?_getD]
      exact h.keepRow k (h.edg i e) (by decide)
    · have : i = vs.length := by omega
      subst this
      rw [List.getElem_concat_length rfl, List.getD_eq_getElem?_getD, ← hle, List.getElem?_concat_length]
      exact World.ownsRow_nil _ _ _ _
  · simp only [List.length_append, List.length_singleton] at hi hj
    by_cases e : i < vs.length
    · by_cases e' : j < vs.length
      · rw [List.getElem_append_left e] at hg
        rw [List.getElem_append_left e']
        exact h.apart i j e e' g hij hg
      · have : j = vs.length := by omega
        subst this
        rw [List.getElem_concat_length rfl]
        simp [Value.ownBlock]
    · have : i = vs.length := by omega
      subst this
      rw [List.getElem_concat_length rfl] at hg
      cases hg
theorem StsR.cells {w : World} {B : Nat} {lv : Value} {vs : List (Value × Value)} {ks : List (List It)} {es : List (List (Int × Int))} (h : StsR w B lv vs ks es) (hn : 0 < vs.length) :
    ∃ lb c, lv = .slice (some ⟨lb, 0, none⟩) vs.length c ∧ B ≤ lb ∧ (∀ i (hi : i < vs.length), w.cell? ⟨lb, i * 2, none⟩ = some vs[i].1 ∧ w.cell? ⟨lb, i * 2 + 1, none⟩ = some vs[i].2) ∧ ∃ cs, w.heap[lb]? = some (.cells cs 106 (0, 0)) := by
  obtain ⟨a, c, hv, h1, h2, h3⟩ := own_as_cells2 h.own
  rcases h3 with h3 | ⟨g, rfl, hb, hc⟩
  · have := stV_len vs
    rw [h3] at this
    simp at this
    omega
  · refine ⟨g, c, hv, hb, fun i hi => ?_, (ownObj h.own g (by rw [hv]; rfl)).2⟩
    have at_ : ∀ j, j < 2 → w.cell? ⟨g, i * 2 + j, none⟩ = ([vs[i].1, vs[i].2] : List Value)[j]? := fun j hj => by
      have hlt : i * 2 + j < (stV vs).length := by rw [stV_len]; omega
      have h5 := hc (i * 2 + j) hlt
      have h6 := stV_at hi j hj
      rw [List.getElem?_eq_getElem hlt] at h6
      rw [Nat.zero_add] at h5
      rw [h5, h6]
    exact ⟨at_ 0 (by omega), at_ 1 (by omega)⟩
/-- An edge has been laid behind state i's. -/
theorem StsR.edge {w w0 w4 : World} {B lb n c i g cap : Nat} {vs : List (Value × Value)} {ks : List (List It)} {es : List (List (Int × Int))} {x t : Int} (h : StsR w B (.slice (some ⟨lb, 0, none⟩) n c) vs ks es) (hn : vs.length = n) (hi : i < vs.length)
    (k0 : Fr nothing w w0) (hown : w4.ownsRow B 111 2 (.slice (some ⟨g, 0, none⟩) ((es.getD i []).length + 1) cap) ((es.getD i []).length + 1) ((es.getD i []).flatMap encI ++ [.int .i64 x, .int .i64 t])) (hgrow : w0.grownBy w4 vs[i].2.ownBlock) (hat : vs[i].2.ownBlock = some g ∨ w.heap.size ≤ g) :
    StsR (w4.setCell ⟨lb, i * 2 + 1, none⟩ (.slice (some ⟨g, 0, none⟩) ((es.getD i []).length + 1) cap)) B (.slice (some ⟨lb, 0, none⟩) n c) (vs.set i (vs[i].1, .slice (some ⟨g, 0, none⟩) ((es.getD i []).length + 1) cap)) ks (es.set i (es.getD i [] ++ [(x, t)])) ∧
      Fr (fun k => k = lb ∨ vs[i].2.ownBlock = some k) w (w4.setCell ⟨lb, i * 2 + 1, none⟩ (.slice (some ⟨g, 0, none⟩) ((es.getD i []).length + 1) cap)) := by
  have hlk := h.lk
  have hle := h.le
  have k4 : Fr (fun k => vs[i].2.ownBlock = some k) w w4 := k0.wide.trans (Fr.grown hgrow)
  have hsc := Fr.setCell w4 ⟨lb, i * 2 + 1, none⟩ (.slice (some ⟨g, 0, none⟩) ((es.getD i []).length + 1) cap)
  obtain ⟨_, csl, hlb⟩ := ownObj h.own lb rfl
  have hE : ∀ k, vs[i].2.ownBlock = some k → ∃ cs, w.heap[k]? = some (.cells cs 111 (0, 0)) := fun k hk => (ownObj (h.edg i hi) k hk).2
  have notE : ∀ {k : Nat} {cs : Array Value} {e : TypeId} {fz : Nat × Nat}, w.heap[k]? = some (.cells cs e fz) → e ≠ 111 → vs[i].2.ownBlock ≠ some k := fun hk hne hv => by
    obtain ⟨cs', hc⟩ := hE _ hv
    rw [hk] at hc
    simp only [Option.some.injEq, Obj.cells.injEq] at hc
    exact hne hc.2.1
  have notL : ∀ {k : Nat} {cs : Array Value} {e : TypeId} {fz : Nat × Nat}, w.heap[k]? = some (.cells cs e fz) → e ≠ 106 → k ≠ lb := fun hk hne e => by
    rw [e, hlb] at hk
    simp only [Option.some.injEq, Obj.cells.injEq] at hk
    exact hne hk.2.1.symm
  have hF : Fr (fun k => k = lb ∨ vs[i].2.ownBlock = some k) w (w4.setCell ⟨lb, i * 2 + 1, none⟩ (.slice (some ⟨g, 0, none⟩) ((es.getD i []).length + 1) cap)) := (k4.mono fun _ _ e => .inr e).trans (Fr.setCell' ⟨lb, i * 2 + 1, none⟩ _ (.inl rfl))
  have keep : ∀ {B' e size n : Nat} {v : Value} {xs : List Value}, w.ownsRow B' e size v n xs → e ≠ 106 → (∀ k, v.ownBlock = some k → vs[i].2.ownBlock ≠ some k) → (w4.setCell ⟨lb, i * 2 + 1, none⟩ (.slice (some ⟨g, 0, none⟩) ((es.getD i []).length + 1) cap)).ownsRow B' e size v n xs := fun hv hne hk => own_fr hv hF fun k hkv hc => by
    rcases hc with hc | hc
    · obtain ⟨_, cs, hcs⟩ := ownObj hv k hkv
      exact notL hcs hne hc
    · exact hk k hkv hc
  refine ⟨⟨?_, by rw [List.length_set]; exact hlk, by rw [List.length_set, List.length_set]; exact hle, h.small, fun j hj => ?_, fun j hj => ?_, fun j j' hj hj' g' hne hg' => ?_⟩, hF⟩
  · have h4 := own_fr h.own k4 fun k hk hc => by
      have hk' : k = lb := by simpa [Value.ownBlock] using hk.symm
      subst hk'
      exact notE hlb (by decide) hc
    rw [hn] at h4
    rw [List.length_set, stV_set hi, hn]
    exact (World.ownsRow.stored h4 _ _).1
  · rw [List.length_set] at hj
    have hkj := h.ker j hj
    have : (vs.set i (vs[i].1, Value.slice (some ⟨g, 0, none⟩) ((es.getD i []).length + 1) cap))[j].1 = vs[j].1 := by
      rw [List.getElem_set]
      split
      · rename_i e; subst e; rfl
      · rfl
    rw [this]
    refine keep hkj (by decide) fun k hk => ?_
    obtain ⟨_, cs, hcs⟩ := ownObj hkj k hk
    exact notE hcs (by decide)
  · rw [List.length_set] at hj
    rw [List.getElem_set]
    by_cases e : i = j
    · subst e
      rw [if_pos rfl, getD_set_same (by omega)]
      unfold OwnE
      rw [List.length_append, List.flatMap_append]
      refine own_fr hown hsc fun k hk hc => ?_
      have hk' : k = g := by simpa [Value.ownBlock] using hk.symm
      have hc' : k = lb := hc
      subst hk'
      obtain ⟨_, cs, hcs⟩ := ownObj hown k rfl
      have hl4 := k4.obj hlb (notE hlb (by decide))
      rw [← hc', hcs] at hl4
      simp only [Option.some.injEq, Obj.cells.injEq] at hl4
      exact absurd hl4.2.1 (by decide)
    · rw [if_neg e, getD_set_other e]
      exact keep (h.edg j hj) (by decide) fun k hk hc => h.apart i j hi hj k e hc hk
  · rw [List.length_set] at hj hj'
    have old : ∀ a (ha : a < vs.length), a ≠ i → vs[a].2.ownBlock ≠ some g := fun a ha hne hg => by
      rcases hat with e | e
      · exact h.apart i a hi ha g (Ne.symm hne) e hg
      · obtain ⟨_, cs, hcs⟩ := ownObj (h.edg a ha) g hg
        have := (Array.getElem?_eq_some_iff.1 hcs).1
        omega
    rw [List.getElem_set] at hg' ⊢
    by_cases e : i = j
    · subst e
      rw [if_pos rfl] at hg'
      simp only [Value.ownBlock, Option.some.injEq] at hg'
      subst hg'
      rw [if_neg hne]
      exact old j' hj' (Ne.symm hne)
    · rw [if_neg e] at hg'
      by_cases e' : i = j'
      · subst e'
        rw [if_pos rfl]
        simp only [Value.ownBlock, ne_eq, Option.some.injEq]
        rintro rfl
        exact old j hj (Ne.symm e) hg'
      · rw [if_neg e']
        exact h.apart j j' hj hj' g' hne hg'
/-- What lies as states of its own reads as states. -/
theorem StsR.states {w : World} {B : Nat} {lv : Value} {vs : List (Value × Value)} {ks : List (List It)} {es : List (List (Int × Int))} (h : StsR w B lv vs ks es) (hl : vs.length ≤ 1000) (hk : ∀ k ∈ ks, k.length ≤ 1000000) (he : ∀ e ∈ es, e.length ≤ 1000000 ∧ ∀ x ∈ e, i64 x.1 ∧ i64 x.2)
    : IsStates w lv (ks.zip es) := by
  have hz : (ks.zip es).length = vs.length := by rw [List.length_zip, h.lk, h.le]; omega
  refine ⟨by omega, ?_⟩
  obtain ⟨a, c, hv, h1, h2, h3⟩ := own_as_cells2 h.own
  refine ⟨a, c, by rw [hz]; exact hv, by omega, h2, ?_⟩
  by_cases h0 : vs.length = 0
  · left
    exact List.eq_nil_of_length_eq_zero (by omega)
  · obtain ⟨lb, c', hv', hb, hcell, _⟩ := h.cells (by omega)
    rw [hv] at hv'
    simp only [Value.slice.injEq, true_and] at hv'
    obtain ⟨rfl, rfl⟩ := hv'
    refine .inr ⟨lb, 0, rfl, fun i hi => ?_⟩
    have hi' : i < vs.length := by omega
    have hik : i < ks.length := by rw [h.lk]; exact hi'
    have hie : i < es.length := by rw [h.le]; exact hi'
    obtain ⟨q0, q1⟩ := hcell i hi'
    have e1 := h.ker i hi'
    have e2 := h.edg i hi'
    rw [List.getD_eq_getElem?_getD, List.getElem?_eq_getElem hik, Option.getD_some] at e1
    rw [List.getD_eq_getElem?_getD, List.getElem?_eq_getElem hie, Option.getD_some] at e2
    rw [List.getElem_zip, Nat.zero_add]
    have hks := hk _ (List.getElem_mem hik)
    have hes := he _ (List.getElem_mem hie)
    refine ⟨vs[i].1, vs[i].2, e1.items (fun x hx => smallI_i64 (h.small _ (List.getElem_mem hik) x hx)) (by omega), row_items e2 hes.2 (by show es[i].length ≤ _; omega), q0, q1⟩
end Go.Proofs.Ytpnihegmhalcfaa
namespace Go.Proofs.Ytpnihegmhalcfaa
open Go.RowKit
set_option maxHeartbeats 400000

/-- What is asked of each symbol, but for the two that are fixed. -/
def sym14 (terms : Int) (seen : List ByteArray) (i : Nat) (s : Sym) : Bool :=
  !(decide (s.name = nNone) || (hasName seen s.name || (!decide (s.type = nNone) && !typedG s.type))) &&
  (!(decide (s.level < 0) || (decide (3 < s.assoc) || (decide (s.level = 0) != decide (s.assoc = 0)))) &&
  !(decide (terms ≤ (i : Int)) && decide (0 < s.level)))
def endG (s : Sym) : Bool := decide (s.name = nEnd) && bareG s
def acceptG (s : Sym) : Bool := decide (s.name = nAccept) && bareG s
theorem symOk_split (terms : Int) (seen : List ByteArray) (i : Nat) (s : Sym) :
    symOk terms seen i s = (sym14 terms seen i s && ((!decide ((i : Int) = 0) || endG s) && (!decide ((i : Int) = terms) || acceptG s))) := by
  unfold symOk sym14 endG acceptG
  generalize bareG s = b1
  generalize decide (s.name = nNone) = b2
  generalize hasName seen s.name = b3
  generalize (!decide (s.type = nNone) && !typedG s.type) = b4
  generalize (decide (s.level < 0) || (decide (3 < s.assoc) || (decide (s.level = 0) != decide (s.assoc = 0)))) = b5
  generalize (decide (terms ≤ (i : Int)) && decide (0 < s.level)) = b6
  generalize decide ((i : Int) = 0) = b7
  generalize decide (s.name = nEnd) = b8
  generalize decide ((i : Int) = terms) = b9
  generalize decide (s.name = nAccept) = b10
  cases b1 <;> cases b2 <;> cases b3 <;> cases b4 <;> cases b5 <;> cases b6 <;> cases b7 <;> cases b8 <;> cases b9 <;> cases b10 <;> rfl

theorem first14_is {terms n : Int} (h : 1 ≤ terms) (p : Prd) : first14 terms n p = firstG terms n p := by
  unfold first14 firstG
  by_cases h1 : p.left = terms
  · by_cases h2 : p.right.length = 1
    · obtain ⟨x, hx⟩ := List.length_eq_one_iff.1 h2
      rw [hx]
      have e : rightSide terms n [x] = (decide (1 ≤ x) && (decide (x < n) && !decide (x = terms))) := by
        unfold rightSide rightRow
        simp only [List.all_cons, List.all_nil, Bool.and_true, List.length_singleton]
        by_cases c1 : x < 1 <;> by_cases c2 : n ≤ x <;> by_cases c3 : x = terms <;> simp [c1, c2, c3] <;> omega
      rw [e, show ([x] : List Int).headD 0 = x from rfl]
      by_cases c1 : terms < x
      · have c2 : 1 ≤ x := by omega
        have c3 : ¬ x = terms := by omega
        simp [h1, c1, c2, c3]
      · simp [c1]
    · simp [h2]
  · simp [h1]
theorem bad14_is {terms n : Int} (p : Prd) : (!bad14 terms n p && rightRow terms n p.right) = prodG terms n p := by
  unfold bad14 prodG rightSide
  have e : decide (10 < p.right.length) = !decide (p.right.length ≤ 10) := by
    by_cases h : p.right.length ≤ 10
    · simp [h]
    · have : 10 < p.right.length := by omega
      simp [h, this]
  rw [e]
  generalize decide (p.left ≤ terms) = b1
  generalize decide (n ≤ p.left) = b2
  generalize decide (p.right.length ≤ 10) = b3
  generalize (!decide (p.prec = -1) && (decide (p.prec < 1) || decide (terms ≤ p.prec))) = b4
  generalize decide (p.whr < 0) = b5
  generalize p.has = b6
  generalize decide (p.action = nNone) = b7
  generalize decide (p.whr = 0) = b8
  generalize rightRow terms n p.right = b9
  cases b1 <;> cases b2 <;> cases b3 <;> cases b4 <;> cases b5 <;> cases b6 <;> cases b7 <;> cases b8 <;> cases b9 <;> rfl

def prodAt (terms n : Int) (l : List Prd) (k : Nat) : Bool := match l[k]? with | some p => prod14 terms n (k : Int) p | none => true
def prods14 (terms n : Int) (l : List Prd) : Bool := (List.range l.length).all (prodAt terms n l)
def prodsTo (terms n : Int) (l : List Prd) (k : Nat) : Bool := (List.range k).all (prodAt terms n l)
theorem prodsTo_succ (terms n : Int) (l : List Prd) (k : Nat) (h : k < l.length) : prodsTo terms n l (k + 1) = (prodsTo terms n l k && prod14 terms n k l[k]) := by
  simp [prodsTo, List.range_succ, prodAt, List.getElem?_eq_getElem h]
theorem prods14_false (terms n : Int) (l : List Prd) (k : Nat) (h : k < l.length) (hf : prod14 terms n k l[k] = false) : prods14 terms n l = false := by
  cases e : prods14 terms n l
  · rfl
  · rw [prods14, List.all_eq_true] at e
    have := e k (List.mem_range.2 h)
    rw [prodAt, List.getElem?_eq_getElem h] at this
    have this' : prod14 terms n k l[k] = true := this
    rw [hf] at this'
    cases this'
theorem prods14_is {terms n : Int} (h : 1 ≤ terms) : ∀ (l : List Prd), 1 ≤ l.length → prods14 terms n l = prodsG terms n l
  | [], hl => by simp at hl
  | p :: r, _ => by
    unfold prods14 prodsG
    rw [List.length_cons, List.range_succ_eq_map, List.all_cons, List.all_map]
    have h1 : prodAt terms n (p :: r) 0 = firstG terms n p := by
      unfold prodAt
      simp only [List.getElem?_cons_zero]
      unfold prod14
      rw [if_pos (show ((0 : Nat) : Int) = 0 from rfl), first14_is h]
    have h2 : (List.range r.length).all (prodAt terms n (p :: r) ∘ Nat.succ) = r.all (prodG terms n) := by
      rw [Bool.eq_iff_iff, List.all_eq_true, List.all_eq_true]
      have h3 : ∀ k (hk : k < r.length), prodAt terms n (p :: r) (k + 1) = prodG terms n r[k] := fun k hk => by
        unfold prodAt
        rw [List.getElem?_cons_succ, List.getElem?_eq_getElem hk]
        simp only
        unfold prod14
        rw [if_neg (by omega), bad14_is]
      constructor
      · intro hh x hx
        obtain ⟨k, hk, rfl⟩ := List.mem_iff_getElem.1 hx
        rw [← h3 k hk]
        exact hh k (List.mem_range.2 hk)
      · intro hh k hk
        have hk' := List.mem_range.1 hk
        show prodAt terms n (p :: r) (k + 1) = true
        rw [h3 k hk']
        exact hh _ (List.getElem_mem hk')
    rw [h1, h2]

def sym14At (terms : Int) (l : List Sym) (j : Nat) : Bool := match l[j]? with | some s => sym14 terms (namesTo l j) j s | none => true
def syms14To (terms : Int) (l : List Sym) (k : Nat) : Bool := (List.range k).all (sym14At terms l)
theorem syms14To_succ (terms : Int) (l : List Sym) (k : Nat) (h : k < l.length) : syms14To terms l (k + 1) = (syms14To terms l k && sym14 terms (namesTo l k) k l[k]) := by
  simp [syms14To, List.range_succ, sym14At, List.getElem?_eq_getElem h]
theorem sym14_false {terms : Int} {l : List Sym} {k : Nat} (h : k < l.length) (hf : sym14 terms (namesTo l k) k l[k] = false) : symsG terms l = false :=
  symsG_false terms l k h (by rw [symOk_split, hf]; rfl)
theorem end_false {terms : Int} {l : List Sym} (h : 0 < l.length) (hf : endG l[0] = false) : symsG terms l = false :=
  symsG_false terms l 0 h (by rw [symOk_split, hf]; simp)
theorem accept_false {terms : Int} {l : List Sym} {t : Nat} (ht : terms = (t : Int)) (h : t < l.length) (hf : acceptG l[t] = false) : symsG terms l = false :=
  symsG_false terms l t h (by rw [symOk_split, hf]; simp [ht])
theorem syms14_true {terms : Int} {l : List Sym} {t : Nat} (ht : terms = (t : Int)) (h0 : 0 < l.length) (h : t < l.length) (ha : syms14To terms l l.length = true) (he : endG l[0] = true) (hc : acceptG l[t] = true) : symsG terms l = true := by
  rw [symsG, List.all_eq_true]
  intro k hk
  have hk' := List.mem_range.1 hk
  rw [syms14To, List.all_eq_true] at ha
  have h1 := ha k hk
  rw [sym14At, List.getElem?_eq_getElem hk'] at h1
  simp only at h1
  rw [symAtOk, List.getElem?_eq_getElem hk']
  simp only
  rw [symOk_split, h1]
  by_cases c0 : k = 0
  · subst c0
    by_cases c1 : t = 0
    · subst c1
      simp [he, hc]
    · have : ¬ (0 : Int) = terms := by omega
      simp [he, this]
  · by_cases c1 : k = t
    · subst c1
      simp [c0, hc]
    · have : ¬ (k : Int) = terms := by omega
      simp [c0, this]
end Go.Proofs.Ytpnihegmhalcfaa
