/-
  Package items: compact.
-/
import Derived.Test.YtgmkpncpcikecaaItB
import Derived.Laws.StructEq
import Derived.Laws.IdiomCopy
namespace Go.Proofs.Ytgmkpncpcikecaa
open Go.RowKit Go.MapKept Go.ChangeMaps
set_option maxHeartbeats 400000

theorem eqItem (x y : It) (w : World) : (binOp .eql 41 (itVal x) (itVal y)).run Try.prog w = .ok (.bool (decide (x = y))) w := by
  have u3 := Try.underlying3
  have a3 := Try.isAgg3
  have z3 := Try.sizeOf3
  have hS : Try.prog.underlying 41 = some (.struct (Try.prog.fieldsOf 41)) := by kernel_rfl
  have hp : Try.prog.stoodInHeld 41 = false := by kernel_rfl
  obtain ⟨a, b⟩ := x
  obtain ⟨c, d⟩ := y
  unfold itVal
  rw [run_eql_struct, show (10000 : Nat) = 9999 + 1 from rfl, run_equalIn_agg w 9999 41 _ _ hS hp]
  simp only [Program.fieldsOf, Try.underlying41]
  go_simp
  by_cases h1 : a = c <;> by_cases h2 : b = d <;> simp [h1, h2]
theorem neItem (x y : It) (w : World) : (binOp .neq 41 (itVal x) (itVal y)).run Try.prog w = .ok (.bool (!decide (x = y))) w := by
  have u3 := Try.underlying3
  have a3 := Try.isAgg3
  have z3 := Try.sizeOf3
  have hS : Try.prog.underlying 41 = some (.struct (Try.prog.fieldsOf 41)) := by kernel_rfl
  have hp : Try.prog.stoodInHeld 41 = false := by kernel_rfl
  obtain ⟨a, b⟩ := x
  obtain ⟨c, d⟩ := y
  unfold itVal
  rw [run_neq_struct, show (10000 : Nat) = 9999 + 1 from rfl, run_equalIn_agg w 9999 41 _ _ hS hp]
  simp only [Program.fieldsOf, Try.underlying41]
  go_simp
  by_cases h1 : a = c <;> by_cases h2 : b = d <;> simp [h1, h2]
theorem setCells_keep : ∀ (vs : List Value) (o g : Nat) (w : World) (cs : Array Value) (t : TypeId) (f : Nat × Nat), w.heap[g]? = some (.cells cs t f) →
    ∃ cs', (w.setCells g o vs).heap[g]? = some (.cells cs' t f) ∧ cs'.size = cs.size ∧ ∀ i, i < o → cs'[i]? = cs[i]?
  | [], o, g, w, cs, t, f, h => ⟨cs, h, rfl, fun _ _ => rfl⟩
  | v :: r, o, g, w, cs, t, f, h => by
    obtain ⟨hb, he⟩ := Array.getElem?_eq_some_iff.1 h
    have h1 : (w.setCell ⟨g, o, none⟩ v).heap[g]? = some (.cells (cs.setIfInBounds o v) t f) := by
      simp [World.setCell, hb, Array.getElem_modify, he]
    obtain ⟨cs', h2, h3, h4⟩ := setCells_keep r (o + 1) g _ _ t f h1
    refine ⟨cs', h2, by rw [h3]; simp, fun i hi => ?_⟩
    rw [h4 i (by omega), Array.getElem?_setIfInBounds_ne (by omega)]
theorem setCells_fr : ∀ (vs : List Value) (o g : Nat) (w : World), Fr (only g) w (w.setCells g o vs)
  | [], _, _, _ => Fr.refl _ _
  | v :: r, o, g, w => (Fr.setCell w ⟨g, o, none⟩ v).trans (setCells_fr r (o + 1) g _)
theorem run_clear_items (w : World) (g o n c : Nat) (cur : Array Value) (hg : w.heap[g]? = some (.cells cur 41 (0, 0))) (hn : 0 < n) (hc : o + n * 2 ≤ cur.size) :
    ∃ vs, ∀ ty, (Builtin.clear_ #[36] ty #[.slice (some ⟨g, o, none⟩) n c]).run Try.prog w = .ok (.tuple #[]) (w.setCells g o vs) := by
  have hv : ∀ w, (zeroValue 41).run Try.prog w = .ok (.agg #[.int .i64 0, .int .i64 0]) w := Try.zeroValue41
  refine ⟨(Builtin.zeroCells (Value.agg #[.int .i64 0, .int .i64 0]).cells n).toList, fun ty => ?_⟩
  have hz : (Value.agg #[.int .i64 0, .int .i64 0]).cells = #[.int .i64 0, .int .i64 0] := rfl
  have hlen : (Builtin.zeroCells (Value.agg #[.int .i64 0, .int .i64 0]).cells n).toList.length = n * 2 := by
    rw [hz]
    simp [Builtin.zeroCells]
  have hst := run_storeCells_cells (P := Try.prog) g o (Builtin.zeroCells (Value.agg #[.int .i64 0, .int .i64 0]).cells n).toList 0 w (fun j hj => by
      rw [hlen] at hj
      have : o + j < cur.size := by omega
      simp [World.cell?, hg, this]) (fun j _ => by simp [World.frozen?, hg]) (fun v hv' => by
      rw [hz] at hv'
      simp only [Builtin.zeroCells, Array.toList_map, List.mem_map] at hv'
      obtain ⟨i, _, rfl⟩ := hv'
      have : i % 2 = 0 ∨ i % 2 = 1 := by omega
      rcases this with h | h <;> simp [h, Value.oneCell'])
  rw [Nat.add_zero] at hst
  obtain ⟨m, rfl⟩ : ∃ m, n = m + 1 := ⟨n - 1, by omega⟩
  simp [Builtin.clear_, run_underlying Try.underlying36, hv, hst]
/-- A row without the items that equal the one ahead of them. -/
def compL : List It → List It
  | [] => []
  | [x] => [x]
  | x :: y :: l => if x = y then compL (y :: l) else x :: compL (y :: l)
theorem compL_ne {x : It} {l : List It} : ∃ r, compL (x :: l) = x :: r := by
  induction l generalizing x with
  | nil => exact ⟨[], rfl⟩
  | cons y l ih =>
    unfold compL
    split
    · rename_i e
      subst e
      exact ih
    · exact ⟨_, rfl⟩
theorem compL_snoc : ∀ (l : List It) (x y : It), compL (l ++ [x, y]) = if x = y then compL (l ++ [x]) else compL (l ++ [x]) ++ [y]
  | [], x, y => by
    by_cases e : x = y
    · subst e
      simp [compL]
    · simp [compL, e]
  | [a], x, y => by
    by_cases e1 : a = x <;> by_cases e2 : x = y <;> simp [compL, e1, e2]
    all_goals (subst e1; simp [e2])
  | a :: b :: l, x, y => by
    have ih := compL_snoc (b :: l) x y
    simp only [List.cons_append] at ih ⊢
    by_cases e1 : a = b
    · subst e1
      rw [compL, if_pos rfl, compL, if_pos rfl, ih]
    · rw [compL, if_neg e1, compL, if_neg e1, ih]
      split <;> simp
theorem OwnI.cell {w : World} {B g n c : Nat} {l : List It} (h : OwnI w B (.slice (some ⟨g, 0, none⟩) n c) l) (i : Nat) (hi : i < l.length) : w.cell? ⟨g, i * 2, none⟩ = some (.int .i64 l[i].1) ∧ w.cell? ⟨g, i * 2 + 1, none⟩ = some (.int .i64 l[i].2) := by
  obtain ⟨a, c', e, h1, h2, h3⟩ := own_as_cells2 h
  simp only [Value.slice.injEq] at e
  obtain ⟨rfl, rfl, rfl⟩ := e
  have hne : l.flatMap encI ≠ [] := fun e => by
    have := enc_len l
    rw [e] at this
    simp at this
    omega
  obtain ⟨g', e, _, hc⟩ := h3.resolve_left hne
  simp only [Option.some.injEq, Addr.mk.injEq, and_true] at e
  subst e
  have at_ : ∀ j, j < 2 → w.cell? ⟨g, i * 2 + j, none⟩ = (encI l[i])[j]? := fun j hj => by
    have hlt : i * 2 + j < (l.flatMap encI).length := by rw [enc_len]; omega
    have h5 := hc (i * 2 + j) hlt
    have h6 := enc_flat_at hi j hj
    rw [List.getElem?_eq_getElem hlt] at h6
    rw [Nat.zero_add] at h5
    rw [h5, h6]
  exact ⟨at_ 0 (by omega), at_ 1 (by omega)⟩
theorem take_snocI {L : List It} {k : Nat} (hk : k < L.length) : L.take (k + 1) = L.take k ++ [L[k]] := by rw [List.take_add_one, List.getElem?_eq_getElem hk]; rfl
theorem flat_set (l : List It) (d : Nat) (x : It) : (((l.flatMap encI).set (d * 2) (.int .i64 x.1)).set (d * 2 + 1) (.int .i64 x.2)) = (l.set d x).flatMap encI := by
  refine List.ext_getElem? fun t => ?_
  by_cases ht : t < l.length * 2
  · have h1 : t / 2 < (l.set d x).length := by rw [List.length_set]; omega
    have h2 := enc_flat_at h1 (t % 2) (by omega)
    have e : t / 2 * 2 + t % 2 = t := by omega
    rw [e] at h2
    rw [h2, List.getElem_set]
    have h3 := enc_flat_at (l := l) (i := t / 2) (by omega) (t % 2) (by omega)
    rw [e] at h3
    have hlen : t < (l.flatMap encI).length := by rw [enc_len]; exact ht
    by_cases e1 : d = t / 2
    · rw [if_pos e1]
      rcases (by omega : t % 2 = 0 ∨ t % 2 = 1) with h | h
      · have e2 : d * 2 = t := by omega
        rw [List.getElem?_set_ne (by omega), e2, List.getElem?_set_self hlen, h]
        rfl
      · have e2 : d * 2 + 1 = t := by omega
        rw [e2, List.getElem?_set_self (by rw [List.length_set]; exact hlen), h]
        rfl
    · rw [if_neg e1, List.getElem?_set_ne (by omega), List.getElem?_set_ne (by omega), h3]
  · rw [List.getElem?_eq_none (by rw [List.length_set, List.length_set, enc_len]; omega), List.getElem?_eq_none (by rw [enc_len, List.length_set]; omega)]
theorem OwnI.store {w : World} {B g n c d : Nat} {l : List It} (h : OwnI w B (.slice (some ⟨g, 0, none⟩) n c) l) (hn : l.length = n) (x : It) :
    OwnI ((w.setCell ⟨g, d * 2, none⟩ (.int .i64 x.1)).setCell ⟨g, d * 2 + 1, none⟩ (.int .i64 x.2)) B (.slice (some ⟨g, 0, none⟩) n c) (l.set d x) := by
  unfold OwnI at h ⊢
  subst hn
  rw [List.length_set, ← flat_set l d x]
  exact ((World.ownsRow.stored h (d * 2) _).1.stored (d * 2 + 1) _).1
theorem OwnI.frozen {w : World} {B g n c : Nat} {l : List It} (h : OwnI w B (.slice (some ⟨g, 0, none⟩) n c) l) (j : Nat) : w.frozen? ⟨g, j, none⟩ = false := by
  obtain ⟨_, cs, hc⟩ := ownObj h g rfl
  simp [World.frozen?, hc]
/-- What Compact answers. -/
def CompP (L : List It) (B : Nat) (v : Value) (w : World) (e : Ending) (w' : World) : Prop := ∃ u, e = .returned u ∧ OwnI w' B u (compL L) ∧ Fr (fun g => v.ownBlock = some g) w w'
set_option maxRecDepth 100000 in
set_option maxHeartbeats 4000000 in
theorem compact_any (L : List It) (v : Value) (B : Nat) (w : World) (h : OwnI w B v L) (hl : L.length ≤ 1000000) (hi : ∀ x ∈ L, i64 x.1 ∧ i64 x.2) :
    Calls Try.prog 54 #[v] w (CompP L B v w) := by
  by_cases hs : L.length < 2
  · obtain ⟨a, c, rfl, -, -, -⟩ := own_as_cells2 h
    have hc : compL L = L := by
      match L, hs with
      | [], _ => rfl
      | [x], _ => rfl
      | x :: y :: l, hs => simp at hs; omega
    have HO := Lib.hid h
    have HC := Lib.hid hc
    clear h hc hi
    generalize hn : L.length = n at *
    have HN := Lib.hid hn
    clear hn
    go_enter Try.func54, Try.ntmps54
    go_wp2
    go_ret
    exact ⟨_, rfl, by rw [HC.out]; exact HO.out, Fr.refl _ _⟩
  · have h' := h
    obtain ⟨_, hh⟩ := h'
    rcases hh with ⟨_, hn⟩ | ⟨g, cap, cur, rfl, hb, hg, r1, r2, r3, r4⟩
    · omega
    · have HO := Lib.hid h
      have HI := Lib.hid hi
      have HB := Lib.hid hb
      clear h hi hb hg r3 r4
      obtain ⟨n, hn⟩ : ∃ n, L.length = n := ⟨_, rfl⟩
      rw [hn] at hl hs r1 HO ⊢
      have HN := Lib.hid hn
      clear hn
      go_enter Try.func54, Try.ntmps54
      go_wp2
      go_loopw [3] (fun i wr => ∃ k : Nat, k + 1 ≤ n ∧ i = .int .i64 ((k : Int) + 1) ∧ compL (L.take (k + 1)) = L.take (k + 1) ∧ Fr nothing w wr) (fun i _ => n - (intOf i).toNat)
      case atStart =>
        refine ⟨0, by omega, by simp, ?_, Fr.refl _ _⟩
        cases L with
        | nil => rfl
        | cons x l => rfl
      case round =>
        obtain ⟨k, hk, rfl, hcp, hF⟩ := hrel
        by_cases hlt : k + 1 < n
        · have h1 : k + 1 < L.length := by rw [HN.out]; exact hlt
          have hOw := own_fr (ch := nothing) HO.out hF fun _ _ => id
          have hOi : OwnI wr B (.slice (some ⟨g, 0, none⟩) n cap) L := hOw
          obtain ⟨a0, a1⟩ := hOi.cell (k + 1) h1
          obtain ⟨b0, b1⟩ := hOi.cell k (by omega)
          have heq := eqItem L[k + 1] L[k]
          have hgu := fun (op : BinOp) (x y : Operand) (xs ys : Array Value) => run_eqGuard_agg (P := Try.prog) wr op 41 x y xs ys (by kernel_rfl)
          unfold itVal at heq
          have hix := HI.out _ (List.getElem_mem h1)
          have hiy := HI.out _ (List.getElem_mem (show k < L.length by omega))
          have htk : L.take (k + 1 + 1) = L.take k ++ [L[k], L[k + 1]] := by
            rw [take_snocI h1, take_snocI (show k < L.length by omega), List.append_assoc]
            rfl
          have htk1 : L.take (k + 1) = L.take k ++ [L[k]] := take_snocI (show k < L.length by omega)
          have hsn := compL_snoc (L.take k) L[k] L[k + 1]
          rw [← htk, ← htk1, hcp] at hsn
          have HE := Lib.hid (And.intro hsn (And.intro htk htk1))
          have HF := Lib.hid (And.intro hcp hF)
          have hw1 : IntKind.i64.wrap (k : Int) = (k : Int) := IntWalk.i64_in _ (by omega)
          clear hsn htk htk1 hcp hF hOi hOw
          generalize L[k + 1] = x at *
          generalize L[k] = y at *
          obtain ⟨xp, xd⟩ := x
          obtain ⟨yp, yd⟩ := y
          simp only at a0 a1 b0 b1 heq hix hiy
          by_cases hxy : yp = xp ∧ yd = xd
          · obtain ⟨rfl, rfl⟩ := hxy
            simp only [decide_true] at heq
            go_wp2_with fail
            go_quiet (fail)
            go_wp2
            have hF0 := HF.out.2.trans (Fr.drewN (ch := nothing) wr nq)
            have hst : compL (L.take (k + 1 + 0 + 1)) = L.take (k + 1) := by
              have := HE.out.1
              rw [if_pos trivial] at this
              exact this
            have HST := Lib.hid (And.intro hF0 hst)
            clear HE a0 a1 b0 b1 heq hix hiy hgu hF0 hst
            go_loopw [3, 5] (fun s3 s5 wz => ∃ (q d : Nat) (M : List It), s3 = .int .i64 d ∧ s5 = .int .i64 ((q : Int) + 1) ∧ k + 1 + q + 1 ≤ n ∧ k + 1 ≤ d ∧ d ≤ k + 1 + q ∧ M.length = n ∧ OwnI wz B (.slice (some ⟨g, 0, none⟩) n cap) M ∧
              (M.take d = compL (L.take (k + 1 + q + 1)) ∧ (∀ j, k + 1 + q ≤ j → M[j]? = L[j]?)) ∧ Fr (only g) w wz) (fun _ s5 _ => n - (intOf s5).toNat)
            case atStart => exact ⟨0, k + 1, L, by simp, by simp, by omega, Nat.le_refl _, by omega, HN.out, own_fr (ch := nothing) HO.out HST.out.1 fun _ _ => id, ⟨HST.out.2.symm, fun _ _ => rfl⟩, HST.out.1.wide⟩
            case round =>
              obtain ⟨q, d, M, rfl, rfl, hq, hd0, hd1, hM, hown, hpl, hFz⟩ := hrel
              have HP := Lib.hid (And.intro hown (And.intro hpl hFz))
              by_cases hlt2 : k + 1 + q + 1 < n
              · have hj1 : k + 1 + q + 1 < L.length := by rw [HN.out]; exact hlt2
                have hj0 : k + 1 + q < L.length := by omega
                have m1 : k + 1 + q + 1 < M.length := by omega
                have m0 : k + 1 + q < M.length := by omega
                have md : d < M.length := by omega
                obtain ⟨a0, a1⟩ := hown.cell (k + 1 + q + 1) m1
                obtain ⟨b0, b1⟩ := hown.cell (k + 1 + q) m0
                obtain ⟨d0, d1⟩ := hown.cell d md
                have e1 : M[k + 1 + q + 1] = L[k + 1 + q + 1] := by
                  have := hpl.2 (k + 1 + q + 1) (by omega)
                  rw [List.getElem?_eq_getElem m1, List.getElem?_eq_getElem hj1] at this
                  exact Option.some.inj this
                have e0 : M[k + 1 + q] = L[k + 1 + q] := by
                  have := hpl.2 (k + 1 + q) (by omega)
                  rw [List.getElem?_eq_getElem m0, List.getElem?_eq_getElem hj0] at this
                  exact Option.some.inj this
                rw [e1] at a0 a1
                rw [e0] at b0 b1
                have p1 : (k + 1 + q + 1) * 2 = (k + 1) * 2 + (q + 1) * 2 := by omega
                have p0 : (k + 1 + q) * 2 = (k + 1) * 2 + q * 2 := by omega
                rw [p1] at a0 a1
                rw [p0] at b0 b1
                have fz0 := hown.frozen (d * 2)
                have fz1 := hown.frozen (d * 2 + 1)
                have heq := neItem L[k + 1 + q + 1] L[k + 1 + q]
                have hgu := fun (op : BinOp) (x y : Operand) (xs ys : Array Value) => run_eqGuard_agg (P := Try.prog) wr op 41 x y xs ys (by kernel_rfl)
                unfold itVal at heq
                have htk : L.take (k + 1 + q + 1 + 1) = L.take (k + 1 + q) ++ [L[k + 1 + q], L[k + 1 + q + 1]] := by
                  rw [take_snocI hj1, take_snocI hj0, List.append_assoc]
                  rfl
                have htk1 : L.take (k + 1 + q + 1) = L.take (k + 1 + q) ++ [L[k + 1 + q]] := take_snocI hj0
                have hsn := compL_snoc (L.take (k + 1 + q)) L[k + 1 + q] L[k + 1 + q + 1]
                rw [← htk, ← htk1] at hsn
                have HSN := Lib.hid hsn
                have hw2 : IntKind.i64.wrap (q : Int) = (q : Int) := IntWalk.i64_in _ (by omega)
                have q1 : ((q : Int) + 1) < ((n - (k + 1) : Nat) : Int) := by omega
                have q0 : (q : Int) < ((n - (k + 1) : Nat) : Int) := by omega
                clear hown hpl hFz e1 e0 p1 p0 hsn htk htk1 hw1
                generalize L[k + 1 + q + 1] = x at *
                generalize L[k + 1 + q] = y at *
                obtain ⟨xp, xd⟩ := x
                obtain ⟨yp', yd'⟩ := y
                simp only at a0 a1 b0 b1 heq
                by_cases hxy : yp' = xp ∧ yd' = xd
                · obtain ⟨rfl, rfl⟩ := hxy
                  simp only [decide_true, Bool.not_true] at heq
                  go_wp2_with fail
                  go_quiet (fail)
                  go_wp2
                  go_roundw
                  case rel =>
                    obtain ⟨h1, ⟨h2, h3⟩, h4⟩ := HP.out
                    have hz := HSN.out
                    rw [if_pos trivial] at hz
                    exact ⟨q + 1, d, M, rfl, by simp, by omega, hd0, by omega, hM, own_fr (ch := nothing) h1 (Fr.drewN _ _) fun _ _ => id, ⟨by rw [h2, ← hz]; rfl, fun j hj => h3 j (by omega)⟩, h4.trans (Fr.drewN _ _)⟩
                  case measure => simp [intOf]; omega
                · have hne : (xp, xd) ≠ (yp', yd') := fun e => hxy (by simp only [Prod.mk.injEq] at e; exact ⟨e.1.symm, e.2.symm⟩)
                  simp only [decide_eq_false hne, Bool.not_false] at heq
                  have HNE := Lib.hid hne
                  clear hxy hne
                  go_wp2_with fail
                  go_quiet (fail)
                  go_wp2
                  go_roundw
                  case rel =>
                    obtain ⟨h1, ⟨h2, h3⟩, h4⟩ := HP.out
                    have hz := HSN.out
                    rw [if_neg fun e => HNE.out e.symm] at hz
                    have h1q := own_fr (ch := nothing) h1 (Fr.drewN wr nq) fun _ _ => id
                    have h1s := OwnI.store h1q hM (d := d) (xp, xd)
                    refine ⟨q + 1, d + 1, M.set d (xp, xd), by simp, by simp, by omega, by omega, by omega, by rw [List.length_set]; exact hM, h1s, ⟨?_, fun j hj => ?_⟩, ?_⟩
                    · have hset : (M.set d (xp, xd)).take (d + 1) = M.take d ++ [(xp, xd)] := by
                        rw [take_snocI (by rw [List.length_set]; exact md), List.getElem_set_self, List.take_set_of_le (Nat.le_refl _)]
                      rw [hset, h2, show k + 1 + (q + 1) + 1 = k + 1 + q + 1 + 1 from rfl, hz]
                    · rw [List.getElem?_set_ne (by omega), h3 j (by omega)]
                    · exact (h4.trans (Fr.drewN _ _)).trans ((Fr.setCell _ ⟨g, d * 2, none⟩ _).trans (Fr.setCell _ ⟨g, d * 2 + 1, none⟩ _))
                  case measure => simp [intOf]; omega
              · have hqe : k + 1 + q + 1 = n := by omega
                have hL : L.take (k + 1 + q + 1) = L := by rw [hqe]; exact List.take_of_length_le (by rw [HN.out]; exact Nat.le_refl _)
                rw [hL] at hpl
                have hdl : d < n := by omega
                obtain ⟨_, hh⟩ := id hown
                rcases hh with ⟨h0, _⟩ | ⟨g', cap', cur', e', hb', hg', r1', r2', r3', r4'⟩
                · cases h0
                · simp only [Value.slice.injEq, Option.some.injEq, Addr.mk.injEq, and_true] at e'
                  obtain ⟨rfl, -, rfl⟩ := e'
                  obtain ⟨zs, hcl⟩ := run_clear_items wr g (d * 2) (n - d) (cap - d) cur' hg' (by omega) (by rw [r3']; omega)
                  obtain ⟨cs', k1, k2, k3⟩ := setCells_keep zs (d * 2) g wr cur' _ _ hg'
                  have hres : OwnI (wr.setCells g (d * 2) zs) B (.slice (some ⟨g, 0, none⟩) d cap) (compL L) := by
                    rw [← hpl.1]
                    have hl2 : (M.take d).length = d := by rw [List.length_take]; omega
                    unfold OwnI
                    rw [hl2]
                    refine ⟨by rw [enc_len, hl2], .inr ⟨g, cap, cs', rfl, hb', k1, by omega, r2', by rw [k2]; exact r3', ?_⟩⟩
                    refine List.ext_getElem? fun t => ?_
                    by_cases ht : t < d * 2
                    · rw [List.getElem?_take_of_lt ht, Array.getElem?_toList, k3 t ht, ← Array.getElem?_toList]
                      have h5 : (cur'.toList.take (M.length * 2))[t]? = (M.flatMap encI)[t]? := by rw [r4']
                      rw [List.getElem?_take_of_lt (by omega)] at h5
                      rw [h5]
                      have h6 := enc_flat_at (l := M) (i := t / 2) (by omega) (t % 2) (by omega)
                      have h7 := enc_flat_at (l := M.take d) (i := t / 2) (by rw [hl2]; omega) (t % 2) (by omega)
                      have e : t / 2 * 2 + t % 2 = t := by omega
                      rw [e] at h6 h7
                      rw [h6, h7, List.getElem_take]
                    · rw [List.getElem?_eq_none (by rw [List.length_take]; omega), List.getElem?_eq_none (by rw [enc_len, hl2]; omega)]
                  have hfr := hFz.trans (setCells_fr zs (d * 2) g wr)
                  have HRES := Lib.hid (And.intro hres hfr)
                  have t1 : decide ((q : Int) + 1 < ((n - (k + 1) : Nat) : Int)) = false := decide_eq_false (by omega)
                  clear hres hfr hown hpl hFz k1 k2 k3 r3' r4' hg' hL hqe hlt2
                  go_wp2
                  go_ret
                  exact ⟨_, rfl, HRES.out.1, HRES.out.2.mono fun j _ e => by rw [show j = g from e]; rfl⟩
          · have hne : (xp, xd) ≠ (yp, yd) := fun e => hxy (by simp only [Prod.mk.injEq] at e; exact ⟨e.1.symm, e.2.symm⟩)
            simp only [decide_eq_false hne] at heq
            have HNE := Lib.hid hne
            clear hxy hne
            go_wp2_with fail
            go_quiet (fail)
            go_wp2
            go_roundw
            case rel =>
              have hz := HE.out.1
              rw [if_neg fun e => HNE.out e.symm] at hz
              refine ⟨k + 1, by omega, by simp, ?_, HF.out.2.trans (Fr.drewN _ _)⟩
              rw [hz, HE.out.2.1, HE.out.2.2]
              simp
            case measure => simp [intOf]; omega
        · have hke : k + 1 = n := by omega
          rw [List.take_of_length_le (by rw [HN.out]; omega)] at hcp
          have hOw := own_fr (ch := nothing) HO.out hF fun _ _ => id
          have HRES := Lib.hid (And.intro hcp (And.intro hOw hF))
          have t1 : decide ((k : Int) + 1 < (n : Int)) = false := decide_eq_false (by omega)
          clear hcp hOw hF hke hlt
          go_wp2
          go_ret
          exact ⟨_, rfl, by rw [HRES.out.1]; exact HRES.out.2.1, HRES.out.2.2.wide⟩
end Go.Proofs.Ytgmkpncpcikecaa
