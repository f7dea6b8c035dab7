/-
  Package pack: packed rows in memory, and what stands at a row's place.
  Package pack: what stands at a row's place, of rows of numbers.
  Package pack: says, Act, Goto.
-/
import Derived.Test.YtehaoiimhgkckaaMakeA
import Derived.Laws.Pointers
namespace Go.Proofs.Ytehaoiimhgkckaa
open Go.RowKit
set_option maxHeartbeats 400000

/-- An entry: its kind, and where to. -/
structure Ac where
  kind : Int
  dst : Int
def acCells (x : Ac) : List Value := [.int .u8 x.kind, .int .i64 x.dst]
def AcAt (w : World) (b o : Nat) (x : Ac) : Prop := (0 ≤ x.kind ∧ x.kind < 256) ∧ i64 x.dst ∧ Cells w b o (acCells x)
def IsActs (w : World) (v : Value) (l : List Ac) : Prop := Rows' v 2 (AcAt w) l
theorem IsActs.fr {w w' : World} {v : Value} {l : List Ac} (h : IsActs w v l) (k : Fr nothing w w') : IsActs w' v l := Rows'.mono h fun _ _ _ ⟨h1, h2, h3⟩ => ⟨h1, h2, h3.fr k fun e => e⟩
/-- The place of a row and a symbol, if its entry is the row's own. -/
def atP (base check : List Int) (most : Nat) (row sym : Int) : Option Nat :=
  if row < 0 ∨ (base.length : Int) ≤ row ∨ sym < 0 then none
  else
    let b := base.getD row.toNat 0
    if b < -sym ∨ (most : Int) - 1 - sym < b then none
    else if check.getD (b + sym).toNat 0 = row then some (b + sym).toNat else none
theorem atP_lt {base check : List Int} {most : Nat} {row sym : Int} {k : Nat} (h : atP base check most row sym = some k) : k < most := by
  unfold atP at h
  split at h
  · cases h
  · simp only at h
    split at h
    · cases h
    · split at h
      · simp only [Option.some.injEq] at h
        omega
      · cases h
theorem Ints.at {w : World} {a : Option Addr} {n c : Nat} {xs : List Int} (h : Ints w (.slice a n c) xs) {k : Nat} (hk : k < xs.length) : ∃ b o, a = some ⟨b, o, none⟩ ∧ n = xs.length ∧ n ≤ c ∧ w.cell? ⟨b, o + k, none⟩ = some (.int .i64 xs[k]) ∧ i64 xs[k] := by
  obtain ⟨h0, _, a', c', e, h1, h2, h3⟩ := h
  simp only [Value.slice.injEq] at e
  obtain ⟨rfl, rfl, rfl⟩ := e
  rcases h3 with rfl | ⟨b, o, rfl, hc⟩
  · simp at hk
  · have := hc k (by simpa using hk)
    rw [List.getElem_map] at this
    exact ⟨b, o, rfl, rfl, h1, this, h0 _ (List.getElem_mem hk)⟩
def ansA (nx : List Ac) : Option Nat → Value
  | none => .tuple #[.agg #[.int .u8 0, .int .i64 0], .bool false]
  | some k => .tuple #[.agg #[.int .u8 (nx.getD k ⟨0, 0⟩).kind, .int .i64 (nx.getD k ⟨0, 0⟩).dst], .bool true]
set_option maxRecDepth 100000 in
set_option maxHeartbeats 2000000 in
theorem atA_any (base check : List Int) (nx : List Ac) (bs cs ns : Value) (row sym : Int) (w : World) (hb : Ints w bs base) (hc : Ints w cs check) (hn : IsActs w ns nx) (hr : i64 row) (hs : i64 sym) :
    Calls Try.prog 28 #[.agg #[bs, cs, ns], .int .i64 row, .int .i64 sym] w fun e w' => e = .returned (ansA nx (atP base check (min check.length nx.length) row sym)) ∧ Below w.heap.size w w' := by
  obtain ⟨_, _, ba, bc, rfl, _, _, _⟩ := id hb
  obtain ⟨_, hcl, ca, cc, rfl, _, _, _⟩ := id hc
  obtain ⟨na, nc, rfl, _, _, hnl⟩ := Rows'.parts hn
  unfold i64 at hr hs
  by_cases h1 : row < 0
  · have d1 : decide (row < 0) = true := decide_eq_true h1
    have e : atP base check (min check.length nx.length) row sym = none := by unfold atP; rw [if_pos (.inl h1)]
    rw [e]
    clear hb hc hn e h1
    go_enter Try.func28, Try.ntmps28
    go_wp2
    exact bodyPost_ret (v := ansA nx none) (by simp [ansA, results, Try.results28, go_sem]) rfl ⟨rfl, ((Below.refl _ _).alloc (Nat.le_refl _) _).alloc (by simp) _⟩
  by_cases h2 : (base.length : Int) ≤ row
  · have d1 : decide (row < 0) = false := decide_eq_false h1
    have d2 : decide ((base.length : Int) ≤ row) = true := decide_eq_true h2
    have e : atP base check (min check.length nx.length) row sym = none := by unfold atP; rw [if_pos (.inr (.inl h2))]
    rw [e]
    clear hb hc hn e h1 h2
    go_enter Try.func28, Try.ntmps28
    go_wp2
    exact bodyPost_ret (v := ansA nx none) (by simp [ansA, results, Try.results28, go_sem]) rfl ⟨rfl, ((Below.refl _ _).alloc (Nat.le_refl _) _).alloc (by simp) _⟩
  by_cases h3 : sym < 0
  · have d1 : decide (row < 0) = false := decide_eq_false h1
    have d2 : decide ((base.length : Int) ≤ row) = false := decide_eq_false h2
    have d3 : decide (sym < 0) = true := decide_eq_true h3
    have e : atP base check (min check.length nx.length) row sym = none := by unfold atP; rw [if_pos (.inr (.inr h3))]
    rw [e]
    clear hb hc hn e h1 h2 h3
    go_enter Try.func28, Try.ntmps28
    go_wp2
    exact bodyPost_ret (v := ansA nx none) (by simp [ansA, results, Try.results28, go_sem]) rfl ⟨rfl, ((Below.refl _ _).alloc (Nat.le_refl _) _).alloc (by simp) _⟩
  obtain ⟨r, rfl⟩ : ∃ r : Nat, row = r := ⟨row.toNat, by omega⟩
  have hrl : r < base.length := by omega
  obtain ⟨b1, o1, rfl, _, _, hcb, hbi⟩ := hb.at hrl
  have hgd : base.getD (r : Int).toNat 0 = base[r] := by simp [hrl]
  have hne : ¬ ((r : Int) < 0 ∨ (base.length : Int) ≤ r ∨ sym < 0) := by omega
  have hat : atP base check (min check.length nx.length) r sym = (if base[r] < -sym ∨ ((min check.length nx.length : Nat) : Int) - 1 - sym < base[r] then none else if check.getD (base[r] + sym).toNat 0 = r then some (base[r] + sym).toNat else none) := by
    unfold atP
    rw [if_neg hne, hgd]
  rw [hat]
  clear hat hgd hne
  obtain ⟨m, hm⟩ : ∃ m, m = min check.length nx.length := ⟨_, rfl⟩
  have hmc : m ≤ check.length ∧ m ≤ nx.length := by omega
  rw [← hm]
  unfold i64 at hbi
  generalize base[r] = bv at *
  have d1 : decide ((r : Int) < 0) = false := decide_eq_false (by omega)
  have d2 : decide ((base.length : Int) ≤ (r : Int)) = false := decide_eq_false (by omega)
  have d3 : decide (sym < 0) = false := decide_eq_false (by omega)
  have lb1 : b1 < w.heap.size := World.block_lt_of_cell? w _ hcb
  have hml : m = if nx.length < check.length then nx.length else check.length := by rw [hm]; split <;> omega
  have HC := Lib.hid hc
  have HN := Lib.hid hn
  have hs0 : 0 ≤ sym := by omega
  clear hb hc hn h1 h2 h3 hm
  have w1 : RowKit.wrap64 (-sym) = -sym := IntWalk.wrap64_in _ (by omega)
  have w2 : RowKit.wrap64 ((nx.length : Int) - 1 - sym) = (nx.length : Int) - 1 - sym := IntWalk.wrap64_in _ (by omega)
  have w3 : RowKit.wrap64 ((check.length : Int) - 1 - sym) = (check.length : Int) - 1 - sym := IntWalk.wrap64_in _ (by omega)
  by_cases h4 : bv < -sym
  · have d4 : decide (bv < -sym) = true := decide_eq_true h4
    rw [if_pos (.inl h4)]
    clear h4
    by_cases hl : nx.length < check.length
    · go_enter Try.func28, Try.ntmps28
      go_wp2
      exact bodyPost_ret (v := ansA nx none) (by simp [ansA, results, Try.results28, go_sem]) rfl ⟨rfl, ((Below.refl _ _).alloc (Nat.le_refl _) _).alloc (by simp) _⟩
    · go_enter Try.func28, Try.ntmps28
      go_wp2
      exact bodyPost_ret (v := ansA nx none) (by simp [ansA, results, Try.results28, go_sem]) rfl ⟨rfl, ((Below.refl _ _).alloc (Nat.le_refl _) _).alloc (by simp) _⟩
  by_cases h5 : (m : Int) - 1 - sym < bv
  · rw [if_pos (.inr h5)]
    by_cases hl : nx.length < check.length
    · rw [if_pos hl] at hml
      subst hml
      go_enter Try.func28, Try.ntmps28
      go_wp2
      exact bodyPost_ret (v := ansA nx none) (by simp [ansA, results, Try.results28, go_sem]) rfl ⟨rfl, ((Below.refl _ _).alloc (Nat.le_refl _) _).alloc (by simp) _⟩
    · rw [if_neg hl] at hml
      subst hml
      go_enter Try.func28, Try.ntmps28
      go_wp2
      exact bodyPost_ret (v := ansA nx none) (by simp [ansA, results, Try.results28, go_sem]) rfl ⟨rfl, ((Below.refl _ _).alloc (Nat.le_refl _) _).alloc (by simp) _⟩
  rw [if_neg (by omega)]
  obtain ⟨k, hk⟩ : ∃ k : Nat, bv + sym = k := ⟨(bv + sym).toNat, by omega⟩
  have hkm : k < m := by omega
  have w4 : RowKit.wrap64 (bv + sym) = (k : Int) := by rw [IntWalk.wrap64_in _ (by omega), hk]
  obtain ⟨b2, o2, rfl, _, _, hcc, hci⟩ := HC.out.at (show k < check.length by omega)
  obtain ⟨b3, o3, rfl, _, h31, h32, h33⟩ := Rows'.at HN.out (show k < nx.length by omega)
  have n0 := h33 0 (by simp [acCells])
  have n1 := h33 1 (by simp [acCells])
  simp only [acCells, List.getElem_cons_zero, List.getElem_cons_succ, Nat.add_zero] at n0 n1
  have hg1 : check.getD (bv + sym).toNat 0 = check[k]'(by omega) := by rw [hk]; simp [show k < check.length by omega]
  have hg2 : nx.getD k ⟨0, 0⟩ = nx[k]'(by omega) := by simp [show k < nx.length by omega]
  have lb2 : b2 < w.heap.size := World.block_lt_of_cell? w _ hcc
  have lb3 : b3 < w.heap.size := World.block_lt_of_cell? w _ n0
  have d4 : decide (bv < -sym) = false := decide_eq_false h4
  have hkl : k < check.length ∧ k < nx.length := by omega
  rw [hg1]
  clear hg1 h33 HC HN
  unfold ansA
  by_cases he : check[k]'(by omega) = (r : Int)
  · rw [if_pos he, show (bv + sym).toNat = k by omega]
    simp only [hg2]
    rw [he] at hcc
    clear he hci hg2
    generalize nx[k].kind = xk at *
    generalize nx[k].dst = xd at *
    by_cases hl : nx.length < check.length
    · rw [if_pos hl] at hml
      subst hml
      go_enter Try.func28, Try.ntmps28
      go_wp2
      exact bodyPost_ret (v := .tuple #[.agg #[.int .u8 xk, .int .i64 xd], .bool true]) (by simp [results, Try.results28, go_sem]) rfl ⟨rfl, ((Below.refl _ _).alloc (Nat.le_refl _) _).alloc (by simp) _⟩
    · rw [if_neg hl] at hml
      subst hml
      go_enter Try.func28, Try.ntmps28
      go_wp2
      exact bodyPost_ret (v := .tuple #[.agg #[.int .u8 xk, .int .i64 xd], .bool true]) (by simp [results, Try.results28, go_sem]) rfl ⟨rfl, ((Below.refl _ _).alloc (Nat.le_refl _) _).alloc (by simp) _⟩
  · rw [if_neg he]
    have d7 : (check[k]'(by omega) != (r : Int)) = true := by simpa using he
    clear hg2 he n0 n1 h31 h32
    generalize check[k] = cv at *
    by_cases hl : nx.length < check.length
    · rw [if_pos hl] at hml
      subst hml
      go_enter Try.func28, Try.ntmps28
      go_wp2
      exact bodyPost_ret (v := .tuple #[.agg #[.int .u8 0, .int .i64 0], .bool false]) (by simp [results, Try.results28, go_sem]) rfl ⟨rfl, ((Below.refl _ _).alloc (Nat.le_refl _) _).alloc (by simp) _⟩
    · rw [if_neg hl] at hml
      subst hml
      go_enter Try.func28, Try.ntmps28
      go_wp2
      exact bodyPost_ret (v := .tuple #[.agg #[.int .u8 0, .int .i64 0], .bool false]) (by simp [results, Try.results28, go_sem]) rfl ⟨rfl, ((Below.refl _ _).alloc (Nat.le_refl _) _).alloc (by simp) _⟩
end Go.Proofs.Ytehaoiimhgkckaa
namespace Go.Proofs.Ytehaoiimhgkckaa
open Go.RowKit
set_option maxHeartbeats 400000

def ansI (nx : List Int) : Option Nat → Value
  | none => .tuple #[.int .i64 0, .bool false]
  | some k => .tuple #[.int .i64 (nx.getD k 0), .bool true]
set_option maxRecDepth 100000 in
set_option maxHeartbeats 2000000 in
theorem atI_any (base check : List Int) (nx : List Int) (bs cs ns : Value) (row sym : Int) (w : World) (hb : Ints w bs base) (hc : Ints w cs check) (hn : Ints w ns nx) (hr : i64 row) (hs : i64 sym) :
    Calls Try.prog 31 #[.agg #[bs, cs, ns], .int .i64 row, .int .i64 sym] w fun e w' => e = .returned (ansI nx (atP base check (min check.length nx.length) row sym)) ∧ Below w.heap.size w w' := by
  obtain ⟨_, _, ba, bc, rfl, _, _, _⟩ := id hb
  obtain ⟨_, hcl, ca, cc, rfl, _, _, _⟩ := id hc
  obtain ⟨_, hnl, na, nc, rfl, _, _, _⟩ := id hn
  unfold i64 at hr hs
  by_cases h1 : row < 0
  · have d1 : decide (row < 0) = true := decide_eq_true h1
    have e : atP base check (min check.length nx.length) row sym = none := by unfold atP; rw [if_pos (.inl h1)]
    rw [e]
    clear hb hc hn e h1
    go_enter Try.func31, Try.ntmps31
    go_wp2
    exact bodyPost_ret (v := ansI nx none) (by simp [ansI, results, Try.results31, go_sem]) rfl ⟨rfl, (Below.refl _ _).alloc (Nat.le_refl _) _⟩
  by_cases h2 : (base.length : Int) ≤ row
  · have d1 : decide (row < 0) = false := decide_eq_false h1
    have d2 : decide ((base.length : Int) ≤ row) = true := decide_eq_true h2
    have e : atP base check (min check.length nx.length) row sym = none := by unfold atP; rw [if_pos (.inr (.inl h2))]
    rw [e]
    clear hb hc hn e h1 h2
    go_enter Try.func31, Try.ntmps31
    go_wp2
    exact bodyPost_ret (v := ansI nx none) (by simp [ansI, results, Try.results31, go_sem]) rfl ⟨rfl, (Below.refl _ _).alloc (Nat.le_refl _) _⟩
  by_cases h3 : sym < 0
  · have d1 : decide (row < 0) = false := decide_eq_false h1
    have d2 : decide ((base.length : Int) ≤ row) = false := decide_eq_false h2
    have d3 : decide (sym < 0) = true := decide_eq_true h3
    have e : atP base check (min check.length nx.length) row sym = none := by unfold atP; rw [if_pos (.inr (.inr h3))]
    rw [e]
    clear hb hc hn e h1 h2 h3
    go_enter Try.func31, Try.ntmps31
    go_wp2
    exact bodyPost_ret (v := ansI nx none) (by simp [ansI, results, Try.results31, go_sem]) rfl ⟨rfl, (Below.refl _ _).alloc (Nat.le_refl _) _⟩
  obtain ⟨r, rfl⟩ : ∃ r : Nat, row = r := ⟨row.toNat, by omega⟩
  have hrl : r < base.length := by omega
  obtain ⟨b1, o1, rfl, _, _, hcb, hbi⟩ := hb.at hrl
  have hgd : base.getD (r : Int).toNat 0 = base[r] := by simp [hrl]
  have hne : ¬ ((r : Int) < 0 ∨ (base.length : Int) ≤ r ∨ sym < 0) := by omega
  have hat : atP base check (min check.length nx.length) r sym = (if base[r] < -sym ∨ ((min check.length nx.length : Nat) : Int) - 1 - sym < base[r] then none else if check.getD (base[r] + sym).toNat 0 = r then some (base[r] + sym).toNat else none) := by
    unfold atP
    rw [if_neg hne, hgd]
  rw [hat]
  clear hat hgd hne
  obtain ⟨m, hm⟩ : ∃ m, m = min check.length nx.length := ⟨_, rfl⟩
  have hmc : m ≤ check.length ∧ m ≤ nx.length := by omega
  rw [← hm]
  unfold i64 at hbi
  generalize base[r] = bv at *
  have d1 : decide ((r : Int) < 0) = false := decide_eq_false (by omega)
  have d2 : decide ((base.length : Int) ≤ (r : Int)) = false := decide_eq_false (by omega)
  have d3 : decide (sym < 0) = false := decide_eq_false (by omega)
  have lb1 : b1 < w.heap.size := World.block_lt_of_cell? w _ hcb
  have hml : m = if nx.length < check.length then nx.length else check.length := by rw [hm]; split <;> omega
  have HC := Lib.hid hc
  have HN := Lib.hid hn
  have hs0 : 0 ≤ sym := by omega
  clear hb hc hn h1 h2 h3 hm
  have w1 : RowKit.wrap64 (-sym) = -sym := IntWalk.wrap64_in _ (by omega)
  have w2 : RowKit.wrap64 ((nx.length : Int) - 1 - sym) = (nx.length : Int) - 1 - sym := IntWalk.wrap64_in _ (by omega)
  have w3 : RowKit.wrap64 ((check.length : Int) - 1 - sym) = (check.length : Int) - 1 - sym := IntWalk.wrap64_in _ (by omega)
  by_cases h4 : bv < -sym
  · have d4 : decide (bv < -sym) = true := decide_eq_true h4
    rw [if_pos (.inl h4)]
    clear h4
    by_cases hl : nx.length < check.length
    · go_enter Try.func31, Try.ntmps31
      go_wp2
      exact bodyPost_ret (v := ansI nx none) (by simp [ansI, results, Try.results31, go_sem]) rfl ⟨rfl, (Below.refl _ _).alloc (Nat.le_refl _) _⟩
    · go_enter Try.func31, Try.ntmps31
      go_wp2
      exact bodyPost_ret (v := ansI nx none) (by simp [ansI, results, Try.results31, go_sem]) rfl ⟨rfl, (Below.refl _ _).alloc (Nat.le_refl _) _⟩
  by_cases h5 : (m : Int) - 1 - sym < bv
  · rw [if_pos (.inr h5)]
    by_cases hl : nx.length < check.length
    · rw [if_pos hl] at hml
      subst hml
      go_enter Try.func31, Try.ntmps31
      go_wp2
      exact bodyPost_ret (v := ansI nx none) (by simp [ansI, results, Try.results31, go_sem]) rfl ⟨rfl, (Below.refl _ _).alloc (Nat.le_refl _) _⟩
    · rw [if_neg hl] at hml
      subst hml
      go_enter Try.func31, Try.ntmps31
      go_wp2
      exact bodyPost_ret (v := ansI nx none) (by simp [ansI, results, Try.results31, go_sem]) rfl ⟨rfl, (Below.refl _ _).alloc (Nat.le_refl _) _⟩
  rw [if_neg (by omega)]
  obtain ⟨k, hk⟩ : ∃ k : Nat, bv + sym = k := ⟨(bv + sym).toNat, by omega⟩
  have hkm : k < m := by omega
  have w4 : RowKit.wrap64 (bv + sym) = (k : Int) := by rw [IntWalk.wrap64_in _ (by omega), hk]
  obtain ⟨b2, o2, rfl, _, _, hcc, hci⟩ := HC.out.at (show k < check.length by omega)
  obtain ⟨b3, o3, rfl, _, _, n0, h32⟩ := HN.out.at (show k < nx.length by omega)
  have hg1 : check.getD (bv + sym).toNat 0 = check[k]'(by omega) := by rw [hk]; simp [show k < check.length by omega]
  have hg2 : nx.getD k 0 = nx[k]'(by omega) := by simp [show k < nx.length by omega]
  have lb2 : b2 < w.heap.size := World.block_lt_of_cell? w _ hcc
  have lb3 : b3 < w.heap.size := World.block_lt_of_cell? w _ n0
  have d4 : decide (bv < -sym) = false := decide_eq_false h4
  have hkl : k < check.length ∧ k < nx.length := by omega
  rw [hg1]
  clear hg1 HC HN
  unfold ansI
  by_cases he : check[k]'(by omega) = (r : Int)
  · rw [if_pos he, show (bv + sym).toNat = k by omega]
    simp only [hg2]
    rw [he] at hcc
    clear he hci hg2
    generalize nx[k] = xd at *
    by_cases hl : nx.length < check.length
    · rw [if_pos hl] at hml
      subst hml
      go_enter Try.func31, Try.ntmps31
      go_wp2
      exact bodyPost_ret (v := .tuple #[.int .i64 xd, .bool true]) (by simp [results, Try.results31, go_sem]) rfl ⟨rfl, (Below.refl _ _).alloc (Nat.le_refl _) _⟩
    · rw [if_neg hl] at hml
      subst hml
      go_enter Try.func31, Try.ntmps31
      go_wp2
      exact bodyPost_ret (v := .tuple #[.int .i64 xd, .bool true]) (by simp [results, Try.results31, go_sem]) rfl ⟨rfl, (Below.refl _ _).alloc (Nat.le_refl _) _⟩
  · rw [if_neg he]
    have d7 : (check[k]'(by omega) != (r : Int)) = true := by simpa using he
    clear hg2 he n0 h32
    generalize check[k] = cv at *
    by_cases hl : nx.length < check.length
    · rw [if_pos hl] at hml
      subst hml
      go_enter Try.func31, Try.ntmps31
      go_wp2
      exact bodyPost_ret (v := .tuple #[.int .i64 0, .bool false]) (by simp [results, Try.results31, go_sem]) rfl ⟨rfl, (Below.refl _ _).alloc (Nat.le_refl _) _⟩
    · rw [if_neg hl] at hml
      subst hml
      go_enter Try.func31, Try.ntmps31
      go_wp2
      exact bodyPost_ret (v := .tuple #[.int .i64 0, .bool false]) (by simp [results, Try.results31, go_sem]) rfl ⟨rfl, (Below.refl _ _).alloc (Nat.le_refl _) _⟩
end Go.Proofs.Ytehaoiimhgkckaa
namespace Go.Proofs.Ytehaoiimhgkckaa
open Go.RowKit
set_option maxHeartbeats 400000

structure Pk where
  dflt : List Int
  base : List Int
  check : List Int
  next : List Ac
  gobase : List Int
  gocheck : List Int
  gonext : List Int
structure PkV (w : World) (dv bv cv nv gb gc gn : Value) (P : Pk) : Prop where
  dflt : Ints w dv P.dflt
  base : Ints w bv P.base
  check : Ints w cv P.check
  next : IsActs w nv P.next
  gobase : Ints w gb P.gobase
  gocheck : Ints w gc P.gocheck
  gonext : Ints w gn P.gonext
def saysE (d : Int) : Ac := if 1 ≤ d then ⟨2, d⟩ else ⟨0, 0⟩
def actE (P : Pk) (state term : Int) : Ac :=
  if state < 0 ∨ (P.base.length : Int) ≤ state ∨ (P.dflt.length : Int) ≤ state ∨ term < 0 then ⟨0, 0⟩
  else match atP P.base P.check (min P.check.length P.next.length) state term with
    | some k => P.next.getD k ⟨0, 0⟩
    | none => saysE (P.dflt.getD state.toNat 0)
def gotoE (P : Pk) (state nonterm : Int) : Int :=
  match atP P.gobase P.gocheck (min P.gocheck.length P.gonext.length) state nonterm with
  | some k => P.gonext.getD k 0
  | none => -1
def acV (x : Ac) : Value := .agg #[.int .u8 x.kind, .int .i64 x.dst]
theorem says_any (d : Int) (w : World) : Calls Try.prog 29 #[.int .i64 d] w fun e w' => e = .returned (acV (saysE d)) ∧ Below w.heap.size w w' := by
  unfold saysE acV
  by_cases h : 1 ≤ d
  · rw [if_pos h]
    have d1 : decide ((1 : Int) ≤ d) = true := decide_eq_true h
    clear h
    go_enter Try.func29, Try.ntmps29
    go_wp2
    exact bodyPost_ret (v := .agg #[.int .u8 2, .int .i64 d]) (by simp [results, Try.results29, go_sem]) rfl ⟨rfl, (Below.refl _ _).alloc (Nat.le_refl _) _⟩
  · rw [if_neg h]
    have d1 : decide ((1 : Int) ≤ d) = false := decide_eq_false h
    clear h
    go_enter Try.func29, Try.ntmps29
    go_wp2
    exact bodyPost_ret (v := .agg #[.int .u8 0, .int .i64 0]) (by simp [results, Try.results29, go_sem]) rfl ⟨rfl, (Below.refl _ _).alloc (Nat.le_refl _) _⟩
set_option maxRecDepth 100000 in
set_option maxHeartbeats 2000000 in
theorem packGoto_any (P : Pk) (dv bv cv nv gb gc gn : Value) (state nonterm : Int) (w : World) (h : PkV w dv bv cv nv gb gc gn P) (hs : i64 state) (ht : i64 nonterm) :
    Calls Try.prog 12 #[.agg #[dv, bv, cv, nv, gb, gc, gn], .int .i64 state, .int .i64 nonterm] w fun e w' => e = .returned (.int .i64 (gotoE P state nonterm)) ∧ Below w.heap.size w w' := by
  obtain ⟨_, _, a1, c1, rfl, _⟩ := id h.dflt
  obtain ⟨_, _, a2, c2, rfl, _⟩ := id h.base
  obtain ⟨_, _, a3, c3, rfl, _⟩ := id h.check
  obtain ⟨a4, c4, rfl, _⟩ := Rows'.parts h.next
  obtain ⟨_, _, a5, c5, rfl, _⟩ := id h.gobase
  obtain ⟨_, _, a6, c6, rfl, _⟩ := id h.gocheck
  obtain ⟨_, _, a7, c7, rfl, _⟩ := id h.gonext
  have HA := Lib.hid fun (W : World) (hW : Fr nothing w W) => atI_any P.gobase P.gocheck P.gonext _ _ _ state nonterm W (h.gobase.fr hW) (h.gocheck.fr hW) (h.gonext.fr hW) hs ht
  clear h
  unfold gotoE
  cases hat : atP P.gobase P.gocheck (min P.gocheck.length P.gonext.length) state nonterm with
  | some k =>
    rw [hat] at HA
    unfold ansI at HA
    simp only at HA ⊢
    generalize P.gonext.getD k 0 = z at *
    clear hat
    go_enter Try.func12, Try.ntmps12
    go_wp2_with (go_at_call 31; refine (HA.out _ (Fr.alloc _ _)).mono ?_; rintro e w2 ⟨rfl, hb2⟩)
    go_ret
    exact ⟨rfl, ((Fr.alloc _ _).trans (Fr.new hb2)).below_new⟩
  | none =>
    rw [hat] at HA
    unfold ansI at HA
    simp only at HA ⊢
    clear hat
    go_enter Try.func12, Try.ntmps12
    go_wp2_with (go_at_call 31; refine (HA.out _ (Fr.alloc _ _)).mono ?_; rintro e w2 ⟨rfl, hb2⟩)
    go_ret
    exact ⟨rfl, ((Fr.alloc _ _).trans (Fr.new hb2)).below_new⟩
end Go.Proofs.Ytehaoiimhgkckaa
