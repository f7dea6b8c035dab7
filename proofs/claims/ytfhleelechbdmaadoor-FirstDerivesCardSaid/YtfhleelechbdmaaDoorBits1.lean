/-
  Package bits: one number of a row: has, put, known, Has, Add, New.
-/
import Derived.Test.YtfhleelechbdmaaDoorBitsMath
namespace Go.Proofs.YtfhleelechbdmaaDoor
open Go.RowKit
set_option maxHeartbeats 400000

theorem and_one (m : Nat) (h : m < 18446744073709551616) : bits BinOp.and IntKind.u64 (m : Int) 1 = ((m % 2 : Nat) : Int) := by
  have := bits_and_u64_nat m 1 h (by decide)
  rw [show ((1 : Nat) : Int) = 1 from rfl] at this
  rw [this, Nat.and_one_is_mod]
theorem bit_of (u k : Nat) (h : u < 18446744073709551616) : (bits BinOp.and IntKind.u64 ((u : Int) / 2 ^ k) 1 == 1) = u.testBit k := by
  have e : ((u : Int) / 2 ^ k) = ((u / 2 ^ k : Nat) : Int) := by simp
  rw [e, and_one _ (Nat.lt_of_le_of_lt (Nat.div_le_self _ _) h), Nat.testBit_eq_decide_div_mod_eq]
  rcases Nat.mod_two_eq_zero_or_one (u / 2 ^ k) with h0 | h0 <;> rw [h0] <;> decide
theorem one_shl (k : Nat) (h : k < 64) : IntKind.u64.wrap (2 ^ k) = ((2 ^ k : Nat) : Int) := by
  have h2 : 2 ^ k < 2 ^ 64 := Nat.pow_lt_pow_right (by omega) h
  rw [IntWalk.u64_in]
  · simp
  · have : ((2 ^ k : Nat) : Int) < ((2 ^ 64 : Nat) : Int) := by exact_mod_cast h2
    simp at this
    constructor
    · have := Int.pow_pos (n := 2) (m := k) (by decide); omega
    · have e : ((2 : Int) ^ k) < 18446744073709551616 := by simpa using this
      omega
theorem put_of (u k : Nat) (h : u < 18446744073709551616) (hk : k < 64) : bits BinOp.or IntKind.u64 (u : Int) (IntKind.u64.wrap (2 ^ k)) = ((u ||| 2 ^ k : Nat) : Int) := by
  rw [one_shl k hk, bits_or_u64_nat u (2 ^ k) h (by have := Nat.pow_lt_pow_right (a := 2) (by omega) hk; omega)]

theorem row_has (b off len cap n : Nat) (u : Nat) (w : World) (hn : n / 64 < len) (hl : len ≤ 64) (h1 : u < 18446744073709551616)
    (hc : w.cell? ⟨b, off + n / 64, none⟩ = some (.int .u64 u)) :
    Calls Tryd.prog 36 #[.slice (some ⟨b, off, none⟩) len cap, .int .i64 n] w fun e w' => e = .returned (.bool (u.testBit (n % 64))) ∧ w = w' := by
  go_enter Tryd.func36, Tryd.ntmps36
  go_wp2
  go_ret
  exact ⟨congrArg (fun t => Ending.returned (Value.bool t)) (bit_of u (n % 64) h1), rfl⟩

theorem row_put (b off len cap n : Nat) (u : Nat) (w : World) (hn : n / 64 < len) (hl : len ≤ 64) (h1 : u < 18446744073709551616)
    (hc : w.cell? ⟨b, off + n / 64, none⟩ = some (.int .u64 u)) (hf : w.frozen? ⟨b, off + n / 64, none⟩ = false) :
    Calls Tryd.prog 37 #[.slice (some ⟨b, off, none⟩) len cap, .int .i64 n] w fun e w' => e = .returned (.tuple #[]) ∧ ∃ k, w' = (w.setCell ⟨b, off + n / 64, none⟩ (.int .u64 ((u ||| 2 ^ (n % 64) : Nat)))).drewN k := by
  have H := put_of u (n % 64) h1 (Nat.mod_lt _ (by omega))
  go_enter Tryd.func37, Tryd.ntmps37
  go_wp2
  clear H
  go_region
  all_goals go_wp2
  all_goals go_end0
  all_goals (have H := put_of u (n % 64) h1 (Nat.mod_lt _ (by omega)); rw [H]; exact ⟨rfl, 1, rfl⟩)

theorem known_nil (w : World) : Calls Tryd.prog 32 #[.pointer none] w fun e w' => e = .returned (.bool false) ∧ w = w' := by
  go_enter Tryd.func32, Tryd.ntmps32
  go_wp2
  go_ret
  exact ⟨rfl, rfl⟩
theorem known_yes (w : World) (p : Nat) (t : Bool) (hc : w.cell? ⟨p, 2, none⟩ = some (.bool t)) :
    Calls Tryd.prog 32 #[.pointer (some ⟨p, 0, none⟩)] w fun e w' => e = .returned (.bool t) ∧ w = w' := by
  go_enter Tryd.func32, Tryd.ntmps32
  go_wp2
  go_ret
  exact ⟨rfl, rfl⟩

def words (ws : List Nat) : List Value := ws.map fun u : Nat => Value.int .u64 (u : Int)
theorem words_length (ws : List Nat) : (words ws).length = ws.length := by simp [words]
theorem words_get (ws : List Nat) (i : Nat) (h : i < (words ws).length) : (words ws)[i] = .int .u64 ((ws[i]?.getD 0 : Nat) : Int) := by
  simp only [words, List.length_map] at h
  simp [words, List.getElem?_eq_getElem h]

/-- Block p is a set of end n whose words are ws. -/
structure IsSet (w : World) (B p n : Nat) (v : Value) (ws : List Nat) : Prop where
  hp : w.heap[p]? = some (.cells #[v, .int .i64 n, .bool true] 71 (0, 0))
  own : w.ownsRow B 76 1 v ws.length (words ws)
  len : ws.length = (n + 63) / 64
  hn : n ≤ 4096
  hw : ∀ u ∈ ws, u < 18446744073709551616
  hB : B ≤ p

theorem IsSet.fr {w w' : World} {ch : Nat → Prop} {B p n : Nat} {v : Value} {ws : List Nat} (h : IsSet w B p n v ws) (k : Fr ch w w') (h1 : ¬ ch p) (h2 : ∀ g, v.ownBlock = some g → ¬ ch g) : IsSet w' B p n v ws := by
  refine ⟨k.obj h.hp h1, ⟨h.own.1, ?_⟩, h.len, h.hn, h.hw, h.hB⟩
  rcases h.own.2 with hn | ⟨g, cap, cur, rfl, hb, hg, rest⟩
  · exact .inl hn
  · exact .inr ⟨g, cap, cur, rfl, hb, k.obj hg (h2 g rfl), rest⟩

theorem IsSet.block {w : World} {B p n : Nat} {v : Value} {ws : List Nat} (h : IsSet w B p n v ws) (h0 : 0 < n) :
    ∃ g cap, v = .slice (some ⟨g, 0, none⟩) ws.length cap ∧ g ≠ p ∧ B ≤ g ∧ Cells w g 0 (words ws) ∧ ∀ i, w.frozen? ⟨g, i, none⟩ = false := by
  rcases h.own.2 with ⟨_, hz⟩ | ⟨g, cap, cur, rfl, hb, hg, h1, h2, h3, h4⟩
  · have := h.len; omega
  · refine ⟨g, cap, rfl, ?_, hb, ?_, fun i => by simp only [World.frozen?, hg]; simp⟩
    · rintro rfl
      rw [h.hp] at hg
      simp only [Option.some.injEq, Obj.cells.injEq] at hg
      exact absurd hg.2.1 (by decide)
    · intro i hi
      rw [words_length] at hi
      have e : (words ws)[i]? = cur.toList[i]? := by
        rw [← h4, List.getElem?_take, if_pos (by omega)]
      simp only [World.cell?, hg, Nat.zero_add]
      rw [List.getElem?_eq_getElem (by rw [words_length]; exact hi)] at e
      simpa using e.symm

theorem IsSet.block' {w : World} {B p n : Nat} {v : Value} {ws : List Nat} (h : IsSet w B p n v ws) :
    ∃ g a cap, v = .slice a ws.length cap ∧ (ws ≠ [] → a = some ⟨g, 0, none⟩) ∧ Cells w g 0 (words ws) := by
  obtain ⟨a, cap, hv, _, _, hx⟩ := own_as_cells h.own
  rcases hx with hx | ⟨g, rfl, _, hc⟩
  · have e : ws = [] := by simpa [words] using hx
    subst e
    exact ⟨0, a, cap, hv, fun e => absurd rfl e, fun i hi => by simp [words] at hi⟩
  · exact ⟨g, _, cap, hv, fun _ => rfl, hc⟩

theorem IsSet.word {w : World} {B p n : Nat} {v : Value} {ws : List Nat} (h : IsSet w B p n v ws) (i : Nat) : ws[i]?.getD 0 < 18446744073709551616 := by
  rcases Nat.lt_or_ge i ws.length with hi | hi
  · rw [List.getElem?_eq_getElem hi]; exact h.hw _ (List.getElem_mem hi)
  · rw [List.getElem?_eq_none hi]; decide

/-- What a set holds behind Add. -/
def adds (n : Nat) (ws : List Nat) (x : Int) : Bool := decide (0 ≤ x) && decide (x < n) && !inSet ws x.toNat
def putIn (ws : List Nat) (i : Nat) : List Nat := ws.set (i / 64) (ws[i / 64]?.getD 0 ||| 2 ^ (i % 64))

theorem set_add_nil (w : World) (x : Int) :
    Calls Tryd.prog 24 #[.pointer none, .int .i64 x] w fun e w' => e = .returned (.bool false) ∧ w = w' := by
  go_enter Tryd.func24, Tryd.ntmps24
  go_wp2_with (go_at_call 32; refine (known_nil _).mono ?_; rintro e w' ⟨rfl, rfl⟩)
  go_ret
  exact ⟨rfl, rfl⟩
theorem set_add_zero (w : World) (p : Nat) (hc2 : w.cell? ⟨p, 2, none⟩ = some (.bool false)) (x : Int) :
    Calls Tryd.prog 24 #[.pointer (some ⟨p, 0, none⟩), .int .i64 x] w fun e w' => e = .returned (.bool false) ∧ w = w' := by
  go_enter Tryd.func24, Tryd.ntmps24
  go_wp2_with (go_at_call 32; refine (known_yes _ _ _ hc2).mono ?_; rintro e w' ⟨rfl, rfl⟩)
  go_ret
  exact ⟨rfl, rfl⟩
theorem set_add_out (w : World) (B p n : Nat) (v : Value) (ws : List Nat) (h : IsSet w B p n v ws) (x : Int) (hx : x < 0 ∨ (n : Int) ≤ x) :
    Calls Tryd.prog 24 #[.pointer (some ⟨p, 0, none⟩), .int .i64 x] w fun e w' => e = .returned (.bool false) ∧ w = w' := by
  have hc2 : w.cell? ⟨p, 2, none⟩ = some (.bool true) := by simp [World.cell?, h.hp]
  have hc1 : w.cell? ⟨p, 1, none⟩ = some (.int .i64 n) := by simp [World.cell?, h.hp]
  have hn := h.hn
  clear h
  rcases Int.lt_or_le x 0 with h0 | h0
  · clear hx
    go_enter Tryd.func24, Tryd.ntmps24
    go_wp2_with (go_at_call 32; refine (known_yes _ _ _ hc2).mono ?_; rintro e w' ⟨rfl, rfl⟩)
    go_ret
    exact ⟨rfl, rfl⟩
  · have hx' : (n : Int) ≤ x := by omega
    clear hx
    go_enter Tryd.func24, Tryd.ntmps24
    go_wp2_with (go_at_call 32; refine (known_yes _ _ _ hc2).mono ?_; rintro e w' ⟨rfl, rfl⟩)
    go_ret
    exact ⟨rfl, rfl⟩
theorem set_add_old (w : World) (B p n : Nat) (v : Value) (ws : List Nat) (h : IsSet w B p n v ws) (i : Nat) (hi : i < n) (hin : inSet ws i = true) :
    Calls Tryd.prog 24 #[.pointer (some ⟨p, 0, none⟩), .int .i64 i] w fun e w' => e = .returned (.bool false) ∧ w = w' := by
  have hc0 : w.cell? ⟨p, 0, none⟩ = some v := by simp [World.cell?, h.hp]
  have hc2 : w.cell? ⟨p, 2, none⟩ = some (.bool true) := by simp [World.cell?, h.hp]
  have hc1 : w.cell? ⟨p, 1, none⟩ = some (.int .i64 n) := by simp [World.cell?, h.hp]
  obtain ⟨g, cap, rfl, hgp, hgB, hcs, hfz⟩ := h.block (by omega)
  have hl := h.len
  have hn := h.hn
  have hk : i / 64 < ws.length := by omega
  have hcw : w.cell? ⟨g, 0 + i / 64, none⟩ = some (.int .u64 ((ws[i / 64]?.getD 0 : Nat) : Int)) := by
    rw [hcs (i / 64) (by rw [words_length]; exact hk), words_get]
  have hwd := h.word (i / 64)
  have hl64 : ws.length ≤ 64 := by omega
  have HC := (row_has g 0 ws.length cap i _ w hk hl64 hwd hcw)
  rw [show (ws[i / 64]?.getD 0).testBit (i % 64) = true from hin] at HC
  have H := Lib.hid HC
  clear hcs hfz h hl HC hin
  go_enter Tryd.func24, Tryd.ntmps24
  go_wp2_with (first | (go_at_call 32; refine (known_yes _ _ _ hc2).mono ?_; rintro e w' ⟨rfl, rfl⟩) | (go_at_call 36; refine H.out.mono ?_; rintro e w' ⟨rfl, rfl⟩))
  go_ret
  exact ⟨rfl, rfl⟩
theorem setCell_own {w : World} {B g cap : Nat} {t : TypeId} {xs : List Value} (h : w.ownsRow B t 1 (.slice (some ⟨g, 0, none⟩) xs.length cap) xs.length xs) (j : Nat) (u : Value) :
    (w.setCell ⟨g, j, none⟩ u).ownsRow B t 1 (.slice (some ⟨g, 0, none⟩) xs.length cap) xs.length (xs.set j u) := by
  refine ⟨by simp, ?_⟩
  rcases h.2 with ⟨hv, _⟩ | ⟨g', cap', cur, hv, hb, hg, h1, h2, h3, h4⟩
  · cases hv
  · simp only [Value.slice.injEq, Option.some.injEq, Addr.mk.injEq] at hv
    obtain ⟨⟨rfl, -⟩, -, rfl⟩ := hv
    refine .inr ⟨g, cap, cur.setIfInBounds j u, rfl, hb, ?_, h1, h2, by simpa using h3, ?_⟩
    · have hlt := (Array.getElem?_eq_some_iff.1 hg).1
      have hg' : w.heap[g] = .cells cur t (0, 0) := by simpa [Array.getElem?_eq_getElem hlt] using hg
      show (w.heap.modify g _)[g]? = _
      rw [Array.getElem?_eq_getElem (by simpa using hlt), Array.getElem_modify_self, hg']
      rfl
    · have h5 : (xs.set j u) = (cur.toList.take (xs.length * 1)).set j u := by rw [h4]
      rw [h5]
      simp [List.take_set]
theorem set_add_new (w : World) (B p n : Nat) (v : Value) (ws : List Nat) (h : IsSet w B p n v ws) (i : Nat) (hi : i < n) (hin : inSet ws i = false) :
    Calls Tryd.prog 24 #[.pointer (some ⟨p, 0, none⟩), .int .i64 i] w fun e w' => e = .returned (.bool true) ∧ IsSet w' B p n v (putIn ws i) ∧ Fr (fun k => v.ownBlock = some k) w w' := by
  have hc0 : w.cell? ⟨p, 0, none⟩ = some v := by simp [World.cell?, h.hp]
  have hc2 : w.cell? ⟨p, 2, none⟩ = some (.bool true) := by simp [World.cell?, h.hp]
  have hc1 : w.cell? ⟨p, 1, none⟩ = some (.int .i64 n) := by simp [World.cell?, h.hp]
  obtain ⟨g, cap, rfl, hgp, hgB, hcs, hfz⟩ := h.block (by omega)
  have hl := h.len
  have hn := h.hn
  have hk : i / 64 < ws.length := by omega
  have hcw : w.cell? ⟨g, 0 + i / 64, none⟩ = some (.int .u64 ((ws[i / 64]?.getD 0 : Nat) : Int)) := by
    rw [hcs (i / 64) (by rw [words_length]; exact hk), words_get]
  have hwd := h.word (i / 64)
  have hl64 : ws.length ≤ 64 := by omega
  have HC := (row_has g 0 ws.length cap i _ w hk hl64 hwd hcw)
  rw [show (ws[i / 64]?.getD 0).testBit (i % 64) = false from hin] at HC
  have H := Lib.hid HC
  have hfin : IsSet (w.setCell ⟨g, 0 + i / 64, none⟩ (.int .u64 ((ws[i / 64]?.getD 0 ||| 2 ^ (i % 64) : Nat) : Int))) B p n (.slice (some ⟨g, 0, none⟩) ws.length cap) (putIn ws i) := by
    have hown := h.own
    rw [← words_length ws] at hown
    have hs := setCell_own hown (0 + i / 64) (.int .u64 ((ws[i / 64]?.getD 0 ||| 2 ^ (i % 64) : Nat) : Int))
    refine ⟨?_, ?_, by simp [putIn, hl], h.hn, ?_, h.hB⟩
    · rw [Below.heap_setCell _ _ _ _ (fun e => hgp e.symm)]; exact h.hp
    · rw [words_length] at hs
      have e : (words ws).set (0 + i / 64) (.int .u64 ((ws[i / 64]?.getD 0 ||| 2 ^ (i % 64) : Nat) : Int)) = words (putIn ws i) := by simp [words, putIn, List.map_set]
      rw [e] at hs
      rw [show (putIn ws i).length = ws.length by simp [putIn]]
      exact hs
    · intro u hu
      rcases List.mem_or_eq_of_mem_set hu with h1 | rfl
      · exact h.hw u h1
      · exact Nat.or_lt_two_pow (n := 64) hwd (Nat.pow_lt_pow_right (by omega) (Nat.mod_lt _ (by omega)))
  have HC2 : Calls _ _ _ w fun e w' => e = .returned (.tuple #[]) ∧ IsSet w' B p n (.slice (some ⟨g, 0, none⟩) ws.length cap) (putIn ws i) ∧ Fr (fun k => some g = some k) w w' :=
    (row_put g 0 ws.length cap i _ w hk hl64 hwd hcw (hfz _)).mono fun e w' ⟨he, k, hw⟩ => by
      subst hw
      exact ⟨he, hfin.fr (Fr.drewN (ch := nothing) _ _) (fun e => e) (fun _ _ e => e), (Fr.setCell' (ch := fun k => some g = some k) _ _ rfl).trans (Fr.drewN _ _)⟩
  have H2 := Lib.hid HC2
  clear hcs hfz h hl HC hin hfin HC2
  go_enter Tryd.func24, Tryd.ntmps24
  go_wp2_with (first | (go_at_call 32; refine (known_yes _ _ _ hc2).mono ?_; rintro e w' ⟨rfl, rfl⟩) | (go_at_call 36; refine H.out.mono ?_; rintro e w' ⟨rfl, rfl⟩) | (go_at_call 37; refine H2.out.mono ?_; rintro e w' ⟨rfl, hS, hF⟩))
  go_ret
  exact ⟨rfl, hS, hF⟩
end Go.Proofs.YtfhleelechbdmaaDoor
