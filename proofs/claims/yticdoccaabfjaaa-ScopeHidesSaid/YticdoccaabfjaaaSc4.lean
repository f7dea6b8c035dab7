/-
  Package scope: which names were not used: the closure, slices.Clone, IndexFunc.
-/
import Derived.Test.YticdoccaabfjaaaSc3
import Derived.Lib.SliceRun
namespace Go.Proofs.Yticdoccaabfjaaa
open Go.RowKit
set_option maxHeartbeats 400000

def strs (l : List ByteArray) : List Value := l.map Value.string
/-- A slice value that reads as texts. -/
def Texts (w : World) (v : Value) (xs : List ByteArray) : Prop :=
  ∃ a cap, v = .slice a xs.length cap ∧ xs.length ≤ cap ∧ cap ≤ maxLen ∧ (xs = [] ∨ ∃ b o, a = some ⟨b, o, none⟩ ∧ Cells w b o (strs xs))
theorem Texts.fr {w w' : World} {v : Value} {xs : List ByteArray} (h : Texts w v xs) (k : Fr nothing w w') : Texts w' v xs := by
  obtain ⟨a, cap, h1, h2, h3, h4⟩ := h
  exact ⟨a, cap, h1, h2, h3, h4.imp id fun ⟨b, o, e, hc⟩ => ⟨b, o, e, hc.fr k fun e => e⟩⟩
theorem Try.infoStr : (Try.prog.info? 9).map (fun i => (i.zero, i.size, i.bytes)) = some (some (.string ⟨#[]⟩), 1, 16) := by kernel_rfl

def usedB (l : List Th) (s : ByteArray) : Bool := match findTh l s with | some x => x.nm.used | none => false
theorem used1_any {w : World} {F : Nat → Prop} {b : MB} (h : IsBlk w F b) (bb : Nat) (hb : w.heap[bb]? = some (.cells #[b.nv, .map (some b.mb)] 58 (0, 0))) (s : ByteArray) (x : Th) (hx : findTh b.l s = some x) :
    Calls Try.prog 28 #[.string s, .pointer (some ⟨bb, 0, none⟩)] w fun e w' => e = .returned (.bool (usedB b.l s)) ∧ w = w' := by
  have hmem : x ∈ b.l := List.mem_of_find?_eq_some hx
  obtain ⟨v, S, _, _, h1, _⟩ := h.things x hmem
  have hc1 := obj_cell hb 1 rfl
  have hc3 := obj_cell h1 3 rfl
  have hl : (Instr.lookup 56 (.map (some b.mb)) (.string s) false).run Try.prog w = .ok (.pointer (some ⟨x.pos, 0, none⟩)) w := by
    have := h.map.look (P := Try.prog) (t := 56) (kt := 9) (et := 63) (k := .string s) (by kernel_rfl) (by kernel_rfl) trivial (z := .pointer none) (by rfl) false
    simpa [blkMap, hx] using this
  have HU : usedB b.l s = x.nm.used := by simp [usedB, hx]
  rw [HU]
  clear h h1 hb hx HU
  go_enter Try.func28, Try.ntmps28
  go_wp2
  go_ret
  exact ⟨rfl, rfl⟩

set_option maxRecDepth 100000 in
set_option maxHeartbeats 1000000 in
theorem clone_any (w : World) (v : Value) (xs : List ByteArray) (h : w.ownsRow 0 9 1 v xs.length (strs xs)) (hl : xs.length ≤ 1000000000000) :
    Calls Try.prog 27 #[v] w fun e w' => ∃ v', e = .returned v' ∧ w'.ownsRow w.heap.size 9 1 v' xs.length (strs xs) ∧ Below w.heap.size w w' := by
  obtain ⟨i0, hi, hz0, hz1, hz2⟩ := info_parts Try.infoStr
  have hxl : (strs xs).length = xs.length * 1 := by simp [strs]
  obtain ⟨a, cap, rfl, hc, hm, hx⟩ := own_cells h
  cases a with
  | none =>
    obtain rfl : xs = [] := by
      rcases hx with h | ⟨g, e, _⟩
      · simpa [strs] using h
      · cases e
    have hcap : cap = 0 := by
      rcases h.2 with ⟨e, _⟩ | ⟨g, c, cur, e, _⟩
      · cases e; rfl
      · cases e
    subst hcap
    have hnil := Lib.run_eql_slice_nil (P := Try.prog) w 30 9 none 0 0 0 0 (by kernel_rfl)
    clear h hx
    go_enter Try.func27, Try.ntmps27
    go_wp2
    go_ret
    exact ⟨_, rfl, World.ownsRow_nil _ _ _ _, Below.refl _ _⟩
  | some ad =>
    have hnil := fun (n c : Nat) => Lib.run_eql_slice_nil (P := Try.prog) w 30 9 (some ad) n c 0 0 (by kernel_rfl)
    have hsrc : ∀ W, Fr nothing w W → ∀ j u, (strs xs)[j]? = some u → W.cell? (ad.add j) = some u := by
      intro W hW
      rcases hx with h | ⟨g, e, _, hcs⟩
      · intro j u hu; rw [h] at hu; simp at hu
      · cases e; exact cells_add (hcs.fr hW fun e => e)
    have HS := Lib.hid hsrc
    have HX := Lib.hid hxl
    clear h hx hsrc hxl
    go_enter Try.func27, Try.ntmps27
    go_wp2_with (at_builtin; refine wpList_append_any rfl _ _ 30 rfl w.heap.size 9 i0 _ 1 16 Try.underlying30 hi hz0 hz1 hz2 rfl (by decide) (.slice (some ⟨w.heap.size, 0, none⟩) 0 0) 0 [] rfl (own_laid (alloc_obj w _) (Nat.le_refl _) (by simp) (by unfold maxLen; omega)) (some ad) xs.length cap (strs xs) rfl HX.out (.inr ⟨ad, rfl, HS.out _ (Fr.alloc _ _)⟩) (by simp [strs, Value.oneCell']) (by unfold maxLen; omega) (by omega) (by simp) ?_; intro v' w2 hown2 hgrow2)
    go_ret
    simp only [Nat.zero_add, List.nil_append] at hown2
    exact ⟨_, rfl, hown2, ((Below.refl _ _).alloc (Nat.le_refl _) _).grown hgrow2 (by simp) fun k e => by cases e; exact Nat.le_refl _⟩

/-- The closure over the box bb tells of texts what p tells, wherever only block g has turned. -/
def Tells (w : World) (g bb : Nat) (p : ByteArray → Bool) (xs : List ByteArray) : Prop :=
  ∀ W, Fr (only g) w W → ∀ s ∈ xs, Calls Try.prog 28 #[.string s, .pointer (some ⟨bb, 0, none⟩)] W fun e w' => e = .returned (.bool (p s)) ∧ W = w'
/-- k is the place of the first of which p is true, or -1. -/
def Found (p : ByteArray → Bool) (xs : List ByteArray) (k : Int) : Prop :=
  (k = -1 ∧ ∀ s ∈ xs, p s = false) ∨ ∃ (j : Nat) (hj : j < xs.length), k = j ∧ p xs[j] = true ∧ ∀ i (hi : i < xs.length), i < j → p xs[i] = false
set_option maxRecDepth 100000 in
set_option maxHeartbeats 1000000 in
theorem indexFunc_any (w : World) (g bb : Nat) (p : ByteArray → Bool) (xs : List ByteArray) (h : Tells w g bb p xs) (a : Option Addr) (cap N : Nat) (hN : N = xs.length) (hcap : N ≤ cap) (hm : cap ≤ maxLen) (hx : xs = [] ∨ ∃ b o, a = some ⟨b, o, none⟩ ∧ Cells w b o (strs xs)) :
    Calls Try.prog 30 #[.slice a N cap, .func (.func 28) #[] #[.pointer (some ⟨bb, 0, none⟩)]] w fun e w' => (∃ k : Int, e = .returned (.int .i64 k) ∧ Found p xs k) ∧ w = w' := by
  have hm' : cap ≤ 9223372036854775807 := hm
  have hcl : ∀ k (hk : k < xs.length), ∃ b o, a = some ⟨b, o, none⟩ ∧ w.cell? ⟨b, o + k, none⟩ = some (.string xs[k]) := fun k hk => by
    rcases hx with rfl | ⟨b, o, e, hc⟩
    · simp at hk
    · exact ⟨b, o, e, by have := hc k (by simpa [strs] using hk); simpa [strs] using this⟩
  have HC := Lib.hid hcl
  have HT := Lib.hid (fun s hs => h w (Fr.refl _ w) s hs)
  have HN := Lib.hid hN
  clear hcl hx hm h hN
  go_enter Try.func30, Try.ntmps30
  go_wp2
  go_loop [8] (fun i => ∃ k : Nat, k ≤ N ∧ i = .int .i64 k ∧ ∀ j (hj : j < xs.length), j < k → p xs[j] = false) (fun i => N - (intOf i).toNat)
  case atStart => exact ⟨0, Nat.zero_le _, rfl, fun j _ h => by omega⟩
  case round =>
    obtain ⟨k, hk, rfl, hno⟩ := hrel
    have HNO := Lib.hid hno
    clear hno
    by_cases hlt : k < N
    · have hk' : k < xs.length := by rw [← HN.out]; exact hlt
      obtain ⟨b, o, rfl, hcx⟩ := HC.out k hk'
      have hcall := HT.out _ (List.getElem_mem hk')
      cases hp : p xs[k] with
      | true =>
        rw [hp] at hcall
        have HP := Lib.hid hp
        have HCL := Lib.hid hcall
        clear hp hcall
        generalize hs : xs[k] = s at hcx HCL
        clear hs
        go_wp2_with (go_at_call 28; refine HCL.out.mono ?_; rintro e w' ⟨rfl, rfl⟩)
        go_ret
        exact ⟨⟨_, rfl, .inr ⟨k, hk', rfl, HP.out, HNO.out⟩⟩, rfl⟩
      | false =>
        rw [hp] at hcall
        have HP := Lib.hid hp
        have HCL := Lib.hid hcall
        clear hp hcall
        generalize hs : xs[k] = s at hcx HCL
        clear hs
        go_wp2_with (go_at_call 28; refine HCL.out.mono ?_; rintro e w' ⟨rfl, rfl⟩)
        go_round
        case rel =>
          refine ⟨k + 1, by omega, by go_num, fun j hj hjk => ?_⟩
          by_cases e : j = k
          · subst e; exact HP.out
          · exact HNO.out j hj (by omega)
        case measure => simp [intOf]; omega
    · obtain rfl : k = N := by omega
      clear hlt
      go_wp2
      go_ret
      refine ⟨⟨_, rfl, .inl ⟨rfl, fun s hs => ?_⟩⟩, rfl⟩
      obtain ⟨j, hj, rfl⟩ := List.mem_iff_getElem.1 hs
      exact HNO.out j hj (by rw [HN.out]; exact hj)
end Go.Proofs.Yticdoccaabfjaaa
