/-
  Package items: a kernel's copy.
-/
import Derived.Test.YtgmkpncpcikecaaIt7
import Derived.Lib.SliceRun
namespace Go.Proofs.Ytgmkpncpcikecaa
open Go.RowKit Go.MapKept Go.ChangeMaps
set_option maxHeartbeats 400000

theorem Try.infoItem : (Try.prog.info? 41).map (fun i => (i.zero, i.size, i.bytes)) = some (some (.agg #[.int .i64 0, .int .i64 0]), 2, 16) := by kernel_rfl
theorem enc_one (l : List It) : ∀ u ∈ l.flatMap encI, u.oneCell' = true := fun u hu => by
  obtain ⟨x, _, hx⟩ := List.mem_flatMap.1 hu
  simp only [encI, List.mem_cons, List.not_mem_nil, or_false] at hx
  rcases hx with rfl | rfl <;> rfl
theorem own_laid0 {w : World} {B e size g n : Nat} {cs : Array Value} (hg : w.heap[g]? = some (.cells cs e (0, 0))) (hb : B ≤ g) (hs : cs.size = n * size) (hn : n ≤ maxLen) : w.ownsRow B e size (.slice (some ⟨g, 0, none⟩) n n) n cs.toList :=
  ⟨by simpa using hs, .inr ⟨g, n, cs, rfl, hb, hg, Nat.le_refl _, hn, hs, by rw [List.take_of_length_le (by simp; omega)]⟩⟩
/-- What is a new list of items. -/
def NewI (l : List It) (w : World) (e : Ending) (w' : World) : Prop := ∃ u, e = .returned u ∧ OwnI w' w.heap.size u l ∧ Below w.heap.size w w'
theorem IsItems.cells {w : World} {a : Option Addr} {n c : Nat} {l : List It} (h : IsItems w (.slice a n c) l) : (a = none ∧ n = 0) ∨ ∃ ad, a = some ad ∧ ∀ j u, (l.flatMap encI)[j]? = some u → w.cell? (ad.add j) = some u := by
  obtain ⟨h1, a', c', e, h2, h3, h4⟩ := h
  simp only [Value.slice.injEq] at e
  obtain ⟨rfl, rfl, rfl⟩ := e
  rcases h4 with rfl | ⟨b, o, rfl, hx⟩
  · cases a with
    | none => exact .inl ⟨rfl, rfl⟩
    | some ad => exact .inr ⟨ad, rfl, fun j u hj => by simp at hj⟩
  · refine .inr ⟨_, rfl, cells_add fun j hj => ?_⟩
    rw [enc_len] at hj
    have hi : j / 2 < l.length := by omega
    obtain ⟨_, hc⟩ := hx (j / 2) hi
    have h5 := hc (j % 2) (by simp [encI]; omega)
    have h6 := enc_flat_at hi (j % 2) (by omega)
    have e : j / 2 * 2 + j % 2 = j := by omega
    rw [e] at h6
    rw [List.getElem?_eq_getElem (by rw [enc_len]; exact hj), List.getElem?_eq_getElem (by simp [encI]; omega)] at h6
    simp only [Option.some.injEq] at h6
    rw [h6, ← h5]
    congr 2
    omega

set_option maxRecDepth 100000 in
theorem clone_any (v : Value) (l : List It) (w : World) (h : IsItems w v l) (hl : l.length ≤ 1000000) :
    Calls Try.prog 34 #[v] w (NewI l w) := by
  obtain ⟨i0, hi, hz0, hz1, hz2⟩ := info_parts Try.infoItem
  obtain ⟨a, c, rfl, -, -, -⟩ := h.parts
  have hcell := h.cells
  cases a with
  | none =>
    have h0 : l.length = 0 := by
      rcases hcell with ⟨_, h⟩ | ⟨ad, h, _⟩
      · exact h
      · cases h
    obtain rfl := List.eq_nil_of_length_eq_zero h0
    have hnil := fun n c => Lib.run_eql_slice_nil (P := Try.prog) w 36 41 none n c 0 0 (by kernel_rfl)
    clear h hcell h0
    go_enter Try.func34, Try.ntmps34
    go_wp2
    go_ret
    exact ⟨_, rfl, OwnI.nil _ _, Below.refl _ _⟩
  | some ad =>
    have hnil := fun (n c : Nat) => Lib.run_eql_slice_nil (P := Try.prog) w 36 41 (some ad) n c 0 0 (by kernel_rfl)
    have hcs := hcell.resolve_left fun e => by cases e.1
    obtain ⟨ad', e, hcs⟩ := hcs
    simp only [Option.some.injEq] at e
    subst e
    have HC := Lib.hid fun (o : Obj) j u hj => (Fr.alloc (ch := nothing) w o).cell (hcs j u hj) id
    have HL := Lib.hid (enc_len l)
    have HO := Lib.hid (enc_one l)
    have HW := Lib.hid (show ∀ (w4 : World) (B : Nat) (u : Value), w4.ownsRow B 41 2 u l.length (l.flatMap encI) → OwnI w4 B u l from fun _ _ _ h => h)
    clear h hcell hcs
    generalize l.flatMap encI = cs at *
    generalize hn : l.length = n at *
    have HN := Lib.hid hn
    clear hn
    go_enter Try.func34, Try.ntmps34
    go_wp2_with (at_builtin; refine wpList_append_any rfl _ _ 36 rfl w.heap.size 41 i0 _ 2 16 Try.underlying36 hi hz0 hz1 hz2 rfl (by decide) (.slice (some ⟨w.heap.size, 0, none⟩) 0 0) 0 [] rfl (own_laid0 (alloc_obj w _) (Nat.le_refl _) (by simp) (by unfold maxLen; omega)) (some ad) n c cs rfl HL.out (.inr ⟨ad, rfl, HC.out _⟩) HO.out (by unfold maxLen; omega) (by omega) (by simp) ?_; intro v' w2 hown2 hgrow2)
    go_ret
    refine ⟨_, rfl, HW.out _ _ _ (by simpa using hown2), ((Below.refl _ w).alloc (Nat.le_refl _) _).grown hgrow2 (by simp) fun g e => ?_⟩
    simp only [Value.ownBlock, Option.some.injEq] at e
    omega
end Go.Proofs.Ytgmkpncpcikecaa
