/-
  Package items: the closure that recovers; the states as they are reckoned, step by step.
-/
import Derived.Test.YtgmkpncpcikecaaItK
namespace Go.Proofs.Ytgmkpncpcikecaa
open Go.RowKit Go.MapKept Go.ChangeMaps
set_option maxHeartbeats 400000

theorem assert_full (w : World) : (Instr.typeAssert (.iface 56 (.agg #[])) 20 56 true).run Try.prog w = .ok (.tuple #[.agg #[], .bool true]) w := by kernel_rfl
theorem col1_caught (pl pe : Nat) (v : Value) (x : Int) (older : List PanicEntry) (w : World) (hc : w.cell? ⟨pl, 0, none⟩ = some v) (hz : w.frozen? ⟨pl, 0, none⟩ = false)
    (hc' : w.cell? ⟨pe, 0, none⟩ = some (.int .i64 x)) (hz' : w.frozen? ⟨pe, 0, none⟩ = false) (hne : pl ≠ pe) :
    CallsD Try.prog 16 #[.pointer (some ⟨pl, 0, none⟩), .pointer (some ⟨pe, 0, none⟩)] (.panicking ({ v := fullV, recovered := false } :: older)) w fun e u' w' =>
      e = .returned (.tuple #[]) ∧ u' = .panicking ({ v := fullV, recovered := true } :: older) ∧ w' = ((w.alloc (.cells #[] 56 (0, 0))).setCell ⟨pl, 0, none⟩ (.slice none 0 0)).setCell ⟨pe, 0, none⟩ (.int .i64 104) := by
  unfold fullV
  refine callsD_of_wpS Try.func16 rfl fun c₀ cs hu => ?_
  apply wpS_seq
  apply wpS_region
  simp [wpOpsS, go_sem, recoverD, hu, Try.ntmps16, Exit.thenS]
  simp only [Array.replicate_succ, Array.replicate_zero, List.push_toArray, List.append_toArray, List.nil_append, List.cons_append, List.setIfInBounds_toArray, List.set_cons_succ, List.set_cons_zero]
  refine wpS_of_wp ?_
  have hta := assert_full
  have k := Fr.alloc (ch := nothing) w (Obj.cells #[] 56 (0, 0))
  have h1 := k.cell hc id
  have h2 := k.cell hc' id
  have z1 := (k.frozen (World.block_lt_of_cell? w _ hc) id).trans hz
  have z2 := (k.frozen (World.block_lt_of_cell? w _ hc') id).trans hz'
  clear k
  go_wp2
  exact ⟨rfl, _, rfl, _, by simp [results, Try.results16], rfl, rfl, rfl⟩
theorem col1_idle (pl pe : Nat) (w : World) :
    CallsD Try.prog 16 #[.pointer (some ⟨pl, 0, none⟩), .pointer (some ⟨pe, 0, none⟩)] .returning w fun e u' w' => e = .returned (.tuple #[]) ∧ u' = .returning ∧ w' = w := by
  refine callsD_of_wpS Try.func16 rfl fun c₀ cs hu => ?_
  apply wpS_seq
  apply wpS_region
  simp [wpOpsS, go_sem, recoverD, hu, Try.ntmps16, Exit.thenS]
  simp only [Array.replicate_succ, Array.replicate_zero, List.push_toArray, List.append_toArray, List.nil_append, List.cons_append, List.setIfInBounds_toArray, List.set_cons_succ, List.set_cons_zero]
  refine wpS_of_wp ?_
  go_wp2
  cases c₀
  simp_all [bodyPostS, results, Try.results16]
theorem right_side {G : Gram} (h : rightG G = true) (k : Nat) (hk : k < G.prods.length) : G.prods[k].right.length ≤ 10 ∧ ∀ s ∈ G.prods[k].right, 1 ≤ s ∧ s < (G.syms.length : Int) := by
  obtain ⟨terms, syms, prods⟩ := G
  have := (rightG_parts h).2.2
  have key : ∀ p : Prd, rightSide terms syms.length p.right = true → p.right.length ≤ 10 ∧ ∀ s ∈ p.right, 1 ≤ s ∧ s < (syms.length : Int) := fun p hp => by
    unfold rightSide rightRow at hp
    simp only [Bool.and_eq_true, List.all_eq_true, decide_eq_true_eq, Bool.not_eq_true', Bool.or_eq_false_iff, decide_eq_false_iff_not] at hp
    exact ⟨hp.2, fun s hs => by have := hp.1 s hs; omega⟩
  cases prods with
  | nil => simp at hk
  | cons p r =>
    simp only [prodsG, Bool.and_eq_true, List.all_eq_true] at this
    obtain ⟨h1, h2⟩ := this
    cases k with
    | zero =>
      unfold firstG at h1
      simp only [Bool.and_eq_true] at h1
      exact key p h1.2.2.1
    | succ k =>
      have hk' : k < r.length := by simpa using hk
      have h3 := h2 r[k] (List.getElem_mem _)
      simp only [List.getElem_cons_succ]
      unfold prodG at h3
      simp only [Bool.and_eq_true, Bool.not_eq_true', Bool.or_eq_false_iff, Bool.not_eq_false'] at h3
      exact key _ h3.1.2.2
theorem right_of {G : Gram} (h : rightG G = true) {x : It} (hx : InI G x) : (rightOf G x.1).length ≤ 10 ∧ ∀ s ∈ rightOf G x.1, 1 ≤ s ∧ s < (G.syms.length : Int) := by
  obtain ⟨h0, h1, h2, h3⟩ := hx
  have hlt : x.1.toNat < G.prods.length := by omega
  have he := rightOf_at G hlt
  rw [show ((x.1.toNat : Nat) : Int) = x.1 by omega] at he
  rw [he]
  exact right_side h _ hlt
theorem inI_small {G : Gram} (h : rightG G = true) {x : It} (hx : InI G x) : smallI x := by
  have h1 := (right_of h hx).1
  have h2 := (rightG_parts h).1
  obtain ⟨h3, h4, h5, h6⟩ := hx
  exact ⟨(small_iff _).2 (by omega), (small_iff _).2 (by omega)⟩
theorem beh_sym {G : Gram} (h : rightG G = true) {x : It} (hx : InI G x) {s : Int} (hb : behI G x = some s) : 1 ≤ s ∧ s < (G.syms.length : Int) := (right_of h hx).2 s (List.mem_of_getElem? hb)
theorem onI_in {G : Gram} {L : List It} (hL : ∀ x ∈ L, InI G x) (s : Int) : ∀ x ∈ onI G L s, InI G x := fun x hx => by
  obtain ⟨y, hy, hb, rfl⟩ := onI_mem.1 hx
  obtain ⟨h0, h1, h2, h3⟩ := hL y hy
  unfold behI at hb
  have := (List.getElem?_eq_some_iff.1 hb).1
  exact ⟨h0, h1, by show 0 ≤ y.2 + 1; omega, by show y.2 + 1 ≤ ((rightOf G y.1).length : Int); omega⟩
/-- What holds of the kernels. -/
def KOk (G : Gram) (ks : List (List It)) : Prop := ∀ j (h : j < ks.length), ks[j].length ≤ 1 + 128 * j ∧ ∀ x ∈ ks[j], InI G x
theorem KOk.put {G : Gram} (hr : rightG G = true) {ks ks' : List (List It)} (h : KOk G ks) (hl : ks.length ≤ 256) {i : Nat} (K : List It) (hi : i < ks.length) (hK : K.length ≤ 1 + 128 * i) (hKi : ∀ x ∈ K, InI G x) (s : Int) {j : Nat} (hp : putK ks (onI G (cloL G K) s) = some (j, ks')) : KOk G ks' := by
  obtain ⟨_, _, ⟨_, rfl⟩ | ⟨rfl, rfl, _⟩⟩ := putK_spec hp hl
  · exact h
  · intro j hj
    simp only [List.length_append, List.length_singleton] at hj
    by_cases e : j < ks.length
    · rw [List.getElem_append_left e]
      exact h j e
    · have : j = ks.length := by omega
      subst this
      rw [List.getElem_concat_length rfl]
      have h1 := onI_len G (cloL G K) s
      have h2 := cloL_len G K
      have h3 := right_short hr
      refine ⟨by omega, onI_in (fun x hx => inClo_in hKi (cloL_mem.1 hx)) s⟩
theorem edgesGo_filter (G : Gram) (L : List It) : ∀ (l : List Int) (ks : List (List It)) (es : List (Int × Int)), edgesGo G L (l.filter fun s => decide (onI G L s ≠ [])) ks es = edgesGo G L l ks es
  | [], _, _ => rfl
  | s :: l, ks, es => by
    rw [List.filter_cons]
    by_cases h : onI G L s = []
    · rw [if_neg (by simp [h]), edgesGo_filter G L l ks es]
      conv => rhs; unfold edgesGo
      rw [if_pos h]
    · rw [if_pos (by simp [h])]
      unfold edgesGo
      rw [if_neg h, if_neg h]
      cases hp : putK ks (onI G L s) with
      | none => rfl
      | some q => exact edgesGo_filter G L l q.2 _
theorem rising_eq : ∀ {l l' : List Int}, l.Pairwise (· < ·) → l'.Pairwise (· < ·) → (∀ x, x ∈ l ↔ x ∈ l') → l = l' := fun {l l'} h h' hm => by
  refine List.Perm.eq_of_pairwise (le := (· < ·)) (fun a b _ _ h1 h2 => by omega) h h' ((List.perm_ext_iff_of_nodup (h.imp fun h => by omega) (h'.imp fun h => by omega)).2 hm)
theorem symsI_ris (G : Gram) : (symsI G).Pairwise (· < ·) := by
  unfold symsI
  refine List.pairwise_map.2 (List.pairwise_lt_range.imp fun h => by omega)
theorem keys_are {G : Gram} (hr : rightG G = true) {L : List It} (hL : ∀ x ∈ L, InI G x) {ss : List Int} (h : ss.Pairwise (· < ·)) (hm : ∀ x, x ∈ ss ↔ onI G L x ≠ []) : ss = (symsI G).filter fun s => decide (onI G L s ≠ []) := by
  refine rising_eq h ((symsI_ris G).sublist List.filter_sublist) fun x => ?_
  rw [hm, List.mem_filter, decide_eq_true_eq]
  refine ⟨fun hx => ⟨?_, hx⟩, fun h => h.2⟩
  obtain ⟨y, hy⟩ := List.exists_mem_of_ne_nil _ hx
  obtain ⟨z, hz, hb, _⟩ := onI_mem.1 hy
  have := beh_sym hr (hL z hz) hb
  unfold symsI
  exact List.mem_map.2 ⟨x.toNat, List.mem_range.2 (by omega), by omega⟩
end Go.Proofs.Ytgmkpncpcikecaa
