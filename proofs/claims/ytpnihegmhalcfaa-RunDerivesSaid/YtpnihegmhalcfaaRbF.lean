/-
  gristmilllaw25: count.
-/
import Derived.Test.YtpnihegmhalcfaaRbC
namespace Go.Proofs.Ytpnihegmhalcfaa
open Go.RowKit
set_option maxHeartbeats 400000

/-- The productions of the first parts. -/
def cntTo (f : Fo) (i : Nat) : List Int := (List.range i).flatMap fun j => countT (f.get j)
theorem cntTo_succ (f : Fo) (i : Nat) : cntTo f (i + 1) = cntTo f i ++ countT (f.get i) := by
  unfold cntTo
  rw [List.range_succ, List.flatMap_append, List.flatMap_singleton]
theorem cntTo_cons (p a : Int) (k r : Fo) : ∀ i : Nat, cntTo (.cons p a k r) (i + 1) = countT ⟨p, a, k⟩ ++ cntTo r i
  | 0 => by simp [cntTo, Fo.get]
  | i + 1 => by
    rw [cntTo_succ, cntTo_cons p a k r i, cntTo_succ, List.append_assoc]
    rfl
theorem cntTo_all : ∀ f : Fo, cntTo f f.len = countF f
  | .nil => rfl
  | .cons p a k r => by
    show cntTo (.cons p a k r) (r.len + 1) = countT ⟨p, a, k⟩ ++ countF r
    rw [cntTo_cons, cntTo_all r]
theorem cntTo_pre (f : Fo) : ∀ (n i : Nat), i ≤ n → ∃ r, cntTo f n = cntTo f i ++ r
  | 0, i, h => by
    obtain rfl : i = 0 := by omega
    exact ⟨[], by simp⟩
  | n + 1, i, h => by
    by_cases e : i = n + 1
    · subst e
      exact ⟨[], by simp⟩
    · obtain ⟨r, hr⟩ := cntTo_pre f n i (by omega)
      exact ⟨r ++ countT (f.get n), by rw [cntTo_succ, hr, List.append_assoc]⟩
def SmallL (l : List Int) : Prop := l.length ≤ 1000000 ∧ ∀ x ∈ l, 0 ≤ x ∧ x ≤ 1000000
theorem SmallL.pre {l r : List Int} (h : SmallL (l ++ r)) : SmallL l := ⟨by have := h.1; rw [List.length_append] at this; omega, fun x hx => h.2 x (List.mem_append_left _ hx)⟩
theorem SmallL.suf {l r : List Int} (h : SmallL (l ++ r)) : SmallL r := ⟨by have := h.1; rw [List.length_append] at this; omega, fun x hx => h.2 x (List.mem_append_right _ hx)⟩
theorem ints_src {w : World} {a : Option Addr} {n c : Nat} {xs : List Int} (h : Ints w (.slice a n c) xs) : a = none ∧ n = 0 ∨ ∃ ad, a = some ad ∧ ∀ j u, (xs.map (Value.int .i64))[j]? = some u → w.cell? (ad.add j) = some u := by
  obtain ⟨-, -, a', c', e', -, -, h⟩ := h
  simp only [Value.slice.injEq] at e'
  obtain ⟨rfl, rfl, rfl⟩ := e'
  rcases h with rfl | ⟨b, o, rfl, hc⟩
  · cases a with
    | none => exact .inl ⟨rfl, rfl⟩
    | some ad => exact .inr ⟨ad, rfl, fun j u hj => by simp at hj⟩
  · exact .inr ⟨_, rfl, cells_add hc⟩

def CountT (t : Tr) : Prop := ∀ (w : World) (xv : Value), IsTree w xv t → SmallL (countT t) → Calls Try.prog 16 #[xv] w fun e w' => ∃ r, e = .returned r ∧ Ints w' r (countT t) ∧ Below w.heap.size w w'

set_option maxRecDepth 100000 in
set_option maxHeartbeats 4000000 in
theorem count_of (t : Tr) (hk : ∀ i, i < t.kids.len → CountT (t.kids.get i)) : CountT t := by
  intro w xv hx hsm
  obtain ⟨kv, rfl, hkv⟩ := hx
  obtain ⟨ka, kc, rfl, hkc, hkm, hkx⟩ := hkv
  obtain ⟨tp, ta, tk⟩ := t
  simp only at hkc hkx hk ⊢
  have hob := alloc_obj w (Obj.cells #[.int .i64 tp, .int .i64 ta, .slice ka tk.len kc] 40 (0, 0))
  have hb1 := (Below.refl _ w).alloc (Nat.le_refl _) (Obj.cells #[.int .i64 tp, .int .i64 ta, .slice ka tk.len kc] 40 (0, 0))
  by_cases hp : tp = -1
  · subst hp
    have hc : countT ⟨-1, ta, tk⟩ = [] := by unfold countT; rw [if_pos rfl]
    rw [hc]
    go_enter Try.func16, Try.ntmps16
    go_wp2
    go_ret
    exact ⟨_, rfl, ⟨by simp, by simp, none, 0, rfl, Nat.le_refl _, by unfold maxLen; omega, .inl rfl⟩, hb1⟩
  · have hc : countT ⟨tp, ta, tk⟩ = cntTo tk tk.len ++ [tp] := by unfold countT; rw [if_neg hp, cntTo_all]
    rw [hc] at hsm ⊢
    have b0 : (tp == -1) = false := beq_eq_false_iff_ne.2 hp
    obtain ⟨i0, hi, hz0, hz1, hz2⟩ := info_parts Try.infoInt'
    obtain ⟨n, hn⟩ : ∃ n, tk.len = n := ⟨_, rfl⟩
    rw [hn] at hob hb1 hkc hsm ⊢
    have HSM := Lib.hid hsm
    have HN := Lib.hid hn
    have HK := Lib.hid hk
    have HKX := Lib.hid hkx
    have HX := Lib.hid (And.intro hob hb1)
    have hnb : n ≤ 9223372036854775807 := by unfold maxLen at hkm; omega
    clear hn hk hkx hob hb1 hsm hc hp hkc hkm
    go_enter Try.func16, Try.ntmps16
    go_upto_region 1 with fail
    generalize w.alloc (Obj.cells #[.int .i64 tp, .int .i64 ta, .slice ka n kc] 40 (0, 0)) = W1 at *
    have t0 := obj_cell HX.out.1 0 (v := .int .i64 tp) rfl
    have t2 := obj_cell HX.out.1 2 (v := .slice ka n kc) rfl
    go_upto_region 5 with fail
    go_loopw [3, 4] (fun ov iv wr => ∃ i : Nat, i ≤ n ∧ iv = .int .i64 (i : Int) ∧ wr.ownsRow W1.heap.size 3 1 ov (cntTo tk i).length ((cntTo tk i).map (Value.int .i64)) ∧ Below W1.heap.size W1 wr) (fun _ iv _ => n - (intOf iv).toNat)
    case atStart => exact ⟨0, Nat.zero_le _, rfl, World.ownsRow_nil _ _ _ _, Below.refl _ _⟩
    case round =>
      obtain ⟨i, hile, rfl, hown, hb⟩ := hrel
      have kw := Fr.new hb
      have t0 := kw.cell t0 id
      have t2 := kw.cell t2 id
      obtain ⟨r0, hr0⟩ := cntTo_pre tk n i hile
      have hsi : SmallL (cntTo tk i) := by have h := HSM.out.pre; rw [hr0] at h; exact h.pre
      obtain ⟨oa, oc, rfl, -, -, -⟩ := own_as_cells hown
      by_cases hlt : i < n
      · have hif : i < tk.len := by rw [HN.out]; exact hlt
        have hne : tk ≠ .nil := fun e => by rw [e] at hif; simp [Fo.len] at hif
        obtain ⟨kb, ko, rfl, tr⟩ : ∃ kb ko, ka = some ⟨kb, ko, none⟩ ∧ TrAt wr (fun _ => True) kb (ko + i * 3) (tk.get i) := by
          rcases HKX.out with h | ⟨g, o, e, -, h⟩
          · exact absurd h hne
          · exact ⟨g, o, e, (h.fr ((Fr.new HX.out.2).trans kw) (fun _ _ _ => id) (fun _ _ _ => trivial) id).at hif⟩
        have hsz : SmallL (countT (tk.get i)) ∧ (cntTo tk i).length + (countT (tk.get i)).length ≤ 1000000 := by
          obtain ⟨r1, hr1⟩ := cntTo_pre tk n (i + 1) hlt
          have h := HSM.out.pre
          rw [hr1] at h
          have h := h.pre
          rw [cntTo_succ] at h
          exact ⟨h.suf, by have := h.1; rw [List.length_append] at this; exact this⟩
        have hQ := HK.out i hif
        have hsucc := cntTo_succ tk i
        generalize tk.get i = t at *
        obtain ⟨p0, p1, kv2, p2, hk2'⟩ := tr
        have HC := Lib.hid (hQ wr (.agg #[.int .i64 t.p, .int .i64 t.a, kv2]) ⟨_, rfl, hk2'⟩ hsz.1)
        obtain ⟨ka2, kc2, rfl, -, -, -⟩ := hk2'
        have HB := Lib.hid hb
        have HO := Lib.hid hown
        have HZ := Lib.hid hsz
        have HS := Lib.hid hsucc
        have ho1 := hsz.2
        clear hQ kw hb hown hsz hsucc hr0 hsi
        generalize t.kids.len = kn at *
        generalize t.p = tq at *
        generalize t.a = tb at *
        obtain ⟨L, hL⟩ : ∃ L, cntTo tk i = L := ⟨_, rfl⟩
        rw [hL] at HO HS ho1 ⊢
        obtain ⟨ln, hln⟩ : ∃ ln, L.length = ln := ⟨_, rfl⟩
        rw [hln] at HO ho1 ⊢
        have HL := Lib.hid (And.intro hL hln)
        clear hL hln
        have HO1 := Lib.hid (show ∀ (l : List Int), ∀ u ∈ l.map (Value.int .i64), u.oneCell' = true from fun l u hu => by
          obtain ⟨x, -, rfl⟩ := List.mem_map.1 hu
          rfl)
        go_upto_region 7 with fail
        go_upto_region 6 with (first
          | (go_at_call 16; refine HC.out.mono ?_; rintro e w2 ⟨r, rfl, hr, hb2⟩; obtain ⟨ra, rc, rfl, -, -, -⟩ := id hr.2.2)
          | (at_builtin; refine wpList_append_any rfl _ _ 30 rfl W1.heap.size 3 i0 _ 1 8 Try.underlying30 hi hz0 hz1 hz2 rfl (by decide) (.slice oa ln oc) _ _ rfl (own_below HO.out hb2) ra (countT t).length rc ((countT t).map (Value.int .i64)) rfl (by rw [List.length_map, Nat.mul_one]) (ints_src hr) (HO1.out _) (by unfold maxLen; omega) (by omega) (by have := HB.out.size; have := hb2.size; omega) ?_; intro v3 w3 hown3 hgrow3))
        go_wp2
        go_roundw
        case rel =>
          refine ⟨i + 1, by omega, by simp, ?_, (HB.out.trans (hb2.mono HB.out.size)).grown hgrow3 (by have := HB.out.size; have := hb2.size; omega) fun g e => (ownObj HO.out g e).1⟩
          rw [HS.out, List.length_append, HL.out.2, List.map_append]
          exact hown3
        case measure => simp [intOf]; omega
      · obtain rfl : n = i := by omega
        have HB := Lib.hid hb
        have hln := hsi.1
        have HO := Lib.hid hown
        have HSI := Lib.hid hsi
        clear hb hown hr0 hsi kw hlt hile
        obtain ⟨L, hL⟩ : ∃ L, cntTo tk n = L := ⟨_, rfl⟩
        rw [hL] at HO hln HSM HSI ⊢
        have HLL := Lib.hid hL
        clear hL
        obtain ⟨ln, hl⟩ : ∃ ln, L.length = ln := ⟨_, rfl⟩
        rw [hl] at HO hln ⊢
        have HLN := Lib.hid hl
        clear hl
        go_wp2_with (at_builtin; go_loud (refine wpList_append_any rfl _ _ 30 rfl W1.heap.size 3 i0 _ 1 8 Try.underlying30 hi hz0 hz1 hz2 rfl (by decide) (.slice oa ln oc) _ _ rfl (HO.out.alloc _) (some ⟨wr.heap.size, 0, none⟩) 1 1 [.int .i64 tp] rfl rfl (.inr ⟨_, rfl, cells_add (cells_new _ _ _ rfl _ _)⟩) (by simp [Value.oneCell']) (by unfold maxLen; omega) (by omega) (by have := HB.out.size; simp; omega) ?_); intro v3 w3 hown3 hgrow3)
        go_ret
        refine ⟨v3, rfl, ?_, ?_⟩
        · rw [HLL.out]
          exact own_ints (B := W1.heap.size) (by rw [List.length_append, HLN.out, List.map_append]; exact hown3) (fun x hx => by have := HSM.out.2 x hx; omega) (by have := HSM.out.1; omega)
        exact HX.out.2.trans ((HB.out.trans (((Below.refl _ wr).alloc (Nat.le_refl _) _).mono HB.out.size)).grown hgrow3 (by have := HB.out.size; simp; omega) (fun g e => (ownObj HO.out g e).1) |>.mono HX.out.2.size)
theorem count_any (t : Tr) : CountT t := by
  have h : ∀ f : Fo, ∀ i, i < f.len → CountT (f.get i) := fun f => Fo.all (Q := fun f => ∀ i, i < f.len → CountT (f.get i)) (fun f ih i hi => count_of _ (ih i hi)) f
  exact count_of t (h t.kids)
theorem yields_any {G : Gram} {terms : List Int} (hr : rightG G = true) (hl : terms.length ≤ 100000) (t : Tr) : YieldsT G terms t := by
  have h : ∀ f : Fo, ∀ i, i < f.len → YieldsT G terms (f.get i) := fun f => Fo.all (Q := fun f => ∀ i, i < f.len → YieldsT G terms (f.get i)) (fun f ih i hi => yields_of hr hl _ (ih i hi)) f
  exact yields_of hr hl t (h t.kids)
end Go.Proofs.Ytpnihegmhalcfaa
