/-
  Chapter 06's statements: looked: what names stand for.
-/
import Derived.Test.YticdoccaabfjaaaSc21
namespace Go.Proofs.Yticdoccaabfjaaa
open Go.RowKit
set_option maxHeartbeats 400000

theorem ownTy_leaf_mk (w : World) (S : Nat → Prop) (k : Int) (hk : 0 ≤ k ∧ k < 256) : OwnTy w S (leaf k) (.agg #[.int .u8 k, .string ⟨#[]⟩, .slice none 0 0]) :=
  .mk (fun _ => undef) (fun _ _ => False) hk (by simp) (World.ownsRow_nil _ _ _ _) (fun g e => by cases e) (fun i hi => by simp at hi) (fun i j _ hj => by simp at hj) fun i hi => by simp at hi
def standS (σ : List (List Nm)) (s : ByteArray) : Ty := (findS σ s).getD (leaf 0)
theorem AnsT.own {w w' : World} {v : Value} {σ : List (List Nm)} {s : ByteArray} (h : AnsT w w' v (findS σ s)) : ∃ k n a l c b, v = .tuple #[.agg #[.int .u8 k, .string n, .slice a l c], .bool b] ∧ OwnTy w' (Rng w.heap.size w'.heap.size) (standS σ s) (.agg #[.int .u8 k, .string n, .slice a l c]) := by
  unfold standS
  cases ho : findS σ s with
  | none =>
    rw [ho] at h
    exact ⟨0, _, _, _, _, _, h, ownTy_leaf_mk _ _ 0 (by omega)⟩
  | some t =>
    rw [ho] at h
    obtain ⟨u, rfl, hu⟩ := h
    obtain ⟨k, n, a, l, c, rfl, _⟩ := hu.parts
    exact ⟨k, n, a, l, c, _, rfl, hu⟩
theorem Kids.next2 {w w' : World} {base : Nat} {el : List Ty} {v v' x : Value} {K : Nat} {rs : Nat → Value} {Ss : Nat → Nat → Prop} {lo hi : Nat} (h : Kids w base el v K rs Ss) (hK : K < el.length)
    (hlo : w.heap.size ≤ lo) (hb : base ≤ lo) (hlh' : lo ≤ hi) (hhi : hi ≤ w'.heap.size) (f : Fr (fun g => v.ownBlock = some g ∨ g < base) w w') (hv' : ∀ g, v'.ownBlock = some g → v.ownBlock = some g ∨ hi ≤ g)
    (hx : OwnTy w' (Rng lo hi) el[K] x) (own : w'.ownsRow base 37 3 v' (K + 1) (rowCells rs K ++ tyCells x)) :
    Kids w' base el v' (K + 1) (fun j => if j < K then rs j else x) (fun j => if j < K then Ss j else Rng lo hi) := by
  have hvl : ∀ g, v.ownBlock = some g → g < w.heap.size := fun g e => (h.own.lt g e).2
  have hlh : ∀ g, Rng lo hi g → lo ≤ g ∧ g < hi := fun g e => e
  refine ⟨fun j hj hjK => ?_, fun j hjK g hg => ?_, fun i j hij hjK g hi' hj' => ?_, ?_⟩
  · by_cases e : j < K
    · simp only [e, if_true]
      exact (h.ty j hj e).fr f fun g hg => ⟨fun e' => e'.elim (h.inr j e g hg).2.2 fun e' => by have := (h.inr j e g hg).1; omega, hg⟩
    · obtain rfl : j = K := by omega
      simp only [e, if_false]
      exact hx
  · by_cases e : j < K
    · simp only [e, if_true] at hg
      obtain ⟨h1, h2, h3⟩ := h.inr j e g hg
      refine ⟨h1, Nat.lt_of_lt_of_le h2 f.size, fun e' => ?_⟩
      rcases hv' g e' with h4 | h4
      · exact h3 h4
      · have := f.size
        omega
    · simp only [e, if_false] at hg
      obtain ⟨h1, h2⟩ := hlh g hg
      refine ⟨Nat.le_trans hb h1, Nat.lt_of_lt_of_le h2 hhi, fun e' => ?_⟩
      rcases hv' g e' with h4 | h4
      · have := hvl g h4
        omega
      · omega
  · have hi1 : i < K := by omega
    simp only [hi1, if_true] at hi'
    by_cases e : j < K
    · simp only [e, if_true] at hj'
      exact h.dis i j hij e g hi' hj'
    · simp only [e, if_false] at hj'
      have := (h.inr i hi1 g hi').2.1
      have := (hlh g hj').1
      omega
  · rw [rowCells_snoc (rs := rs) (x := x) (fun i hi => by simp [hi]) (by simp)]
    exact own
/-- A list of types, in blocks of S. -/
def TyRow (w : World) (S : Nat → Prop) (v : Value) (ts : List Ty) : Prop :=
  ∃ vs : Nat → Value, w.ownsRow 0 37 3 v ts.length (rowCells vs ts.length) ∧ (∀ g, v.ownBlock = some g → S g) ∧ ∀ i (h : i < ts.length), IsTy w S ts[i] (vs i)
theorem TyRow.keep {w w' : World} {S ch : Nat → Prop} {v : Value} {ts : List Ty} (h : TyRow w S v ts) (k : Fr ch w w') (hS : ∀ g, S g → ¬ ch g) : TyRow w' S v ts := by
  obtain ⟨vs, h1, h2, h3⟩ := h
  exact ⟨vs, own_fr h1 k fun g hg => hS g (h2 g hg), h2, fun i hi => (h3 i hi).keep k hS⟩

set_option maxRecDepth 100000 in
set_option maxHeartbeats 4000000 in
theorem looked_any {w : World} {F : Nat → Prop} {p : Nat} {σ : List (List Nm)} (h : Sc w F p σ) (hFb : ∀ g, F g → g < w.heap.size) (v : Value) (names : List ByteArray) (hn : Texts w v names) (hnF : names ≠ [] → ∀ b o, (∃ n c, v = .slice (some ⟨b, o, none⟩) n c) → ¬ F b) (hl : names.length ≤ 1000) :
    Calls Try.prog 17 #[.pointer (some ⟨p, 0, none⟩), v] w fun e w' => (∃ r, e = .returned r ∧ TyRow w' (Rng w.heap.size w'.heap.size) r (names.map (standS σ))) ∧ Sc w' F p σ ∧ Fr F w w' := by
  obtain ⟨i0, hi, hz0, hz1, hz2⟩ := info_parts Try.infoTy
  obtain ⟨a, cap, rfl, hcap, hcm, hx⟩ := hn
  have hcm' : cap ≤ 9223372036854775807 := hcm
  have hcl : ∀ k (hk : k < names.length), ∃ b o, a = some ⟨b, o, none⟩ ∧ ¬ F b ∧ w.cell? ⟨b, o + k, none⟩ = some (.string names[k]) := fun k hk => by
    rcases hx with rfl | ⟨b, o, e, hc⟩
    · simp at hk
    · exact ⟨b, o, e, hnF (by rintro rfl; simp at hk) b o ⟨_, _, by rw [e]⟩, by have := hc k (by simpa [strs] using hk); simpa [strs] using this⟩
  have HC := Lib.hid hcl
  have HFB := Lib.hid hFb
  have HH := Lib.hid h
  clear hcl hx hcm hFb hnF h
  obtain ⟨N, hN⟩ : ∃ N, N = names.length := ⟨_, rfl⟩
  rw [← hN] at hcap hl ⊢
  have HN := Lib.hid hN
  have HTL : Hid ((names.map (standS σ)).length = N) := Lib.hid (by rw [List.length_map, ← hN])
  clear hN
  go_enter Try.func17, Try.ntmps17
  go_wp2
  go_loopw [5, 6] (fun v i wr => ∃ (K : Nat) (rs : Nat → Value) (Ss : Nat → Nat → Prop), K ≤ N ∧ i = .int .i64 K ∧ Kids wr w.heap.size (names.map (standS σ)) v K rs Ss ∧ Sc wr F p σ ∧ Fr F w wr) (fun _ i _ => N - (intOf i).toNat)
  case atStart => exact ⟨0, _, _, Nat.zero_le _, rfl, Kids.nil _ _ _, HH.out, Fr.refl _ _⟩
  case round =>
    obtain ⟨K, rs, Ss, hK, rfl, hkids, hsc, hfr⟩ := hrel
    have hown := hkids.own
    have HKD := Lib.hid hkids
    have HFR := Lib.hid hfr
    clear hkids
    by_cases hlt : K < N
    · have hKn : K < names.length := by rw [← HN.out]; exact hlt
      obtain ⟨b, o, rfl, hbF, hcx⟩ := HC.out K hKn
      have hcx' := hfr.cell hcx hbF
      have hts : (names.map (standS σ))[K]'(by simpa using hKn) = standS σ names[K] := by simp
      generalize hs : names[K] = s at hcx' hts hcx
      have HL := Lib.hid (sLook hsc s)
      have HTS := Lib.hid hts
      have HKn := Lib.hid hKn
      clear hsc hfr hcx hs hts
      go_wp2_with (first | (go_at_call 8; refine HL.out.mono ?_; rintro e w1 ⟨⟨v', rfl, ha1⟩, hs1, hf1⟩; obtain ⟨k2, n2, a2, len2, cap2, b2, rfl, hty1⟩ := ha1.own; have hown1 := (own_fr hown hf1 fun g hg e => by have := (hown.lt g hg).1; have := HFB.out g e; omega).alloc (.cells #[.int .u8 k2, .string n2, .slice a2 len2 cap2] 37 (0, 0))) | (at_builtin; refine wpList_append_keep rfl _ _ 35 rfl w.heap.size 37 i0 _ 3 48 Try.underlying35 hi hz0 hz1 hz2 rfl (by decide) _ _ _ rfl (hown1.alloc _) ⟨w1.heap.size + 1, 0, none⟩ 1 1 [.int .u8 k2, .string n2, .slice a2 len2 cap2] rfl rfl (cells_add (cells_new' _ _ _ rfl _ _ _ (by simp))) (by simp [Value.oneCell']) (by decide) (by unfold maxLen; omega) (by omega) (by have := hf1.size; have := HFR.out.size; simp at this ⊢; omega) ?_; intro v' w2 hown2 hold2 hgrow2 hsame2))
      have hs1' := hf1.size
      have hs2 := hgrow2.size
      simp only [World.size_alloc] at hs2
      have hnew : Fr nothing w1 ((w1.alloc (.cells #[.int .u8 k2, .string n2, .slice a2 len2 cap2] 37 (0, 0))).alloc (.cells #[.int .u8 k2, .string n2, .slice a2 len2 cap2] 37 (0, 0))) := (Fr.alloc _ _).trans (Fr.alloc _ _)
      have hf12 : Fr (fun g => u5.ownBlock = some g) w1 w2 := hnew.wide.trans hgrow2
      have hfw : Fr (fun g => u5.ownBlock = some g ∨ g < w.heap.size) wr w2 := (hf1.mono fun g _ hg => .inr (HFB.out g hg)).trans (hf12.mono fun g _ hg => .inl hg)
      have hfF : Fr F w w2 := by
        have h1 : Fr F w w1 := HFR.out.trans hf1
        exact ⟨hf12.os.trans h1.os, hf12.tape.trans h1.tape, hf12.output.trans h1.output, Nat.le_trans h1.size hf12.size, fun g hg hn => (hf12.block g (Nat.lt_of_lt_of_le hg h1.size) fun e => by have := (hown.lt g e).1; omega).trans (h1.block g hg hn)⟩
      have hsc2 : Sc w2 F p σ := hs1.fr hf12 fun g hg => ⟨fun e => by have := (hown.lt g e).1; have := HFB.out g hg; omega, hg⟩
      have hv2 : ∀ g, v'.ownBlock = some g → u5.ownBlock = some g ∨ w1.heap.size ≤ g := by
        intro g hg
        rcases hsame2 with ⟨g', c', e1, e2⟩ | h
        · have e1' : u5 = _ := e1
          rw [e2] at hg
          rw [e1']
          exact .inl hg
        · have := h g hg; simp at this; exact .inr (by omega)
      have hnx := HKD.out.next2 (lo := wr.heap.size) (hi := w1.heap.size) (v' := v') (x := .agg #[.int .u8 k2, .string n2, .slice a2 len2 cap2]) (by rw [HTL.out]; exact hlt) (Nat.le_refl _) HFR.out.size hs1' (by omega) hfw hv2
        (by rw [HTS.out]; exact hty1.fr hf12 fun g hg => ⟨fun e => by have := (hown.lt g e).2; have := hg.1; omega, hg⟩) hown2
      have HNX := Lib.hid hnx
      have HS2 := Lib.hid hsc2
      have HF2 := Lib.hid hfF
      clear hnx hsc2 hfF hv2 hfw hf12 hnew hs1 hf1 ha1 hty1 hown1 hown2 hold2 hgrow2 hsame2
      go_roundw
      case rel => exact ⟨K + 1, _, _, by omega, by simp, HNX.out, HS2.out, HF2.out⟩
      case measure => simp [intOf]; omega
    · obtain rfl : K = N := by omega
      clear hlt
      go_wp2
      go_ret
      have hkd := HKD.out
      obtain ⟨a', c', hv, _⟩ := own_cells hkd.own
      refine ⟨⟨_, rfl, rs, ?_, fun g hg => ⟨(hkd.own.lt g hg).1, (hkd.own.lt g hg).2⟩, fun i hi => ?_⟩, hsc, hfr⟩
      · rw [HTL.out]
        exact own_base hkd.own (Nat.zero_le _)
      · exact ((hkd.ty i hi (by rw [← HTL.out]; exact hi)).wide fun g hg => ⟨(hkd.inr i (by rw [← HTL.out]; exact hi) g hg).1, (hkd.inr i (by rw [← HTL.out]; exact hi) g hg).2.1⟩).is
end Go.Proofs.Yticdoccaabfjaaa
