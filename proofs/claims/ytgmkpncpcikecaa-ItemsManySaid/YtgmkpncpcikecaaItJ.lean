/-
  Package items: put.
-/
import Derived.Test.YtgmkpncpcikecaaItI
namespace Go.Proofs.Ytgmkpncpcikecaa
open Go.RowKit Go.MapKept Go.ChangeMaps
set_option maxHeartbeats 400000

theorem setCell_obj {w : World} {b i : Nat} {cs : Array Value} {t : TypeId} {f : Nat × Nat} (h : w.heap[b]? = some (.cells cs t f)) (v : Value) : (w.setCell ⟨b, i, none⟩ v).heap[b]? = some (.cells (cs.setIfInBounds i v) t f) := by
  obtain ⟨hb, he⟩ := Array.getElem?_eq_some_iff.1 h
  simp [World.setCell, hb, Array.getElem_modify, he]
theorem zInt (w : World) : (zeroValue 3).run Try.prog w = .ok (.int .i64 0) w := by kernel_rfl
def fullV : Value := .iface 56 (.agg #[])
theorem smallI_i64 {x : It} (h : smallI x) : i64 x.1 ∧ i64 x.2 := by
  obtain ⟨h1, h2⟩ := h
  have h1 := (small_iff _).1 h1
  have h2 := (small_iff _).1 h2
  unfold i64
  omega
/-- What put answers. -/
def PutP (K : List It) (sb am : Nat) (lv : Value) (B : Nat) (ks : List (List It)) (es : List (List (Int × Int))) (w : World) (e : Ending) (w' : World) : Prop :=
  Fr (putCh sb am lv) w w' ∧ match putK ks K with
  | some (j, ks') => e = .returned (.int .i64 (j : Int)) ∧ ∃ lv' vs', StsM w' B sb am lv' vs' ks' (if ks'.length = ks.length then es else es ++ [[]])
  | none => e = .panicked [{ v := fullV, recovered := false }]
theorem atK_str (ks : List (List It)) (s : ByteArray) : atK ks (.string s) = (idxK ks s).map fun j : Nat => .int .i64 (j : Int) := by
  unfold atK
  rfl

set_option maxRecDepth 100000 in
set_option maxHeartbeats 4000000 in
theorem put_any (K : List It) (kv : Value) (w : World) (B sb am : Nat) (lv : Value) (vs : List (Value × Value)) (ks : List (List It)) (es : List (List (Int × Int))) (h : StsM w B sb am lv vs ks es) (hK : ∀ x ∈ K, smallI x) (hkv : OwnI w B kv K) (hl : K.length ≤ 100000) (hks : ks.length ≤ 256) :
    Calls Try.prog 18 #[.pointer (some ⟨sb, 0, none⟩), kv] w (PutP K sb am lv B ks es w) := by
  obtain ⟨i0, hi, hz0, hz1, hz2⟩ := info_parts Try.infoState
  have HKC := Lib.hid (keyI_any K kv w (hkv.items (fun x hx => smallI_i64 (hK x hx)) (by omega)) hl hK)
  have hix := idxK_is h.small hK
  have HKV := Lib.hid hkv
  obtain ⟨ka, kc, rfl, -, -, -⟩ := own_as_cells2 hkv
  obtain ⟨la, lc, rfl, -, -, -⟩ := own_as_cells2 h.own
  have HS := Lib.hid h
  have HK := Lib.hid hK
  have hlk := h.lk
  clear h hK hkv
  generalize hkn : K.length = kn at *
  have HKN := Lib.hid hkn
  clear hkn
  cases hf : (ks.findIdx? fun x => decide (x = K)) with
  | some j =>
    rw [hf] at hix
    have hp : putK ks K = some (j, ks) := by unfold putK; rw [hf]
    have HP := Lib.hid hp
    clear hp hf
    generalize hkk : keyK K = kk at *
    clear hkk
    have HIX := Lib.hid hix
    clear hix
    go_enter Try.func18, Try.ntmps18
    go_wp2_with (go_at_call 32; refine HKC.out.mono ?_; rintro e w1 ⟨rfl, hb1⟩; have hs1 := HS.out.fr (Fr.new hb1); have c0 := obj_cell hs1.obj 0 (v := .slice la vs.length lc) rfl; have c1 := obj_cell hs1.obj 1 (v := .map (some am)) rfl; have hlk1 := hs1.map.look (P := Try.prog) (t := 61) (kt := 9) (et := 3) (k := .string kk) (by kernel_rfl) (by kernel_rfl) trivial (zInt w1) true; simp only [if_true, atK_str, HIX.out, Option.map_some, Option.getD_some, Option.isSome_some] at hlk1; have HS1 := Lib.hid (And.intro hs1 hb1); clear hs1 hb1)
    go_ret
    unfold PutP
    rw [HP.out]
    exact ⟨(Fr.new HS1.out.2).wide, rfl, _, _, by rw [if_pos rfl]; exact HS1.out.1⟩
  | none =>
    rw [hf] at hix
    by_cases hfull : ks.length = 256
    · have hp : putK ks K = none := by unfold putK; rw [hf]; simp [hfull]
      have HP := Lib.hid hp
      have hvl : vs.length = 256 := by omega
      clear hp hf
      generalize hkk : keyK K = kk at *
      clear hkk
      have HIX := Lib.hid hix
      clear hix
      rw [hvl] at HS hlk
      go_enter Try.func18, Try.ntmps18
      go_wp2_with (go_at_call 32; refine HKC.out.mono ?_; rintro e w1 ⟨rfl, hb1⟩; have hs1 := HS.out.fr (Fr.new hb1); have c0 := obj_cell hs1.obj 0 (v := .slice la 256 lc) rfl; have c1 := obj_cell hs1.obj 1 (v := .map (some am)) rfl; have hlk1 := hs1.map.look (P := Try.prog) (t := 61) (kt := 9) (et := 3) (k := .string kk) (by kernel_rfl) (by kernel_rfl) trivial (zInt w1) true; simp only [if_true, atK_str, HIX.out, Option.map_none, Option.getD_none, Option.isSome_none] at hlk1; have HS1 := Lib.hid (And.intro hs1 hb1); clear hs1 hb1)
      unfold PutP
      rw [HP.out]
      exact ⟨rfl, (Fr.new HS1.out.2).wide, rfl⟩
    · have hp : putK ks K = some (ks.length, ks ++ [K]) := by unfold putK; rw [hf]; simp [hfull]
      have HP := Lib.hid hp
      have hvl : vs.length < 256 := by omega
      have hne : ((vs.length : Int) == 256) = false := beq_eq_false_iff_ne.2 (by omega)
      clear hp hf hfull
      have hsn := idxK_snoc ks K
      rw [hlk] at hsn
      generalize hkk : keyK K = kk at *
      have HIX := Lib.hid hix
      have hin : atK (ks ++ [K]) (.string kk) = some (.int .i64 (vs.length : Int)) := by rw [atK_str, hsn, hix]; simp
      have hout : ∀ k', IsKey .string k' → k' ≠ .string kk → atK (ks ++ [K]) k' = atK ks k' := fun k' hk' hne => by
        cases k' with
        | string s =>
          have : kk ≠ s := fun e => hne (by rw [e])
          rw [atK_str, atK_str, hsn, if_neg this]
          cases idxK ks s <;> rfl
        | _ => cases hk'
      have HIO := Lib.hid (And.intro hin hout)
      clear hix hsn hkk hin hout
      obtain ⟨n, hn⟩ : ∃ n, vs.length = n := ⟨_, rfl⟩
      rw [hn] at hvl hne hlk HIO HS ⊢
      have HN := Lib.hid hn
      clear hn
      go_enter Try.func18, Try.ntmps18
      go_upto_region 7 with (go_at_call 32; refine HKC.out.mono ?_; rintro e w1 ⟨rfl, hb1⟩; have hs1 := HS.out.fr (Fr.new hb1); have c0 := obj_cell hs1.obj 0 (v := .slice la n lc) rfl; have c1 := obj_cell hs1.obj 1 (v := .map (some am)) rfl; have hlk1 := hs1.map.look (P := Try.prog) (t := 61) (kt := 9) (et := 3) (k := .string kk) (by kernel_rfl) (by kernel_rfl) trivial (zInt w1) true; simp only [if_true, atK_str, HIX.out, Option.map_none, Option.getD_none, Option.isSome_none] at hlk1; have HS1 := Lib.hid (And.intro hs1 hb1); clear hs1 hb1)
      have hne1 : ¬ am = sb := fun e => by
        obtain ⟨es', c', hm⟩ := HS1.out.1.map.obj
        rw [e, HS1.out.1.obj] at hm
        cases hm
      have hla : ¬ (Value.slice la n lc).ownBlock = some am := own_not_map HS1.out.1.own HS1.out.1.map
      have hlb : ¬ (Value.slice la n lc).ownBlock = some sb := fun e => by
        obtain ⟨_, cs, hc⟩ := ownObj HS1.out.1.own sb e
        rw [HS1.out.1.obj] at hc
        simp only [Option.some.injEq, Obj.cells.injEq] at hc
        exact absurd hc.2.1 (by decide)
      have HNE := Lib.hid (And.intro hne1 (And.intro hla hlb))
      have hsz : w.heap.size ≤ w1.heap.size := HS1.out.2.size
      clear hne1 hla hlb
      have hown1 := HS1.out.1.own
      rw [HN.out] at hown1
      have HO1 := Lib.hid hown1
      have HM1 := Lib.hid HS1.out.1.map
      have HB1 := Lib.hid HS1.out.1.hsb
      have hlt1 := (Array.getElem?_eq_some_iff.1 HS1.out.1.obj).1
      clear hown1
      go_wp2_with (first
        | (refine wpList_store_map _ rfl _ _ _ 61 rfl 9 3 .string (by kernel_rfl) (by kernel_rfl) am (atK ks) (atK (ks ++ [K])) rfl HM1.out (.string kk) _ rfl rfl trivial HIO.out.1 HIO.out.2 ?_; intro w2 hm2 hf2; have ho2 := hf2.obj HS1.out.1.obj (fun e => HNE.out.1 e.symm); have d0 := obj_cell ho2 0 (v := .slice la n lc) rfl; have hw2 := own_fr HO1.out hf2 (fun g hg e => HNE.out.2.1 (by rw [hg]; exact congrArg some e)); have hwa := hw2.alloc (Obj.cells #[.slice ka kn kc, .slice none 0 0] 39 (0, 0)); have hna := two_news (alloc_obj w2 (Obj.cells #[.slice ka kn kc, .slice none 0 0] 39 (0, 0))); have hzz := hf2.size)
        | (at_builtin; refine wpList_append_lies _ rfl _ _ 27 rfl B 39 i0 _ 2 48 Try.underlying27 hi hz0 hz1 hz2 rfl (by decide) (.slice la n lc) _ _ rfl hwa ⟨w2.heap.size, 0, none⟩ 1 1 [.slice ka kn kc, .slice none 0 0] rfl rfl hna (by simp [Value.oneCell']) (by omega) (by unfold maxLen; omega) (by omega) (by have := HB1.out; simp; omega) _ rfl ?_; intro g cap w4 hown4 hgrow4 hat4 hlt4; have hf4 : Fr (fun k => (Value.slice la n lc).ownBlock = some k) w2 w4 := (Fr.alloc _ _).trans (Fr.grown hgrow4); have ho4 := hf4.obj ho2 HNE.out.2.2; have d4 := obj_cell ho4 0 (v := .slice la n lc) rfl; have z4 : w4.frozen? ⟨sb, 0, none⟩ = false := by simp [World.frozen?, ho4]))
      go_ret
      have hsc := Fr.setCell w4 ⟨sb, 0, none⟩ (.slice (some ⟨g, 0, none⟩) (n + 1) cap)
      have hf5 : Fr (putCh sb am (.slice la n lc)) w1 (w4.setCell ⟨sb, 0, none⟩ (.slice (some ⟨g, 0, none⟩) (n + 1) cap)) :=
        (hf2.mono fun k _ e => .inr (.inl e)).trans ((hf4.mono fun k _ e => .inr (.inr e)).trans (Fr.setCell' ⟨sb, 0, none⟩ _ (.inl rfl)))
      have hm4 := (hm2.fr hf4 HNE.out.2.1).fr hsc (fun e => HNE.out.1 e)
      have hw5 := own_fr hown4 hsc fun g' hg' e => by
        have e' : g' = sb := e
        subst e'
        obtain ⟨_, cs, hc⟩ := ownObj hown4 g' hg'
        rw [ho4] at hc
        simp only [Option.some.injEq, Obj.cells.injEq] at hc
        exact absurd hc.2.1 (by decide)
      unfold PutP
      rw [HP.out]
      refine ⟨(Fr.new HS1.out.2).wide.trans hf5, by rw [hlk]; rfl, .slice (some ⟨g, 0, none⟩) (n + 1) cap, vs ++ [(.slice ka kn kc, .slice none 0 0)], ?_⟩
      rw [if_neg (by simp)]
      have hkv1 := own_below HKV.out HS1.out.2
      refine HS1.out.1.snoc hf5 (setCell_obj ho4 _) ?_ hm4 HK.out hkv1
      rw [HN.out]
      exact hw5
end Go.Proofs.Ytgmkpncpcikecaa
