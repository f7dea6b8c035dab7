/-
  Package items: Closure, Goto.
-/
import Derived.Test.YtgmkpncpcikecaaItE
import Derived.Test.YtgmkpncpcikecaaRight
namespace Go.Proofs.Ytgmkpncpcikecaa
open Go.RowKit Go.MapKept Go.ChangeMaps
set_option maxHeartbeats 400000

def okI (G : Gram) (K : List It) : Bool := rightG G && K.all fun x => decide (InI G x)
def closE (G : Gram) (K : List It) : List It := if okI G K then cloL G K else []
def gotoE (G : Gram) (K : List It) (s : Int) : List It := if okI G K then onI G (cloL G K) s else []
theorem right_short {G : Gram} (h : rightG G = true) : G.prods.length ≤ 128 := (rightG_parts h).1.2.2.2.2.2

theorem ownDown {w : World} {B B' e size n : Nat} {v : Value} {xs : List Value} (h : w.ownsRow B e size v n xs) (hb : B' ≤ B) : w.ownsRow B' e size v n xs := by
  obtain ⟨h1, h2⟩ := h
  refine ⟨h1, ?_⟩
  rcases h2 with h2 | ⟨g, cap, cur, hv, hg, rest⟩
  · exact .inl h2
  · exact .inr ⟨g, cap, cur, hv, Nat.le_trans hb hg, rest⟩
theorem OwnI.down {w : World} {B B' : Nat} {v : Value} {l : List It} (h : OwnI w B v l) (hb : B' ≤ B) : OwnI w B' v l := ownDown h hb
set_option maxRecDepth 100000 in
set_option maxHeartbeats 4000000 in
theorem closureF_any (G : Gram) (v kv : Value) (K : List It) (w : World) (h : IsGram w v G) (hk : IsItems w kv K) (hm0 : G.prods.length ≤ 100000) (hl : K.length ≤ 100000) :
    Calls Try.prog 15 #[v, kv] w (NewI (closE G K) w) := by
  have hG := h
  obtain ⟨hterms, vs, vp, rfl, hs, hp⟩ := h
  have hO1 := alloc_obj w (Obj.cells #[.int .i64 G.terms, vs, vp] 25 (0, 0))
  have hB1 := (Below.refl _ w).alloc (Nat.le_refl _) (Obj.cells #[.int .i64 G.terms, vs, vp] 25 (0, 0))
  have HOV := Lib.hid (over_any G _ (w.alloc (Obj.cells #[.int .i64 G.terms, vs, vp] 25 (0, 0))) (hG.fr (Fr.alloc _ _)) hm0)
  have HRT := Lib.hid fun W (k : Below w.heap.size w W) => right_gram G _ W (hG.fr (Fr.new k))
  have HK := Lib.hid hk
  have HO := Lib.hid hO1
  have HB1 := Lib.hid hB1
  have HE := Lib.hid (show closE G K = if okI G K then cloL G K else [] from rfl)
  have HOK := Lib.hid (show okI G K = (rightG G && K.all fun x => decide (InI G x)) from rfl)
  obtain ⟨-, sa, sc, rfl, -, -, -⟩ := id hs
  obtain ⟨-, pa, pc, rfl, -, -, -⟩ := id hp
  clear hG hs hp hk hO1 hB1
  go_enter Try.func15, Try.ntmps15
  go_upto_region 2 with (go_at_call 17; refine HOV.out.mono ?_; rintro e w1 ⟨bp, mb, us, up, f, rfl, hbd, hgr, hbp, hb1⟩)
  have hB := HB1.out.trans (hb1.mono HB1.out.size)
  have hO := (Fr.new hb1).obj HO.out id
  have c0 := obj_cell hO 0 (v := .int .i64 G.terms) rfl
  have c1 := obj_cell hO 1 (v := .slice sa G.syms.length sc) rfl
  have c2 := obj_cell hO 2 (v := .slice pa G.prods.length pc) rfl
  have HRT1 := HRT.out w1 hB
  have HX := Lib.hid (And.intro hbd (And.intro hgr hB))
  clear hO hB hb1 hgr hbp HOV HO HB1 HRT
  cases hrt : rightG G with
  | false =>
    rw [hrt] at HRT1
    have HR2 := Lib.hid HRT1
    have hz : closE G K = [] := by rw [HE.out, HOK.out, hrt]; rfl
    have HZ := Lib.hid hz
    clear hz HRT1 hrt hbd
    go_wp2_with (go_at_call 12; refine HR2.out.mono ?_; rintro e w2 ⟨rfl, hb2⟩)
    go_ret
    exact ⟨_, rfl, by rw [HZ.out]; exact OwnI.nil _ _, HX.out.2.2.trans (hb2.mono HX.out.2.2.size)⟩
  | true =>
    rw [hrt] at HRT1
    have HR2 := Lib.hid HRT1
    have HIT := Lib.hid fun W (k : Below w1.heap.size w1 W) => itemsOk_any G W bp mb us up (hbd.fr (Fr.new k)) kv K (HK.out.fr (Fr.new (HX.out.2.2.trans (k.mono HX.out.2.2.size))))
    clear HRT1 hbd
    cases hin : K.all fun x => decide (InI G x) with
    | false =>
      rw [hin] at HIT
      have hz : closE G K = [] := by rw [HE.out, HOK.out, hrt, hin]; rfl
      have HZ := Lib.hid hz
      clear hz hrt hin
      go_wp2_with (first | (go_at_call 12; refine HR2.out.mono ?_; rintro e w2 ⟨rfl, hb2⟩; have HI2 := Lib.hid (HIT.out w2 hb2)) | (go_at_call 31; refine HI2.out.mono ?_; rintro e w3 ⟨rfl, hb3⟩))
      go_ret
      exact ⟨_, rfl, by rw [HZ.out]; exact OwnI.nil _ _, HX.out.2.2.trans ((hb2.trans (hb3.mono hb2.size)).mono HX.out.2.2.size)⟩
    | true =>
      rw [hin] at HIT
      have hz : closE G K = cloL G K := by rw [HE.out, HOK.out, hrt, hin]; rfl
      have HZ := Lib.hid hz
      have hIn : ∀ x ∈ K, InI G x := fun x hx => of_decide_eq_true (List.all_eq_true.1 hin x hx)
      have HCL := Lib.hid fun W (k : Below w1.heap.size w1 W) => closure_any G W bp mb us up f (w.alloc (Obj.cells #[.int .i64 G.terms, .slice sa G.syms.length sc, .slice pa G.prods.length pc] 25 (0, 0))).heap.size (HX.out.1.fr (Fr.new k)) (HX.out.2.1.fr (ch := nothing) (Fr.new k) fun _ _ => id) hm0 kv K (HK.out.fr (Fr.new (HX.out.2.2.trans (k.mono HX.out.2.2.size)))) hl hIn
      clear hz hrt hin hIn
      go_wp2_with (first | (go_at_call 12; refine HR2.out.mono ?_; rintro e w2 ⟨rfl, hb2⟩; have HI2 := Lib.hid (HIT.out w2 hb2)) | (go_at_call 31; refine HI2.out.mono ?_; rintro e w3 ⟨rfl, hb3⟩; have hb23 := hb2.trans (hb3.mono hb2.size); have HC3 := Lib.hid (HCL.out w3 hb23)) | (go_at_call 20; refine HC3.out.mono ?_; rintro e w4 ⟨u, rfl, hu, hb4⟩))
      go_ret
      have h3 := HX.out.2.2.trans (hb23.mono HX.out.2.2.size)
      exact ⟨u, rfl, by rw [HZ.out]; exact hu.down h3.size, h3.trans (hb4.mono h3.size)⟩
set_option maxRecDepth 100000 in
set_option maxHeartbeats 4000000 in
theorem gotoF_any (G : Gram) (v kv : Value) (K : List It) (w : World) (h : IsGram w v G) (hk : IsItems w kv K) (sy : Int) (hm0 : G.prods.length ≤ 100000) (hl : K.length ≤ 100000) :
    Calls Try.prog 14 #[v, kv, .int .i64 sy] w (NewI (gotoE G K sy) w) := by
  have hG := h
  obtain ⟨hterms, vs, vp, rfl, hs, hp⟩ := h
  have hO1 := alloc_obj w (Obj.cells #[.int .i64 G.terms, vs, vp] 25 (0, 0))
  have hB1 := (Below.refl _ w).alloc (Nat.le_refl _) (Obj.cells #[.int .i64 G.terms, vs, vp] 25 (0, 0))
  have HOV := Lib.hid (over_any G _ (w.alloc (Obj.cells #[.int .i64 G.terms, vs, vp] 25 (0, 0))) (hG.fr (Fr.alloc _ _)) hm0)
  have HRT := Lib.hid fun W (k : Below w.heap.size w W) => right_gram G _ W (hG.fr (Fr.new k))
  have HK := Lib.hid hk
  have HO := Lib.hid hO1
  have HB1 := Lib.hid hB1
  have HE := Lib.hid (show gotoE G K sy = if okI G K then onI G (cloL G K) sy else [] from rfl)
  have HOK := Lib.hid (show okI G K = (rightG G && K.all fun x => decide (InI G x)) from rfl)
  obtain ⟨-, sa, sc, rfl, -, -, -⟩ := id hs
  obtain ⟨-, pa, pc, rfl, -, -, -⟩ := id hp
  clear hG hs hp hk hO1 hB1
  go_enter Try.func14, Try.ntmps14
  go_upto_region 2 with (go_at_call 17; refine HOV.out.mono ?_; rintro e w1 ⟨bp, mb, us, up, f, rfl, hbd, hgr, hbp, hb1⟩)
  have hB := HB1.out.trans (hb1.mono HB1.out.size)
  have hO := (Fr.new hb1).obj HO.out id
  have c0 := obj_cell hO 0 (v := .int .i64 G.terms) rfl
  have c1 := obj_cell hO 1 (v := .slice sa G.syms.length sc) rfl
  have c2 := obj_cell hO 2 (v := .slice pa G.prods.length pc) rfl
  have HRT1 := HRT.out w1 hB
  have HX := Lib.hid (And.intro hbd (And.intro hgr hB))
  clear hO hB hb1 hgr hbp HOV HO HB1 HRT
  cases hrt : rightG G with
  | false =>
    rw [hrt] at HRT1
    have HR2 := Lib.hid HRT1
    have hz : gotoE G K sy = [] := by rw [HE.out, HOK.out, hrt]; rfl
    have HZ := Lib.hid hz
    clear hz HRT1 hrt hbd
    go_wp2_with (go_at_call 12; refine HR2.out.mono ?_; rintro e w2 ⟨rfl, hb2⟩)
    go_ret
    exact ⟨_, rfl, by rw [HZ.out]; exact OwnI.nil _ _, HX.out.2.2.trans (hb2.mono HX.out.2.2.size)⟩
  | true =>
    rw [hrt] at HRT1
    have HR2 := Lib.hid HRT1
    have HIT := Lib.hid fun W (k : Below w1.heap.size w1 W) => itemsOk_any G W bp mb us up (hbd.fr (Fr.new k)) kv K (HK.out.fr (Fr.new (HX.out.2.2.trans (k.mono HX.out.2.2.size))))
    clear HRT1 hbd
    cases hin : K.all fun x => decide (InI G x) with
    | false =>
      rw [hin] at HIT
      have hz : gotoE G K sy = [] := by rw [HE.out, HOK.out, hrt, hin]; rfl
      have HZ := Lib.hid hz
      clear hz hrt hin
      go_wp2_with (first | (go_at_call 12; refine HR2.out.mono ?_; rintro e w2 ⟨rfl, hb2⟩; have HI2 := Lib.hid (HIT.out w2 hb2)) | (go_at_call 31; refine HI2.out.mono ?_; rintro e w3 ⟨rfl, hb3⟩))
      go_ret
      exact ⟨_, rfl, by rw [HZ.out]; exact OwnI.nil _ _, HX.out.2.2.trans ((hb2.trans (hb3.mono hb2.size)).mono HX.out.2.2.size)⟩
    | true =>
      rw [hin] at HIT
      have hz : gotoE G K sy = onI G (cloL G K) sy := by rw [HE.out, HOK.out, hrt, hin]; rfl
      have HZ := Lib.hid hz
      have hIn : ∀ x ∈ K, InI G x := fun x hx => of_decide_eq_true (List.all_eq_true.1 hin x hx)
      have HCL := Lib.hid fun W (k : Below w1.heap.size w1 W) => closure_any G W bp mb us up f (w.alloc (Obj.cells #[.int .i64 G.terms, .slice sa G.syms.length sc, .slice pa G.prods.length pc] 25 (0, 0))).heap.size (HX.out.1.fr (Fr.new k)) (HX.out.2.1.fr (ch := nothing) (Fr.new k) fun _ _ => id) hm0 kv K (HK.out.fr (Fr.new (HX.out.2.2.trans (k.mono HX.out.2.2.size)))) hl hIn
      have hIn' := hIn
      clear hz hrt hin hIn
      have hcin : ∀ x ∈ cloL G K, InI G x := fun x hx => inClo_in hIn' (cloL_mem.1 hx)
      have hcln := cloL_len G K
      have HON := Lib.hid fun W (k : Below w1.heap.size w1 W) (u : Value) (hu : IsItems W u (cloL G K)) => on_any G W bp mb us up (HX.out.1.fr (Fr.new k)) u (cloL G K) hu (by omega) hcin
      have HSH := Lib.hid fun x (hx : x ∈ cloL G K) => inI_i64 hm0 HX.out.1.short (hcin x hx)
      clear hIn' hcin
      go_wp2_with (first | (go_at_call 12; refine HR2.out.mono ?_; rintro e w2 ⟨rfl, hb2⟩; have HI2 := Lib.hid (HIT.out w2 hb2)) | (go_at_call 31; refine HI2.out.mono ?_; rintro e w3 ⟨rfl, hb3⟩; have hb23 := hb2.trans (hb3.mono hb2.size); have HC3 := Lib.hid (HCL.out w3 hb23)) | (go_at_call 20; refine HC3.out.mono ?_; rintro e w4 ⟨u, rfl, hu, hb4⟩; have hb24 := hb23.trans (hb4.mono hb23.size); have HN4 := Lib.hid (HON.out w4 hb24 u (hu.items HSH.out (by omega)))) | (go_at_call 19; refine HN4.out.mono ?_; rintro e w5 ⟨mO, fO, rfl, hg5, -, hb5⟩; have hlk := hg5.map.look (P := Try.prog) (t := 65) (kt := 3) (et := 36) (k := .int .i64 sy) (by kernel_rfl) (by kernel_rfl) rfl (zItems w5) false; simp only [Bool.false_eq_true, if_false] at hlk))
      go_ret
      have h3 := HX.out.2.2.trans (hb24.mono HX.out.2.2.size)
      refine ⟨_, rfl, ?_, h3.trans (hb5.mono h3.size)⟩
      rw [HZ.out]
      exact ownDown (hg5.own sy) h3.size
end Go.Proofs.Ytgmkpncpcikecaa
