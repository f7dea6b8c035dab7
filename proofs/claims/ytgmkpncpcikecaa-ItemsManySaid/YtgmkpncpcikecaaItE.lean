/-
  Package items: what a closure goes on to.
-/
import Derived.Test.YtgmkpncpcikecaaItH
namespace Go.Proofs.Ytgmkpncpcikecaa
open Go.RowKit Go.MapKept Go.ChangeMaps
set_option maxHeartbeats 400000

theorem zItems (w : World) : (zeroValue 36).run Try.prog w = .ok (.slice none 0 0) w := by kernel_rfl
def onL (G : Gram) (L : List It) (s : Int) : Nat × List Value := ((onI G L s).length, (onI G L s).flatMap encI)
theorem onI_snoc (G : Gram) (L : List It) (x : It) (s : Int) : onI G (L ++ [x]) s = if behI G x = some s then onI G L s ++ [(x.1, x.2 + 1)] else onI G L s := by
  unfold onI
  rw [List.filter_append, List.map_append, List.filter_cons]
  simp only [decide_eq_true_eq, List.filter_nil]
  split
  · rfl
  · simp
theorem onL_none {G : Gram} {L : List It} {x : It} (h : behI G x = none) : onL G (L ++ [x]) = onL G L := by
  funext s
  unfold onL
  rw [onI_snoc, if_neg (by rw [h]; simp)]
theorem onL_some {G : Gram} {L : List It} {x : It} {t : Int} (h : behI G x = some t) : onL G (L ++ [x]) = updL (onL G L) t ((onL G L t).1 + 1, (onL G L t).2 ++ [.int .i64 x.1, .int .i64 (x.2 + 1)]) := by
  funext s
  unfold onL updL
  rw [onI_snoc, h]
  by_cases e : s = t
  · subst e
    simp [encI]
  · rw [if_neg (fun h => e (Option.some.inj h).symm), if_neg e]
theorem onI_len (G : Gram) (L : List It) (s : Int) : (onI G L s).length ≤ L.length := by
  unfold onI
  rw [List.length_map]
  exact List.length_filter_le _ _
theorem own_not_map {w : World} {B e size n b : Nat} {v : Value} {xs : List Value} {d : TypeDesc} {f : Value → Option Value} (h : w.ownsRow B e size v n xs) (hm : MapIs w d b f) : ¬ v.ownBlock = some b := fun hv => by
  obtain ⟨_, cs, hc⟩ := ownObj h b hv
  obtain ⟨es, c, hes⟩ := hm.obj
  rw [hc] at hes
  cases hes
theorem beh_i64 {G : Gram} {w : World} {bp mb : Nat} {vs vp : Value} (h : IsBld w bp mb vs vp G) {x : It} (hx : InI G x) {s : Int} (hb : behI G x = some s) : i64 s := by
  obtain ⟨h0, h1, h2, h3⟩ := hx
  have hlt : x.1.toNat < G.prods.length := by omega
  have he := rightOf_at G hlt
  rw [show ((x.1.toNat : Nat) : Int) = x.1 by omega] at he
  obtain ⟨_, p, e, _, hp⟩ := h.gram
  have hP := h.prods
  obtain ⟨-, pa, pc, rfl, -, -, -⟩ := id hP
  obtain ⟨pg, po, ra, rc, rfl, hprd, hcs⟩ := hP.get x.1.toNat hlt
  obtain ⟨_, r, hr, hv⟩ := hprd
  unfold behI at hb
  rw [he] at hb
  exact hr.1 s (List.mem_of_getElem? hb)
/-- What on answers. -/
def OnP (G : Gram) (L : List It) (w : World) (e : Ending) (w' : World) : Prop := ∃ mO f, e = .returned (.map (some mO)) ∧ GrpM w' w.heap.size 41 2 mO f (onL G L) ∧ Sized w' mO L.length ∧ Below w.heap.size w w'

set_option maxRecDepth 100000 in
set_option maxHeartbeats 4000000 in
theorem on_any (G : Gram) (w : World) (bp mb : Nat) (vs vp : Value) (h : IsBld w bp mb vs vp G) (v : Value) (l : List It) (hv : IsItems w v l) (hl : l.length ≤ 300000) (hin : ∀ x ∈ l, InI G x) :
    Calls Try.prog 19 #[.pointer (some ⟨bp, 0, none⟩), v] w (OnP G l w) := by
  have hmm := @run_makeMap Try.prog
  obtain ⟨i0, hi, hz0, hz1, hz2⟩ := info_parts Try.infoItem
  have HBH := Lib.hid (fun W (k : Below w.heap.size w W) (x : It) (hx : InI G x) => behind_any G W bp mb vs vp (h.fr (Fr.new k)) x hx)
  have HSH := Lib.hid fun x (hx : InI G x) => (show x.2 ≤ 17592186044416 from by
    obtain ⟨h0, h1, h2, h3⟩ := hx
    have hlt : x.1.toNat < G.prods.length := by omega
    have he := rightOf_at G hlt
    rw [show ((x.1.toNat : Nat) : Int) = x.1 by omega] at he
    rw [he] at h3
    have := h.short _ (List.getElem_mem hlt)
    omega)
  have HSI := Lib.hid fun x (hx : InI G x) s (e : behI G x = some s) => beh_i64 h hx e
  have HIN := Lib.hid hin
  have HV := Lib.hid hv
  obtain ⟨va, vc, rfl, -, -, -⟩ := hv.parts
  clear h hin hv
  generalize hn : l.length = n at *
  have HN := Lib.hid hn
  clear hn
  go_enter Try.func19, Try.ntmps19
  go_upto_region 2 with fail
  have hg0 := GrpM.new w (B := w.heap.size) (Nat.le_refl _) 41 2
  have hS0 := Sized.new w
  have hb0 := (Below.refl w.heap.size w).alloc (Nat.le_refl _) (Obj.map #[] 0)
  generalize w.alloc (Obj.map #[] 0) = W1 at *
  have H1 := Lib.hid (And.intro hg0 (And.intro hS0 hb0))
  clear hg0 hS0 hb0 hmm
  go_wp2
  go_loopw [13] (fun i wr => ∃ (k : Nat) (f : Value → Option Value), k ≤ n ∧ i = .int .i64 k ∧ GrpM wr w.heap.size 41 2 w.heap.size f (onL G (l.take k)) ∧ Sized wr w.heap.size k ∧ Below w.heap.size w wr) (fun i _ => n - (intOf i).toNat)
  case atStart => exact ⟨0, _, Nat.zero_le _, rfl, H1.out.1, H1.out.2.1, H1.out.2.2⟩
  case round =>
    obtain ⟨k, f, hk, rfl, hg, hZ, hB⟩ := hrel
    by_cases hlt : k < n
    · have hkl : k < l.length := by rw [HN.out]; exact hlt
      have hxi := HIN.out _ (List.getElem_mem hkl)
      obtain ⟨b', o, rfl, c0, c1, i1, i2⟩ := (HV.out.fr (Fr.new hB)).at hkl
      have htk := take_snocI hkl
      have hbh := HBH.out (wr.alloc (Obj.cells #[.int .i64 l[k].1, .int .i64 l[k].2] 41 (0, 0))) (hB.alloc hB.size _) l[k] hxi
      have hsh := HSH.out _ hxi
      have hx2 := hxi.2.2.1
      unfold itVal at hbh
      have hga := hg.fr (ch := nothing) (Fr.alloc wr (Obj.cells #[.int .i64 l[k].1, .int .i64 l[k].2] 41 (0, 0))) fun _ _ => id
      have hZa := hZ.fr (ch := nothing) (Fr.alloc wr (Obj.cells #[.int .i64 l[k].1, .int .i64 l[k].2] 41 (0, 0))) id
      have hob := alloc_obj wr (Obj.cells #[.int .i64 l[k].1, .int .i64 l[k].2] 41 (0, 0))
      have hBa := hB.alloc hB.size (Obj.cells #[.int .i64 l[k].1, .int .i64 l[k].2] 41 (0, 0))
      have HBC := Lib.hid hbh
      have HG := Lib.hid (And.intro hga (And.intro hob hBa))
      have HZ := Lib.hid hZa
      have hwr := hB.size
      clear hg hZ hZa hB hbh hga hob hBa
      cases hbe : behI G l[k] with
      | none =>
        rw [hbe] at HBC
        unfold behT at HBC
        have hnx := onL_none (L := l.take k) hbe
        rw [← htk] at hnx
        have HNX := Lib.hid hnx
        clear hnx htk hbe hxi
        generalize l[k] = x at *
        obtain ⟨xp, xd⟩ := x
        simp only at c0 c1 HBC HG HZ
        go_wp2_with (go_at_call 33; refine HBC.out.mono ?_; rintro e w3 ⟨rfl, hb3⟩)
        go_roundw
        case rel => exact ⟨k + 1, f, by omega, by simp, by rw [HNX.out]; exact HG.out.1.fr (ch := nothing) (Fr.new hb3) fun _ _ => id, (HZ.out.fr (Fr.new hb3) id).mono (by omega), HG.out.2.2.trans (hb3.mono (by have := HG.out.2.2.size; exact this))⟩
        case measure => simp [intOf]; omega
      | some s =>
        rw [hbe] at HBC
        unfold behT at HBC
        have hnx := onL_some (L := l.take k) hbe
        rw [← htk] at hnx
        have HNX := Lib.hid hnx
        have hln : (onL G (l.take k) s).1 ≤ 300000 := by
          have h1 := onI_len G (l.take k) s
          have h2 := List.length_take_le k l
          show (onI G (l.take k) s).length ≤ _
          omega
        have HSX := Lib.hid (HSI.out _ hxi s hbe)
        clear hnx htk hbe hxi
        generalize l[k] = x at *
        obtain ⟨xp, xd⟩ := x
        simp only at c0 c1 HBC HG HZ HNX hsh hx2 i1 i2
        generalize hvo : (f (.int .i64 s)).getD (.slice none 0 0) = vold
        have HVO := Lib.hid hvo
        clear hvo
        have hw1 : IntKind.i64.wrap (xd + 1) = xd + 1 := IntWalk.i64_in _ (by omega)
        go_upto_region 7 with (go_at_call 33; refine HBC.out.mono ?_; rintro e w3 ⟨rfl, hb3⟩)
        have hg3 := HG.out.1.fr (ch := nothing) (Fr.new hb3) fun _ _ => id
        have hZ3 := HZ.out.fr (Fr.new hb3) id
        have ho3 := (Fr.new hb3).obj HG.out.2.1 id
        have hB3 : Below w.heap.size w w3 := HG.out.2.2.trans (hb3.mono (by have := HG.out.2.2.size; exact this))
        have d0 := obj_cell ho3 0 (v := .int .i64 xp) rfl
        have d1 := obj_cell ho3 1 (v := .int .i64 xd) rfl
        have hlk := hg3.map.look (P := Try.prog) (t := 65) (kt := 3) (et := 36) (k := .int .i64 s) (by kernel_rfl) (by kernel_rfl) rfl (zItems w3) false
        simp only [Bool.false_eq_true, if_false, HVO.out] at hlk
        have hga := hg3.fr (ch := nothing) (Fr.alloc w3 (Obj.cells #[.int .i64 xp, .int .i64 (xd + 1)] 41 (0, 0))) fun _ _ => id
        have hZa := hZ3.fr (ch := nothing) (Fr.alloc w3 (Obj.cells #[.int .i64 xp, .int .i64 (xd + 1)] 41 (0, 0))) id
        have hoa := hga.own s
        rw [HVO.out] at hoa
        have hna := two_news (alloc_obj w3 (Obj.cells #[.int .i64 xp, .int .i64 (xd + 1)] 41 (0, 0)))
        have hBa := hB3.alloc hB3.size (Obj.cells #[.int .i64 xp, .int .i64 (xd + 1)] 41 (0, 0))
        have hz3 := hB3.size
        have HA := Lib.hid (And.intro hga (And.intro hoa (And.intro hna hBa)))
        have HZA := Lib.hid hZa
        clear hga hZa hZ3 hoa hna hBa hg3 ho3 hB3 hb3 c0 c1
        go_wp2_with (first | (at_builtin; refine wpList_append_lies _ rfl _ _ 36 rfl w.heap.size 41 i0 _ 2 16 Try.underlying36 hi hz0 hz1 hz2 rfl (by decide) vold _ _ rfl HA.out.2.1 ⟨w3.heap.size, 0, none⟩ 1 1 [.int .i64 xp, .int .i64 (xd + 1)] rfl rfl HA.out.2.2.1 (by simp [Value.oneCell']) (by omega) (by unfold maxLen; omega) (by omega) (by simp; omega) _ rfl ?_; intro g cap w4 hown4 hgrow4 hat4 hlt4; have hm4 := HA.out.1.map.fr (Fr.grown hgrow4) (own_not_map HA.out.2.1 HA.out.1.map); have hZ4 := HZA.out.fr (Fr.grown hgrow4) (own_not_map HA.out.2.1 HA.out.1.map)) | (refine wpList_store_both _ rfl _ _ _ 65 rfl 36 (by kernel_rfl) w.heap.size k f (updF f s (.slice (some ⟨g, 0, none⟩) ((onL G (l.take k) s).1 + 1) cap)) rfl hm4 hZ4 (by unfold maxLen; omega) s HSX.out _ rfl rfl (updF_same _ _ _) (updF_key _ _ _) ?_; intro w5 hm5 hZ5 hf5))
        go_roundw
        case rel =>
          obtain ⟨hga, hoa, -, hBa⟩ := HA.out
          have hob := ownObj hoa
          have hgrow4' := hgrow4
          rw [← HVO.out] at hgrow4 hat4
          have hadd := hga.add (Nat.succ_pos _) hown4 hgrow4 (hat4.imp id fun e => by omega) hm5 hf5
          have hB4 : Below w.heap.size w w4 := hBa.grown hgrow4' hBa.size fun g e => (hob g e).1
          exact ⟨k + 1, _, by omega, by simp, by rw [HNX.out]; exact hadd, hZ5, hB4.trans (hf5.below hB4.size fun g e => by rw [show g = w.heap.size from e]; exact Nat.le_refl _)⟩
        case measure => simp [intOf]; omega
    · obtain rfl : k = n := by omega
      rw [List.take_of_length_le (by rw [HN.out]; exact Nat.le_refl _)] at hg
      have HG := Lib.hid (And.intro hg (And.intro hZ hB))
      clear hg hZ hB hlt
      go_wp2
      go_ret
      exact ⟨_, f, rfl, HG.out.1, by rw [HN.out]; exact HG.out.2.1, HG.out.2.2⟩
end Go.Proofs.Ytgmkpncpcikecaa
