/-
  Package items: are all of these items?
-/
import Derived.Test.YtgmkpncpcikecaaIt4
namespace Go.Proofs.Ytgmkpncpcikecaa
open Go.RowKit
set_option maxHeartbeats 400000

instance (G : Gram) (x : It) : Decidable (InI G x) := by unfold InI; infer_instance
theorem rightOf_at (G : Gram) {p : Nat} (h : p < G.prods.length) : rightOf G (p : Int) = G.prods[p].right := by
  unfold rightOf
  rw [Int.toNat_natCast, List.getElem?_eq_getElem h]
  rfl
def boxBld (bp : Nat) : Obj := .cells #[.pointer (some ⟨bp, 0, none⟩)] 58 (0, 0)

set_option maxRecDepth 100000 in
set_option maxHeartbeats 2000000 in
theorem inOne_any (G : Gram) (w : World) (bp mb s : Nat) (vs vp : Value) (h : IsBld w bp mb vs vp G) (hs : w.heap[s]? = some (boxBld bp)) (x : It) (hx : i64 x.1 ∧ i64 x.2) :
    Calls Try.prog 48 #[itVal x, .pointer (some ⟨s, 0, none⟩)] w fun e w' => e = .returned (.bool (decide (¬ InI G x))) ∧ Below w.heap.size w w' := by
  obtain ⟨p, d⟩ := x
  obtain ⟨⟨hp0, hp1⟩, hd0, hd1⟩ := hx
  simp only at hp0 hp1 hd0 hd1
  unfold itVal
  have k := Fr.alloc (ch := nothing) w (Obj.cells #[.int .i64 p, .int .i64 d] 41 (0, 0))
  have e0 := obj_cell (alloc_obj w (Obj.cells #[.int .i64 p, .int .i64 d] 41 (0, 0))) 0 (v := .int .i64 p) rfl
  have e1 := obj_cell (alloc_obj w (Obj.cells #[.int .i64 p, .int .i64 d] 41 (0, 0))) 1 (v := .int .i64 d) rfl
  have cs := k.cell (obj_cell hs 0 (v := .pointer (some ⟨bp, 0, none⟩)) rfl) id
  have HB := Lib.hid (k.below_new)
  by_cases t1 : p < 0
  · have hans : decide (¬ InI G (p, d)) = true := decide_eq_true fun h => by have := h.1; simp only at this; omega
    rw [hans]
    have t1' : decide (p < 0) = true := decide_eq_true t1
    clear h hs hans
    go_enter Try.func48, Try.ntmps48
    go_wp2
    generalize hW : w.alloc (Obj.cells #[.int .i64 p, .int .i64 d] 41 (0, 0)) = W at *
    go_quiet (fail)
    go_wp2
    go_ret
    exact ⟨rfl, below_drewN HB.out _⟩
  have t1' : decide (p < 0) = false := decide_eq_false t1
  have hP := h.prods
  obtain ⟨-, pa, pc, rfl, -, -, -⟩ := id hP
  have cb := k.cell (obj_cell h.obj 2 (v := .slice pa G.prods.length pc) rfl) id
  obtain ⟨pn, rfl⟩ : ∃ n : Nat, p = (n : Int) := ⟨p.toNat, by omega⟩
  by_cases t2 : G.prods.length ≤ pn
  · have hans : decide (¬ InI G ((pn : Int), d)) = true := decide_eq_true fun h => by have := h.2.1; simp only at this; omega
    rw [hans]
    clear h hs hans hP t1
    generalize G.prods.length = m at *
    have t2' : decide (m ≤ pn) = true := decide_eq_true t2
    go_enter Try.func48, Try.ntmps48
    go_wp2
    generalize hW : w.alloc (Obj.cells #[.int .i64 pn, .int .i64 d] 41 (0, 0)) = W at *
    go_quiet (fail)
    go_wp2
    go_ret
    exact ⟨rfl, below_drewN HB.out _⟩
  have hlt : pn < G.prods.length := by omega
  obtain ⟨pg, po, ra, rc, rfl, hprd, hcs⟩ := hP.get pn hlt
  have c1 := hcs 1 (by simp [prdCells])
  simp only [prdCells, List.getElem_cons_zero, List.getElem_cons_succ] at c1
  have c1 := k.cell c1 id
  have hin : decide (¬ InI G ((pn : Int), d)) = (decide (d < 0) || decide ((G.prods[pn].right.length : Int) < d)) := by
    unfold InI
    simp only [rightOf_at G hlt]
    by_cases a : d < 0
    · rw [decide_eq_true a, Bool.true_or]
      exact decide_eq_true fun h => by have := h.2.2.1; omega
    · rw [decide_eq_false a, Bool.false_or]
      by_cases b : (G.prods[pn].right.length : Int) < d
      · rw [decide_eq_true b]
        exact decide_eq_true fun h => by have := h.2.2.2; omega
      · rw [decide_eq_false b]
        exact decide_eq_false fun h => h ⟨by omega, by omega, by omega, by omega⟩
  rw [hin]
  have hrl : G.prods[pn].right.length ≤ 17592186044416 := by
    obtain ⟨_, r, hr, _⟩ := hprd
    exact hr.2.1
  have t2' : decide (G.prods.length ≤ pn) = false := decide_eq_false t2
  clear h hs hP t1 hprd hcs hin
  generalize G.prods[pn].right.length = rl at *
  have HLT := Lib.hid hlt
  clear hlt t2
  generalize G.prods.length = m at *
  have hpm := HLT.out
  by_cases t3 : d < 0
  · have t3' : decide (d < 0) = true := decide_eq_true t3
    rw [t3', Bool.true_or]
    go_enter Try.func48, Try.ntmps48
    go_wp2
    generalize hW : w.alloc (Obj.cells #[.int .i64 pn, .int .i64 d] 41 (0, 0)) = W at *
    go_quiet (fail)
    go_wp2
    go_ret
    exact ⟨rfl, below_drewN HB.out _⟩
  have t3' : decide (d < 0) = false := decide_eq_false t3
  rw [t3', Bool.false_or]
  obtain ⟨dn, rfl⟩ : ∃ n : Nat, d = (n : Int) := ⟨d.toNat, by omega⟩
  have e4 : decide ((rl : Int) < (dn : Int)) = decide (rl < dn) := by simp
  rw [e4]
  clear e4 t3
  by_cases t4 : rl < dn
  · have t4' : decide (rl < dn) = true := decide_eq_true t4
    rw [t4']
    go_enter Try.func48, Try.ntmps48
    go_wp2
    generalize hW : w.alloc (Obj.cells #[.int .i64 pn, .int .i64 dn] 41 (0, 0)) = W at *
    go_quiet (fail)
    go_wp2
    go_ret
    exact ⟨rfl, below_drewN HB.out _⟩
  · have t4' : decide (rl < dn) = false := decide_eq_false t4
    rw [t4']
    go_enter Try.func48, Try.ntmps48
    go_wp2
    generalize hW : w.alloc (Obj.cells #[.int .i64 pn, .int .i64 dn] 41 (0, 0)) = W at *
    go_quiet (fail)
    go_wp2
    go_ret
    exact ⟨rfl, below_drewN HB.out _⟩

set_option maxRecDepth 100000 in
set_option maxHeartbeats 1000000 in
theorem indexIn_any (G : Gram) (w : World) (bp mb s : Nat) (vs vp : Value) (h : IsBld w bp mb vs vp G) (hs : w.heap[s]? = some (boxBld bp)) (v : Value) (l : List It) (hv : IsItems w v l) :
    Calls Try.prog 59 #[v, .func (.func 48) #[] #[.pointer (some ⟨s, 0, none⟩)]] w fun e w' => (∃ k : Int, e = .returned (.int .i64 k) ∧ decide (0 ≤ k) = !(l.all fun x => decide (InI G x))) ∧ Below w.heap.size w w' := by
  obtain ⟨a, cap, rfl, -, -, hlen⟩ := hv.parts
  have HV := Lib.hid hv
  have HT := Lib.hid fun x W (hx : i64 x.1 ∧ i64 x.2) (k : Below w.heap.size w W) => inOne_any G W bp mb s vs vp (h.fr (Fr.new k)) ((Fr.new k).obj hs id) x hx
  clear hv hs h
  generalize hN : l.length = N at *
  have HN := Lib.hid hN
  clear hN
  go_enter Try.func59, Try.ntmps59
  go_wp2
  go_loopw [4, 5, 8] (fun _ _ i wr => ∃ k : Nat, k ≤ N ∧ i = .int .i64 k ∧ (∀ j (hj : j < l.length), j < k → InI G l[j]) ∧ Below w.heap.size w wr) (fun _ _ i _ => N - (intOf i).toNat)
  case atStart => exact ⟨0, Nat.zero_le _, rfl, fun j _ h => by omega, Below.refl _ _⟩
  case round =>
    obtain ⟨k, hk, rfl, hno, hB⟩ := hrel
    have HNO := Lib.hid hno
    clear hno
    by_cases hlt : k < N
    · have hk' : k < l.length := by rw [HN.out]; exact hlt
      obtain ⟨b', o, rfl, c0, c1, hx⟩ := (HV.out.fr (Fr.new hB)).at hk'
      have hcall := HT.out l[k] wr hx hB
      unfold itVal at hcall
      have HB := Lib.hid hB
      by_cases hp : InI G l[k]
      · rw [decide_eq_false (fun h => h hp)] at hcall
        have HP := Lib.hid hp
        have HCL := Lib.hid hcall
        clear hp hcall hB
        generalize hs : l[k] = x at c0 c1 HCL hx
        clear hs hx
        go_wp2_with (go_at_call 48; refine HCL.out.mono ?_; rintro e w' ⟨rfl, hb2⟩)
        go_roundw
        case rel =>
          refine ⟨k + 1, by omega, by simp, fun j hj hjk => ?_, HB.out.trans (hb2.mono HB.out.size)⟩
          by_cases e : j = k
          · subst e; exact HP.out
          · exact HNO.out j hj (by omega)
        case measure => simp [intOf]; omega
      · rw [decide_eq_true hp] at hcall
        have HP := Lib.hid hp
        have HCL := Lib.hid hcall
        have HM := Lib.hid (List.getElem_mem hk')
        clear hp hcall hB
        generalize l[k] = x at c0 c1 HCL hx HP HM
        clear hx
        go_wp2_with (go_at_call 48; refine HCL.out.mono ?_; rintro e w' ⟨rfl, hb2⟩)
        go_ret
        have hf : (l.all fun x => decide (InI G x)) = false := by
          cases h : l.all fun x => decide (InI G x)
          · rfl
          · exact absurd (of_decide_eq_true (List.all_eq_true.1 h _ HM.out)) HP.out
        exact ⟨⟨_, rfl, by rw [hf]; simp⟩, HB.out.trans (hb2.mono HB.out.size)⟩
    · obtain rfl : k = N := by omega
      clear hlt
      have HB := Lib.hid hB
      clear hB
      go_wp2
      go_ret
      refine ⟨⟨-1, rfl, ?_⟩, HB.out⟩
      have : (l.all fun x => decide (InI G x)) = true := by
        rw [List.all_eq_true]
        intro x hx
        obtain ⟨i, hi, rfl⟩ := List.mem_iff_getElem.1 hx
        exact decide_eq_true (HNO.out i hi (by rw [← HN.out]; exact hi))
      rw [this]
      rfl
theorem containsIn_any (G : Gram) (w : World) (bp mb s : Nat) (vs vp : Value) (h : IsBld w bp mb vs vp G) (hs : w.heap[s]? = some (boxBld bp)) (v : Value) (l : List It) (hv : IsItems w v l) :
    Calls Try.prog 47 #[v, .func (.func 48) #[] #[.pointer (some ⟨s, 0, none⟩)]] w fun e w' => e = .returned (.bool (!(l.all fun x => decide (InI G x)))) ∧ Below w.heap.size w w' := by
  obtain ⟨a, cap, rfl, -, -, hlen⟩ := hv.parts
  have HI := Lib.hid (indexIn_any G w bp mb s vs vp h hs _ l hv)
  generalize (!(l.all fun x => decide (InI G x))) = bb at *
  clear hv hs h
  generalize l.length = N at *
  go_enter Try.func47, Try.ntmps47
  go_wp2_with (go_at_call 59; refine HI.out.mono ?_; rintro e w' ⟨⟨k, rfl, rfl⟩, hb⟩)
  go_ret
  exact ⟨rfl, hb⟩
theorem itemsOk_any (G : Gram) (w : World) (bp mb : Nat) (vs vp : Value) (h : IsBld w bp mb vs vp G) (v : Value) (l : List It) (hv : IsItems w v l) :
    Calls Try.prog 31 #[.pointer (some ⟨bp, 0, none⟩), v] w fun e w' => e = .returned (.bool (l.all fun x => decide (InI G x))) ∧ Below w.heap.size w w' := by
  have HC := Lib.hid (containsIn_any G (w.alloc (boxBld bp)) bp mb w.heap.size vs vp (h.fr (Fr.alloc _ _)) (alloc_obj _ _) v l (hv.fr (Fr.alloc _ _)))
  unfold boxBld at HC
  generalize hb : (l.all fun x => decide (InI G x)) = bb at *
  clear hv h hb
  go_enter Try.func31, Try.ntmps31
  go_wp2_with (go_at_call 47; refine HC.out.mono ?_; rintro e w' ⟨rfl, hb⟩)
  go_ret
  exact ⟨by simp, ((Below.refl _ w).alloc (Nat.le_refl _) _).trans (hb.mono (by simp))⟩
end Go.Proofs.Ytgmkpncpcikecaa
