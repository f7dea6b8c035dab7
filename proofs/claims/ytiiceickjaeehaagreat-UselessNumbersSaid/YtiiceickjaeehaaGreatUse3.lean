/-
  Package useless: one step of what is come to.
-/
import Derived.Test.YtiiceickjaeehaaGreatUse2
import Derived.Shelf.Abstract
namespace Go.Proofs.YtiiceickjaeehaaGreat
open Go.RowKit
set_option maxHeartbeats 400000

def setAll (L : List Bool) (R : List Int) : List Bool := R.foldl (fun L x => L.set x.toNat true) L
theorem setAll_length (R : List Int) : ∀ L : List Bool, (setAll L R).length = L.length := by
  induction R with
  | nil => intro L; rfl
  | cons x R ih => intro L; simp only [setAll, List.foldl_cons] at ih ⊢; rw [ih, List.length_set]
def fromStep (M : Prd → Bool) (p : Prd) (L : List Bool) : Bool × List Bool :=
  if L.getD p.left.toNat false && M p then (!allE L p.right, setAll L p.right) else (false, L)
/-- A function value tells of each production in some row what M tells, wherever no other block than b has turned. -/
def MayIs (w : World) (b : Nat) (F : Nat) (caps : Array Value) (M : Prd → Bool) (l : List Prd) : Prop :=
  Enters Tryz.prog F ∧ ∀ w1, Fr (only b) w w1 → ∀ v, ∀ p ∈ l, IsPrd w1 v p → Calls Tryz.prog F (#[v] ++ caps) w1 fun e w' => e = .returned (.bool (M p)) ∧ Below w1.heap.size w1 w'
theorem MayIs.fr {w w' : World} {b F : Nat} {caps : Array Value} {M : Prd → Bool} {l : List Prd} (h : MayIs w b F caps M l) (k : Fr (only b) w w') : MayIs w' b F caps M l := ⟨h.1, fun w1 h1 => h.2 w1 (k.trans h1)⟩
def boxF (F : Nat) (caps : Array Value) : Obj := .cells #[.func (.func F) #[] caps] 51 (0, 0)

theorem bools_not {w : World} {b : Nat} {L : List Bool} (h : w.heap[b]? = some (boolsObj L)) {p : Addr} {x : Int} (hv : w.cell? p = some (.int .i64 x)) : p.block ≠ b := fun e => by
  subst e
  unfold boolsObj at h
  simp [World.cell?, h] at hv
set_option maxRecDepth 100000 in
set_option maxHeartbeats 4000000 in
theorem fromStep_any (L : List Bool) (M : Prd → Bool) (l : List Prd) (p : Prd) (hp : p ∈ l) (b s m F : Nat) (caps : Array Value) (v : Value) (w : World) (hs : w.heap[s]? = some (boxB b L.length)) (hb : w.heap[b]? = some (boolsObj L)) (hm : w.heap[m]? = some (boxF F caps)) (hM : MayIs w b F caps M l) (hv : IsPrd w v p) (hin : InN L.length p) (hsb : s ≠ b) :
    Calls Tryz.prog 43 #[v, .pointer (some ⟨s, 0, none⟩), .pointer (some ⟨m, 0, none⟩)] w fun e w' => e = .returned (.bool (fromStep M p L).1) ∧ w'.heap[b]? = some (boolsObj (fromStep M p L).2) ∧ Fr (only b) w w' := by
  obtain ⟨hE0, hM⟩ := hM
  have hE : ∀ args w, (callFunc F args).run Tryz.prog w = .ok (.enter F args) w := hE0
  clear hE0
  have hv0 := hv
  obtain ⟨hok, r, hr, rfl⟩ := hv
  obtain ⟨⟨hl0, hl1⟩, hR⟩ := hin
  have hA0 : ∀ w1 : World, Below w.heap.size w w1 → _ := fun w1 h => all_any L p.right b r w1 ((Fr.new h).obj hb fun e => e) (hr.fr (Fr.new h)) hR
  have hC0 := fun (w1 : World) (h : Below w.heap.size w w1) => hM w1 (Fr.new h).wide (prdVal p r) p hp (hv0.fr (Fr.new h))
  obtain ⟨left, right, prec, has, action, whr⟩ := p
  simp only at hr hl0 hl1 hR hA0
  obtain ⟨n, rfl⟩ : ∃ n : Nat, left = (n : Int) := ⟨left.toNat, by omega⟩
  have hll : n < L.length := by omega
  have hX : fromStep M ⟨n, right, prec, has, action, whr⟩ L = if L[n] && M ⟨n, right, prec, has, action, whr⟩ then (!allE L right, setAll L right) else (false, L) := by simp [fromStep, hll]
  rw [hX]
  clear hX
  unfold prdVal at hC0 ⊢
  generalize M ⟨n, right, prec, has, action, whr⟩ = may at *
  generalize hO : Obj.cells #[.int .i64 n, r, .int .i64 prec, .bool has, .string action, .int .i64 whr] 44 (0, 0) = ob
  have c0 := obj_cell (alloc_older (o := ob) hs) 0 rfl
  have c1 := obj_cell (alloc_older (o := ob) hm) 0 rfl
  have cb := bools_cell (alloc_older (o := ob) hb) n hll
  have hB1 : Below w.heap.size w (w.alloc ob) := (Below.refl _ w).alloc (Nat.le_refl _) _
  have HC := Lib.hid (hC0 _ hB1)
  have HA := Lib.hid hA0
  have HB := Lib.hid hb
  have HBB := Lib.hid hB1
  have HS := Lib.hid hs
  have HR := Lib.hid hr
  subst hO
  clear hs hb hm hr hv0 hM hA0 hC0 hB1
  generalize hc : L[n] = c at *
  clear hc
  cases c
  · go_enter Tryz.func43, Tryz.ntmps43
    go_wp2
    go_ret
    exact ⟨rfl, (Fr.new HBB.out).obj HB.out fun e => e, (Fr.new HBB.out).wide⟩
  · cases may
    · go_enter Tryz.func43, Tryz.ntmps43
      go_wp2_with (go_at_fn F; refine HC.out.mono ?_; rintro e w1 ⟨rfl, hb1⟩)
      go_ret
      exact ⟨rfl, (Fr.new (HBB.out.trans (hb1.mono HBB.out.size))).obj HB.out fun e => e, (Fr.new (HBB.out.trans (hb1.mono HBB.out.size))).wide⟩
    · obtain ⟨ra, rc, rfl, hrx⟩ : ∃ ra rc, r = .slice ra right.length rc ∧ (right = [] ∨ ∃ b o, ra = some ⟨b, o, none⟩ ∧ Cells w b o (right.map (Value.int .i64))) := by
        obtain ⟨_, _, a, c, h1, _, _, h2⟩ := HR.out
        exact ⟨a, c, h1, h2⟩
      have hrl : right.length ≤ 17592186044416 := HR.out.2.1
      have hOB := alloc_obj w (Obj.cells #[.int .i64 n, .slice ra right.length rc, .int .i64 prec, .bool has, .string action, .int .i64 whr] 44 (0, 0))
      have HO := Lib.hid hOB
      have HSB := Lib.hid hsb
      clear hOB hsb
      have HRX := Lib.hid hrx
      clear hrx
      go_enter Tryz.func43, Tryz.ntmps43
      go_wp2_with (first | (go_at_fn F; refine HC.out.mono ?_; rintro e w1 ⟨rfl, hb1⟩; have hB1 := HBB.out.trans (hb1.mono HBB.out.size); have d0 := obj_cell ((Fr.new hb1).obj HO.out fun e => e) 1 rfl; have d1 := obj_cell ((Fr.new hB1).obj HS.out fun e => e) 0 rfl; have HA1 := Lib.hid (HA.out w1 hB1)) | (go_at_call 26; refine HA1.out.mono ?_; rintro e w2 ⟨rfl, rfl⟩))
      go_loopw [28] (fun i wr => ∃ k : Nat, k ≤ right.length ∧ i = .int .i64 k ∧ wr.heap[b]? = some (boolsObj (setAll L (right.take k))) ∧ Fr (only b) w wr) (fun i _ => right.length - (intOf i).toNat)
      case atStart => exact ⟨0, Nat.zero_le _, rfl, (Fr.new hB1).obj HB.out fun e => e, (Fr.new hB1).wide⟩
      case round =>
        obtain ⟨k, hk, rfl, hbk, hF⟩ := hrel
        clear c0 c1 cb d0 d1 hb1 HC HBB hB1 HA HO HA1
        by_cases hlt : k < right.length
        · obtain ⟨b', o, rfl, hcx⟩ : ∃ b' o, ra = some ⟨b', o, none⟩ ∧ Cells w b' o (right.map (Value.int .i64)) := by
            rcases HRX.out with rfl | h
            · simp at hlt
            · exact h
          have h1 := hcx k (by simpa using hlt)
          rw [List.getElem_map] at h1
          have h1' := hF.cell h1 (fun e => bools_not HB.out h1 e)
          have hm := hR _ (List.getElem_mem hlt)
          have hst : setAll L (right.take (k + 1)) = (setAll L (right.take k)).set right[k].toNat true := by
            unfold setAll
            rw [List.take_add_one, List.getElem?_eq_getElem hlt, List.foldl_append]
            rfl
          generalize right[k] = x at *
          obtain ⟨x, rfl⟩ : ∃ n : Nat, x = (n : Int) := ⟨x.toNat, by omega⟩
          have hxl : x < L.length := by omega
          rw [Int.toNat_natCast] at hst
          have HST := Lib.hid hst
          have d1 := obj_cell (hF.obj HS.out HSB.out) 0 rfl
          obtain ⟨y, d2⟩ : ∃ y, wr.cell? ⟨b, x, none⟩ = some (.bool y) := ⟨_, bools_cell hbk x (by rw [setAll_length]; omega)⟩
          have d3 := obj_frozen hbk x
          have HBK := Lib.hid hbk
          have HF := Lib.hid hF
          clear hst hbk hF h1 hcx
          go_wp2
          go_roundw
          case rel => exact ⟨k + 1, by omega, by simp, by rw [HST.out]; exact bools_set HBK.out _ _, HF.out.trans (Fr.setCell _ ⟨b, x, none⟩ _)⟩
          case measure => simp [intOf]; omega
        · obtain rfl : k = right.length := by omega
          rw [List.take_length] at hbk
          have HBK := Lib.hid hbk
          have HF := Lib.hid hF
          clear hlt hbk hF
          go_wp2
          go_ret
          exact ⟨rfl, HBK.out, HF.out⟩
end Go.Proofs.YtiiceickjaeehaaGreat
