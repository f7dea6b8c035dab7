/-
  Package clash: the first shift of some entries.
-/
import Derived.Test.YtijdaihcogbliaaClash3
namespace Go.Proofs.Ytijdaihcogbliaa
open Go.RowKit Go.MapKept Go.ChangeMaps
set_option maxHeartbeats 400000

theorem isShift_any (a : Ent) (w : World) : Calls Try.prog 34 #[entVal a] w fun e w' => e = .returned (.bool (decide (a.kind = 1))) ∧ Below w.heap.size w w' := by
  obtain ⟨ak, at_⟩ := a
  unfold entVal
  generalize e1 : decide (ak = 1) = B1
  have t1 : (ak == 1) = B1 := by rw [← e1]; rfl
  clear e1
  go_enter Try.func34, Try.ntmps34
  go_wp2
  go_ret
  exact ⟨rfl, (Below.refl _ _).alloc (Nat.le_refl _) _⟩

/-- Where the first shift stands; -1: nowhere. -/
def idxE (l : List Ent) (i : Nat) : Int := match l with
  | [] => -1
  | a :: r => if a.kind = 1 then i else idxE r (i + 1)
theorem idxE_drop (l : List Ent) (k : Nat) (h : k < l.length) : idxE (l.drop k) k = if l[k].kind = 1 then (k : Int) else idxE (l.drop (k + 1)) (k + 1) := by
  rw [List.drop_eq_getElem_cons h]
  rfl

set_option maxRecDepth 100000 in
theorem index_any (v : Value) (l : List Ent) (w : World) (hl : IsEnts w v l) :
    Calls Try.prog 33 #[v, .func (.func 34) #[] #[]] w fun e w' => e = .returned (.int .i64 (idxE l 0)) ∧ Below w.heap.size w w' := by
  obtain ⟨hlen, a, c, rfl, _, _, hx⟩ := hl
  have HX := Lib.hid fun (e : Ent) (w : World) => isShift_any e w
  go_enter Try.func33, Try.ntmps33
  go_wp2
  go_loopw [4, 5, 8] (fun _ _ i wr => ∃ k : Nat, k ≤ l.length ∧ i = .int .i64 k ∧ idxE (l.drop k) k = idxE l 0 ∧ Below w.heap.size w wr)
     (fun _ _ i _ => l.length - (intOf i).toNat)
  case atStart => exact ⟨0, Nat.zero_le _, rfl, rfl, Below.refl _ _⟩
  case round =>
    obtain ⟨k, hk, rfl, he, hB⟩ := hrel
    by_cases hlt : k < l.length
    · obtain ⟨b', o, rfl, hcx⟩ : ∃ b' o, a = some ⟨b', o, none⟩ ∧ ∀ i, (h : i < l.length) → EntAt w b' (o + i * 2) l[i] := by
        rcases hx with rfl | h
        · simp at hlt
        · exact h
      obtain ⟨hok, hcs⟩ := (hcx k hlt).fr (Fr.new hB)
      have hd := idxE_drop l k hlt
      rw [he] at hd
      have hS := HX.out l[k]
      generalize l[k] = s at *
      obtain ⟨kind, tov⟩ := s
      have s0 := hcs 0 (by simp)
      have s1 := hcs 1 (by simp)
      simp only [List.getElem_cons_zero, List.getElem_cons_succ, Nat.add_zero] at s0 s1
      simp only at hd
      unfold entVal at hS
      have HS := Lib.hid hS
      have HD := Lib.hid hd
      have HB := Lib.hid hB
      clear hS hd hB he hcx hcs hok hx
      by_cases hk1 : kind = 1
      · subst hk1
        go_wp2_with (go_at_call 34; refine (HS.out _).mono ?_; rintro e w' ⟨rfl, hw'⟩)
        go_ret
        exact ⟨congrArg (fun t => Ending.returned (Value.int .i64 t)) (by rw [HD.out]; simp), HB.out.trans (hw'.mono HB.out.size)⟩
      · have hk2 : decide (kind = 1) = false := by simp [hk1]
        go_wp2_with (go_at_call 34; refine (HS.out _).mono ?_; rw [hk2]; rintro e w' ⟨rfl, hw'⟩)
        go_roundw
        case rel => exact ⟨k + 1, by omega, by simp, by rw [HD.out, if_neg hk1], HB.out.trans (hw'.mono HB.out.size)⟩
        case measure => simp [intOf]; omega
    · obtain rfl : k = l.length := by omega
      simp only [List.drop_length] at he
      have HE := Lib.hid he
      clear he hlt hx
      go_wp2
      go_ret
      exact ⟨congrArg (fun t => Ending.returned (Value.int .i64 t)) HE.out, hB⟩
end Go.Proofs.Ytijdaihcogbliaa
