/-
  The document's answer on symbols: places of names, what may be a type.
-/
import Derived.Test.YtgmkpncpcikecaaRight
import Derived.Test.YtgmkpncpcikecaaLate
namespace Go.Proofs.Ytgmkpncpcikecaa
open Go.RowKit
set_option maxHeartbeats 400000

/-- Where a name stands; -1: nowhere. -/
def placeE (name : ByteArray) : List Sym → Nat → Int
  | [], _ => -1
  | s :: r, i => if s.name = name then (i : Int) else placeE name r (i + 1)
theorem placeE_drop (name : ByteArray) (l : List Sym) (k : Nat) (h : k < l.length) : placeE name (l.drop k) k = if l[k].name = name then (k : Int) else placeE name (l.drop (k + 1)) (k + 1) := by
  rw [List.drop_eq_getElem_cons h]
  rfl
theorem placeE_has (name : ByteArray) : ∀ (l : List Sym) (i : Nat), decide (0 ≤ placeE name l i) = hasName (l.map Sym.name) name
  | [], i => rfl
  | s :: r, i => by
    have ih := placeE_has name r (i + 1)
    unfold placeE
    by_cases h : s.name = name
    · rw [if_pos h]
      simp [hasName, h]
    · rw [if_neg h, ih]
      simp [hasName, h]

set_option maxRecDepth 100000 in
theorem place_any (v : Value) (l : List Sym) (name : ByteArray) (w : World) (hl : IsSyms w v l) :
    Calls Try.prog 39 #[v, .string name] w fun e w' => e = .returned (.int .i64 (placeE name l 0)) ∧ w = w' := by
  obtain ⟨hlen, a, c, rfl, _, _, hx⟩ := hl
  go_enter Try.func39, Try.ntmps39
  go_wp2
  go_loopw [5] (fun i wr => ∃ k : Nat, k ≤ l.length ∧ i = .int .i64 k ∧ placeE name (l.drop k) k = placeE name l 0 ∧ w = wr)
     (fun i _ => l.length - (intOf i).toNat)
  case atStart => exact ⟨0, Nat.zero_le _, rfl, rfl, rfl⟩
  case round =>
    obtain ⟨k, hk, rfl, he, rfl⟩ := hrel
    by_cases hlt : k < l.length
    · obtain ⟨b', o, rfl, hcx⟩ : ∃ b' o, a = some ⟨b', o, none⟩ ∧ ∀ i, (h : i < l.length) → SymAt w b' (o + i * 4) l[i] := by
        rcases hx with rfl | h
        · simp at hlt
        · exact h
      obtain ⟨hok, hcs⟩ := hcx k hlt
      have hd := placeE_drop name l k hlt
      rw [he] at hd
      generalize l[k] = s at *
      have s0 := hcs 0 (by simp [symCells])
      simp only [symCells, List.getElem_cons_zero, Nat.add_zero] at s0
      have HD := Lib.hid hd
      clear hd he hcx hcs hok hx
      by_cases hk1 : s.name = name
      · have t1 : (s.name.toList == name.toList) = true := by rw [str_eq]; simp [hk1]
        go_wp2
        go_ret
        exact ⟨congrArg (fun t => Ending.returned (Value.int .i64 t)) (by rw [HD.out, if_pos hk1]), rfl⟩
      · have t1 : (s.name.toList == name.toList) = false := by rw [str_eq]; simp [hk1]
        go_wp2
        go_roundw
        case rel => exact ⟨k + 1, by omega, by simp, by rw [HD.out, if_neg hk1], trivial⟩
        case measure => simp [intOf]; omega
    · obtain rfl : k = l.length := by omega
      simp only [List.drop_length] at he
      have HE := Lib.hid he
      clear he hlt hx
      go_wp2
      go_ret
      exact ⟨congrArg (fun t => Ending.returned (Value.int .i64 t)) HE.out, rfl⟩

set_option maxRecDepth 100000 in
theorem typed14_any (s : ByteArray) (w : World) : Calls Try.prog 40 #[.string s] w fun e w' => e = .returned (.bool (typedG s)) ∧ w = w' := by
  unfold typedG nInt nBool nString nFloat
  generalize e1 : decide (s = ⟨#[105, 110, 116]⟩) = b1
  generalize e2 : decide (s = ⟨#[98, 111, 111, 108]⟩) = b2
  generalize e3 : decide (s = ⟨#[115, 116, 114, 105, 110, 103]⟩) = b3
  generalize e4 : decide (s = ⟨#[102, 108, 111, 97, 116, 54, 52]⟩) = b4
  have h1 := str_ilit s _ _ e1
  have h2 := str_ilit s _ _ e2
  have h3 := str_ilit s _ _ e3
  have h4 := str_ilit s _ _ e4
  clear e1 e2 e3 e4
  cases b1 <;> cases b2 <;> cases b3 <;> cases b4
  all_goals
    go_enter Try.func40, Try.ntmps40
    go_wp2
    go_ret
    exact ⟨rfl, rfl⟩
end Go.Proofs.Ytgmkpncpcikecaa
