/-
  Chapter 14's statements: words.
-/
import Derived.Test.YtehaoiimhgkckaaMakeA
namespace Go.Proofs.Ytehaoiimhgkckaa
open Go.RowKit Go.MapKept Go.ChangeMaps
set_option maxHeartbeats 400000

theorem Try.infoWrd : (Try.prog.info? 67).map (fun i => (i.zero, i.size, i.bytes)) = some (some (.agg #[.string ⟨#[]⟩, .slice none 0 0, .int .i64 0]), 3, 48) := by kernel_rfl
def wrdCells (x : Wrd) : List Value := [.string x.name, .slice none 0 0, .int .i64 x.at_]
/-- The words of names, at places from i on. -/
def wordsFrom (i : Nat) : List ByteArray → List Wrd
  | [] => []
  | s :: l => ⟨s, 0, 100 + (i : Int)⟩ :: wordsFrom (i + 1) l
theorem wordsFrom_length (i : Nat) (l : List ByteArray) : (wordsFrom i l).length = l.length := by
  induction l generalizing i with
  | nil => rfl
  | cons s l ih => simp [wordsFrom, ih]
theorem wordsFrom_snoc (i : Nat) (l : List ByteArray) (s : ByteArray) : wordsFrom i (l ++ [s]) = wordsFrom i l ++ [⟨s, 0, 100 + ((i + l.length : Nat) : Int)⟩] := by
  induction l generalizing i with
  | nil => simp [wordsFrom]
  | cons a l ih =>
    simp only [List.cons_append, wordsFrom, ih, List.length_cons]
    rw [show i + 1 + l.length = i + (l.length + 1) by omega]
set_option maxRecDepth 100000 in
set_option maxHeartbeats 2000000 in
theorem words_any (xs : List ByteArray) (v : Value) (w : World) (hv : IsStrs w v xs) (hl : xs.length ≤ 1000) :
    Calls Try.prog 61 #[v] w fun e w' => ∃ v', e = .returned v' ∧ w'.ownsRow w.heap.size 67 3 v' xs.length ((wordsFrom 0 xs).flatMap wrdCells) ∧ Below w.heap.size w w' := by
  obtain ⟨i0, hi, hz0, hz1, hz2⟩ := info_parts Try.infoWrd
  obtain ⟨a, c, rfl, hc, hcm, _⟩ := Rows'.parts hv
  have HV := Lib.hid hv
  obtain ⟨N, hN⟩ : ∃ N, N = xs.length := ⟨_, rfl⟩
  rw [← hN] at hl hc ⊢
  have HN := Lib.hid hN
  clear hv hN
  go_enter Try.func61, Try.ntmps61
  go_wp2
  go_loopw [3, 4] (fun v i wr => ∃ k : Nat, k ≤ N ∧ i = .int .i64 k ∧ wr.ownsRow w.heap.size 67 3 v k ((wordsFrom 0 (xs.take k)).flatMap wrdCells) ∧ Below w.heap.size w wr) (fun _ i _ => N - (intOf i).toNat)
  case atStart => exact ⟨0, Nat.zero_le _, rfl, World.ownsRow_nil _ _ _ _, Below.refl _ _⟩
  case round =>
    obtain ⟨k, hk, rfl, hown, hB⟩ := hrel
    by_cases hlt : k < N
    · have hk' : k < xs.length := by rw [← HN.out]; exact hlt
      obtain ⟨b, o, rfl, _, h4⟩ := Rows'.at (n := N) (by rw [HN.out]; exact HV.out) hk'
      have x0 := (Fr.new hB).cell h4 fun e => e
      rw [Nat.mul_one] at x0
      have hnext : (wordsFrom 0 (xs.take (k + 1))).flatMap wrdCells = (wordsFrom 0 (xs.take k)).flatMap wrdCells ++ [.string xs[k], .slice none 0 0, .int .i64 (100 + (k : Int))] := by
        rw [List.take_add_one, List.getElem?_eq_getElem hk', Option.toList_some, wordsFrom_snoc, List.flatMap_append]
        simp [wrdCells, Nat.min_eq_left (Nat.le_of_lt hk')]
      generalize xs[k] = s at *
      have HX := Lib.hid hnext
      have HB := Lib.hid hB
      have hsB := hB.size
      clear h4 hnext hB
      go_wp2_with (at_builtin; refine wpList_append_keep rfl _ _ 58 rfl w.heap.size 67 i0 _ 3 48 Try.underlying58 hi hz0 hz1 hz2 rfl (by decide) _ _ _ rfl (hown.alloc _) _ 1 1 [.string s, .slice none 0 0, .int .i64 (100 + (k : Int))] rfl rfl (cells_add (cells_new_at (by simp) _ _ rfl _ _)) (by simp [Value.oneCell']) (by omega) (by unfold maxLen; omega) (by omega) (by simp; omega) ?_; intro v2 w2 hown2 hold2 hfr2 hwh2)
      go_roundw
      case rel => exact ⟨k + 1, by omega, by simp, by rw [HX.out]; exact hown2, HB.out.trans (((Fr.alloc _ _).trans hfr2).below hsB fun g e => (hown.lt g e).1)⟩
      case measure => simp [intOf]; omega
    · obtain rfl : k = N := by omega
      clear hlt
      go_wp2
      go_ret
      refine ⟨_, rfl, ?_, hB⟩
      rw [HN.out, List.take_length] at hown
      rw [HN.out]
      exact hown
end Go.Proofs.Ytehaoiimhgkckaa
