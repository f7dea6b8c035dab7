/-
  Package symbols: term, whether new or not; looking a name up.
-/
import Derived.Test.YtehaoiimhgkckaaMake5
namespace Go.Proofs.Ytehaoiimhgkckaa
open Go.RowKit Go.MapKept Go.ChangeMaps
set_option maxHeartbeats 400000

def Uq (l : List (ByteArray × Int)) : Prop := (l.map Prod.fst).Nodup
theorem uq_one : ∀ {l : List (ByteArray × Int)}, Uq l → ∀ {s : ByteArray} {a b : Int}, (s, a) ∈ l → (s, b) ∈ l → a = b
  | [], _, s, a, b, h, _ => by cases h
  | x :: l, hu, s, a, b, h1, h2 => by
    unfold Uq at hu
    rw [List.map_cons, List.nodup_cons] at hu
    rcases List.mem_cons.1 h1 with e1 | e1
    · rcases List.mem_cons.1 h2 with e2 | e2
      · rw [← e1] at e2
        simp only [Prod.mk.injEq, true_and] at e2
        exact e2.symm
      · exact absurd (List.mem_map.2 ⟨(s, b), e2, by rw [← e1]⟩) hu.1
    · rcases List.mem_cons.1 h2 with e2 | e2
      · exact absurd (List.mem_map.2 ⟨(s, a), e1, by rw [← e2]⟩) hu.1
      · exact uq_one (l := l) hu.2 e1 e2
theorem uq_add {l : List (ByteArray × Int)} (h : Uq l) {s : ByteArray} (hn : findN? l s = none) (n : Int) : Uq (l ++ [(s, n)]) := by
  unfold Uq at h ⊢
  rw [List.map_append, List.nodup_append]
  refine ⟨h, by simp, fun a ha b hb e => ?_⟩
  simp only [List.map_cons, List.map_nil, List.mem_singleton] at hb
  subst hb
  subst e
  obtain ⟨y, hy, e⟩ := List.mem_map.1 ha
  unfold findN? at hn
  rw [Option.map_eq_none_iff, List.find?_eq_none] at hn
  exact hn y hy (by simp [e])
theorem look_some {w : World} {b : Nat} {l : List (ByteArray × Int)} (h : IsMap w .string b (mapKV l)) (hu : Uq l) {s : ByteArray} {n : Int} (hf : findN? l s = some n) (c : Bool) :
    (Instr.lookup 104 (.map (some b)) (.string s) c).run Try.prog w = .ok (if c then .tuple #[.int .i64 n, .bool true] else .int .i64 n) w := by
  rcases h.look (P := Try.prog) (t := 104) (k := .string s) Try.underlying104 Try.underlying9 trivial (z := .int .i64 0) (by kernel_rfl) with ⟨v, hv, hr⟩ | ⟨hn, _⟩
  · obtain ⟨y, hy, e⟩ := List.mem_map.1 hv
    simp only [Prod.mk.injEq, Value.string.injEq] at e
    obtain ⟨e1, e2⟩ := e
    have h1 : (s, y.2) ∈ l := by rw [← e1]; exact hy
    rw [uq_one hu (find_some hf) h1]
    rw [← e2] at hr
    exact hr c
  · exact absurd rfl (hn (.string s, .int .i64 n) (List.mem_map.2 ⟨(s, n), find_some hf, rfl⟩))
theorem look_none' {w : World} {b : Nat} {l : List (ByteArray × Int)} (h : IsMap w .string b (mapKV l)) {s : ByteArray} (hf : findN? l s = none) (c : Bool) :
    (Instr.lookup 104 (.map (some b)) (.string s) c).run Try.prog w = .ok (if c then .tuple #[.int .i64 0, .bool false] else .int .i64 0) w := by
  rcases h.look (P := Try.prog) (t := 104) (k := .string s) Try.underlying104 Try.underlying9 trivial (z := .int .i64 0) (by kernel_rfl) with ⟨v, hv, _⟩ | ⟨_, hr⟩
  · exact absurd rfl (find_none hf _ hv)
  · exact hr c
set_option maxRecDepth 100000 in
theorem term_old (M : Mst) (s ty : ByteArray) (n : Int) (w : World) (B mb tb rb : Nat) (h : Lies w B mb tb rb M) (hu : Uq M.tm) (hn : findN? M.tm s = some n) :
    Calls Try.prog 87 #[.pointer (some ⟨mb, 0, none⟩), .string s, .string ty] w fun e w' => e = .returned (.int .i64 n) ∧ w = w' := by
  obtain ⟨sv, pv, nv, h⟩ := h
  have hlk := look_some h.tm hu hn true
  simp only [if_true] at hlk
  have c3 : w.cell? ⟨mb, 3, none⟩ = some (.map (some tb)) := obj_cell h.obj 3 rfl
  clear h hn
  go_enter Try.func87, Try.ntmps87
  go_wp2
  go_ret
  exact ⟨rfl, rfl⟩
theorem term_any (M : Mst) (s ty : ByteArray) (w : World) (B mb tb rb : Nat) (h : Lies w B mb tb rb M) (hu : Uq M.tm) (hl : M.syms.length ≤ 100000) (hB : B ≤ w.heap.size) :
    Calls Try.prog 87 #[.pointer (some ⟨mb, 0, none⟩), .string s, .string ty] w fun e w' => e = .returned (.int .i64 (termN M s ty).2) ∧ Lies w' B mb tb rb (termN M s ty).1 ∧ FM B mb tb rb w w' := by
  unfold termN
  cases hf : findN? M.tm s with
  | none => exact term_new M s ty w B mb tb rb h hf hl hB
  | some n =>
    refine (term_old M s ty n w B mb tb rb h hu hf).mono ?_
    rintro e w' ⟨rfl, rfl⟩
    exact ⟨rfl, h, FM.new (Fr.refl _ _)⟩
theorem term_uq (M : Mst) (s ty : ByteArray) (hu : Uq M.tm) : Uq (termN M s ty).1.tm := by
  unfold termN
  cases hf : findN? M.tm s with
  | none => exact uq_add hu hf _
  | some n => exact hu
theorem term_len (M : Mst) (s ty : ByteArray) : (termN M s ty).1.syms.length ≤ M.syms.length + 1 := by
  unfold termN
  cases hf : findN? M.tm s with
  | none => simp [addT]
  | some n => simp
end Go.Proofs.Ytehaoiimhgkckaa
