/-
  Package pack: what stands at a row's place, of rows of numbers.
  Package pack: says, Act, Goto.
  Chapter 19's statements: the chapter's grammar.
-/
import Derived.Test.YtpnihegmhalcfaaRunG11
namespace Go.Proofs.Ytpnihegmhalcfaa
open Go.RowKit
set_option maxHeartbeats 400000

def ansI (nx : List Int) : Option Nat → Value
  | none => .tuple #[.int .i64 0, .bool false]
  | some k => .tuple #[.int .i64 (nx.getD k 0), .bool true]
end Go.Proofs.Ytpnihegmhalcfaa
namespace Go.Proofs.Ytpnihegmhalcfaa
open Go.RowKit
set_option maxHeartbeats 400000

structure Pk where
  dflt : List Int
  base : List Int
  check : List Int
  next : List Ac
  gobase : List Int
  gocheck : List Int
  gonext : List Int
structure PkV (w : World) (dv bv cv nv gb gc gn : Value) (P : Pk) : Prop where
  dflt : Ints w dv P.dflt
  base : Ints w bv P.base
  check : Ints w cv P.check
  next : IsActs w nv P.next
  gobase : Ints w gb P.gobase
  gocheck : Ints w gc P.gocheck
  gonext : Ints w gn P.gonext
def saysE (d : Int) : Ac := if 1 ≤ d then ⟨2, d⟩ else ⟨0, 0⟩
def pactE (P : Pk) (state term : Int) : Ac :=
  if state < 0 ∨ (P.base.length : Int) ≤ state ∨ (P.dflt.length : Int) ≤ state ∨ term < 0 then ⟨0, 0⟩
  else match atP P.base P.check (min P.check.length P.next.length) state term with
    | some k => P.next.getD k ⟨0, 0⟩
    | none => saysE (P.dflt.getD state.toNat 0)
def pgotoE (P : Pk) (state nonterm : Int) : Int :=
  match atP P.gobase P.gocheck (min P.gocheck.length P.gonext.length) state nonterm with
  | some k => P.gonext.getD k 0
  | none => -1
def acV (x : Ac) : Value := .agg #[.int .u8 x.kind, .int .i64 x.dst]
end Go.Proofs.Ytpnihegmhalcfaa
namespace Go.Proofs.Ytpnihegmhalcfaa
open Go.RowKit Go.MapKept Go.ChangeMaps
set_option maxHeartbeats 400000

def plS (n : ByteArray) : Sym := ⟨n, nNone, 0, 0⟩
def plP (left : Int) (right : List Int) : Prd := ⟨left, right, -1, false, nNone, 0⟩
theorem plS_ok (n : ByteArray) : SymOk (plS n) := ⟨show i64 0 by unfold i64; decide, (by decide : (0 : Int) ≤ 0 ∧ (0 : Int) ≤ 255)⟩
theorem plP_ok {l : Int} {r : List Int} (hl : i64 l) : PrdOk (plP l r) := ⟨hl, show i64 (-1) by unfold i64; decide, show i64 0 by unfold i64; decide⟩
/-- The chapter's grammar. -/
def smG : Gram := ⟨3, [plS ⟨#[36, 101, 110, 100]⟩, plS ⟨#[43]⟩, plS ⟨#[110]⟩, plS ⟨#[36, 97, 99, 99, 101, 112, 116]⟩, plS ⟨#[101]⟩], [plP 3 [4], plP 4 [4, 1, 2], plP 4 [2]]⟩
theorem sm_right : rightG smG = true := by kernel_rfl
theorem none_right : rightG ⟨0, [], []⟩ = false := by kernel_rfl
theorem sm_col : colI smG = some ([[(0, 0)], [(2, 1)], [(0, 1), (1, 1)], [(1, 2)], [(1, 3)]], [[(2, 1), (4, 2)], [], [(1, 3)], [(2, 4)], []]) := by kernel_rfl
theorem sm_clo : closE smG [(0, 0)] = [(0, 0), (1, 0), (2, 0)] := by kernel_rfl
theorem sm_goto : gotoE smG [(0, 0)] 4 = [(0, 1), (1, 1)] := by kernel_rfl
theorem items_obj {w : World} {b : Nat} {cs : Array Value} {t : TypeId} {z : Nat × Nat} {l : List It} {n : Nat} (h : w.heap[b]? = some (.cells cs t z)) (hcs : cs = (l.flatMap encI).toArray) (hi : ∀ x ∈ l, i64 x.1 ∧ i64 x.2) (hn : n = l.length) (hl : l.length ≤ 1000000) : IsItems w (.slice (some ⟨b, 0, none⟩) n n) l := by
  subst hn
  refine ⟨by omega, _, _, rfl, Nat.le_refl _, by unfold maxLen; omega, .inr ⟨b, 0, rfl, fun i hi' => ⟨hi _ (List.getElem_mem hi'), fun j hj => ?_⟩⟩⟩
  have hj2 : j < 2 := by simpa [encI] using hj
  have h6 := enc_flat_at hi' j hj2
  rw [List.getElem?_eq_getElem hj] at h6
  refine obj_cell h _ ?_
  rw [hcs, Nat.zero_add, List.getElem?_toArray]
  exact h6
theorem none_gram (w : World) : IsGram w (.agg #[.int .i64 0, .slice none 0 0, .slice none 0 0]) ⟨0, [], []⟩ :=
  ⟨show i64 0 by unfold i64; decide, _, _, rfl, ⟨by simp, none, 0, rfl, Nat.le_refl _, by unfold maxLen; omega, .inl rfl⟩, ⟨by simp, none, 0, rfl, Nat.le_refl _, by unfold maxLen; omega, .inl rfl⟩⟩
end Go.Proofs.Ytpnihegmhalcfaa
