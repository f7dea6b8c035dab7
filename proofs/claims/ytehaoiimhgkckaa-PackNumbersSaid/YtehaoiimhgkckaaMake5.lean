/-
  Package symbols: a grammar's text in memory; what the making comes to, as plain functions, where nothing is thrown.
-/
import Derived.Test.YtehaoiimhgkckaaMake4
namespace Go.Proofs.Ytehaoiimhgkckaa
open Go.RowKit Go.MapKept Go.ChangeMaps
set_option maxHeartbeats 400000

structure Wrd where
  name : ByteArray
  args : Nat
  at_ : Int
structure Alc where
  words : List Wrd
  prec : ByteArray
  has : Bool
  action : ByteArray
  whr : Int
  at_ : Int
structure Rul where
  name : ByteArray
  params : Nat
  alts : List Alc
  at_ : Int
structure Txt where
  decls : List Dcl
  rules : List Rul
def WrdAt (w : World) (b o : Nat) (x : Wrd) : Prop := i64 x.at_ ∧ ∃ a c, Cells w b o [.string x.name, .slice a x.args c, .int .i64 x.at_]
def IsWrds (w : World) (v : Value) (l : List Wrd) : Prop := Rows' v 3 (WrdAt w) l
def AltAt (w : World) (b o : Nat) (x : Alc) : Prop := i64 x.at_ ∧ i64 x.whr ∧ ∃ wv, IsWrds w wv x.words ∧ Cells w b o [wv, .string x.prec, .bool x.has, .string x.action, .int .i64 x.whr, .int .i64 x.at_]
def IsAlts (w : World) (v : Value) (l : List Alc) : Prop := Rows' v 6 (AltAt w) l
def RulAt (w : World) (b o : Nat) (x : Rul) : Prop := i64 x.at_ ∧ ∃ a c av, IsAlts w av x.alts ∧ Cells w b o [.string x.name, .slice a x.params c, av, .int .i64 x.at_]
def IsRuls (w : World) (v : Value) (l : List Rul) : Prop := Rows' v 4 (RulAt w) l
def DclAt (w : World) (b o : Nat) (x : Dcl) : Prop := i64 x.at_ ∧ ∃ nv, IsStrs w nv x.names ∧ Cells w b o [.string x.kind, .string x.type, nv, .int .i64 x.at_]
def IsDcls (w : World) (v : Value) (l : List Dcl) : Prop := Rows' v 4 (DclAt w) l
def IsTxt (w : World) (v : Value) (T : Txt) : Prop := ∃ dv rv, v = .agg #[dv, rv] ∧ IsDcls w dv T.decls ∧ IsRuls w rv T.rules
theorem IsWrds.fr {w w' : World} {v : Value} {l : List Wrd} (h : IsWrds w v l) (k : Fr nothing w w') : IsWrds w' v l := Rows'.mono h fun _ _ _ ⟨h1, a, c, h2⟩ => ⟨h1, a, c, h2.fr k fun e => e⟩
theorem IsAlts.fr {w w' : World} {v : Value} {l : List Alc} (h : IsAlts w v l) (k : Fr nothing w w') : IsAlts w' v l := Rows'.mono h fun _ _ _ ⟨h1, h2, wv, h3, h4⟩ => ⟨h1, h2, wv, h3.fr k, h4.fr k fun e => e⟩
theorem IsRuls.fr {w w' : World} {v : Value} {l : List Rul} (h : IsRuls w v l) (k : Fr nothing w w') : IsRuls w' v l := Rows'.mono h fun _ _ _ ⟨h1, a, c, av, h3, h4⟩ => ⟨h1, a, c, av, h3.fr k, h4.fr k fun e => e⟩
theorem IsDcls.fr {w w' : World} {v : Value} {l : List Dcl} (h : IsDcls w v l) (k : Fr nothing w w') : IsDcls w' v l := Rows'.mono h fun _ _ _ ⟨h1, nv, h3, h4⟩ => ⟨h1, nv, h3.fr k, h4.fr k fun e => e⟩
theorem IsTxt.fr {w w' : World} {v : Value} {T : Txt} (h : IsTxt w v T) (k : Fr nothing w w') : IsTxt w' v T := by
  obtain ⟨dv, rv, h1, h2, h3⟩ := h
  exact ⟨dv, rv, h1, h2.fr k, h3.fr k⟩

/-! What the making comes to, where nothing is thrown. -/
def plainOk (r : Rul) : Bool := decide (r.params = 0) && r.alts.all fun a => a.words.all fun x => decide (x.args = 0)
def termN (M : Mst) (s ty : ByteArray) : Mst × Int := match findN? M.tm s with | some n => (M, n) | none => (addT M s ty, M.syms.length)
def setLv (M : Mst) (n : Nat) (lv a : Int) : Mst := { M with syms := M.syms.modify n fun x => ⟨x.name, x.type, lv, a⟩ }
def lvlAt (M : Mst) (n : Int) : Option Int := if n < 0 then none else (M.syms[n.toNat]?).map Sym.level
def bindN (a : Int) : Mst → List ByteArray → Option Mst
  | M, [] => some M
  | M, s :: l => if oddG s then none else
      let r := termN M s nNone
      if lvlAt r.1 r.2 = some 0 then bindN a (setLv r.1 r.2.toNat r.1.level a) l else none
def kToken : ByteArray := ⟨#[116, 111, 107, 101, 110]⟩
def kLeft : ByteArray := ⟨#[108, 101, 102, 116]⟩
def kRight : ByteArray := ⟨#[114, 105, 103, 104, 116]⟩
def kNon : ByteArray := ⟨#[110, 111, 110, 97, 115, 115, 111, 99]⟩
def kType : ByteArray := ⟨#[116, 121, 112, 101]⟩
def kStart : ByteArray := ⟨#[115, 116, 97, 114, 116]⟩
def ruleN (M : Mst) (s : ByteArray) : Option Mst :=
  if oddG s || (findN? M.tm s).isSome || (findN? M.rm s).isSome then none else some { M with rm := M.rm ++ [(s, (M.named.length : Int))], named := M.named ++ [⟨s, nNone, 0, 0⟩] }
def symN (M : Mst) (s : ByteArray) : Option Int := match findN? M.tm s with | some n => some n | none => (findN? M.rm s).map fun n => M.terms + 1 + n
/-- The words' symbols, and the last terminal's with a level. -/
def wordsN (M : Mst) : List Wrd → Int → List Int → Option (Int × List Int)
  | [], p, r => some (p, r)
  | x :: l, p, r => match symN M x.name with
    | none => none
    | some n => if n < 0 then none else if n < M.terms then match lvlAt M n with
        | none => none
        | some v => wordsN M l (if 0 < v then n else p) (r ++ [n])
      else wordsN M l p (r ++ [n])
def altN (M : Mst) (left : Int) (a : Alc) : Option Mst :=
  if 10 < a.words.length then none else
  match wordsN M a.words (-1) [] with
  | none => none
  | some (p, r) =>
    if a.prec = nNone then some { M with prods := M.prods ++ [⟨left, r, p, a.has, if a.has then a.action else nNone, if a.has then a.whr else 0⟩] }
    else match findN? M.tm a.prec with
      | none => none
      | some n => some { M with prods := M.prods ++ [⟨left, r, n, a.has, if a.has then a.action else nNone, if a.has then a.whr else 0⟩] }

/-! What lies still where one of a maker's lists turns. -/
theorem Mem.syms' {w w' : World} {B mb : Nat} {M : Mst} {sv pv nv : Value} {tb rb : Nat} (h : Mem w B mb M sv pv nv tb rb) (k : Fr (fun g => sv.ownBlock = some g) w w') (L : List Sym) (ho : w'.ownsRow B 65 4 sv L.length (L.flatMap symCells)) :
    Mem w' B mb { M with syms := L } sv pv nv tb rb := by
  obtain ⟨h1, h2, h3, ⟨xs, h4, h5, h6⟩, h7, h8, h9, h10⟩ := h
  refine ⟨k.obj h1 fun e => own_ne h2 h1 (by decide) e, ho, own_fr h3 k fun g hg e => h9 g e hg, ⟨xs, h4, own_fr h5 k fun g hg e => own_apart h2 h5 (by decide) g e hg, fun x hx => own_fr (h6 x hx) k fun g hg e => own_apart h2 (h6 x hx) (by decide) g e hg⟩, h7.fr k fun e => map_own h7 h2 e, h8.fr k fun e => map_own h8 h2 e, h9, h10⟩
/-- The maker's own cells turn. -/
theorem Mem.put {w w' : World} {B mb : Nat} {M M' : Mst} {sv pv nv : Value} {tb rb : Nat} (h : Mem w B mb M sv pv nv tb rb) (k : Fr (only mb) w w') (ho : w'.heap[mb]? = some (mkO M' sv pv nv tb rb)) (e1 : M'.syms = M.syms) (e2 : M'.prods = M.prods) (e3 : M'.tm = M.tm) (e4 : M'.rm = M.rm) (e5 : M'.named = M.named) :
    Mem w' B mb M' sv pv nv tb rb := by
  obtain ⟨h1, h2, h3, ⟨xs, h4, h5, h6⟩, h7, h8, h9, h10⟩ := h
  have hne : ∀ {e size n : Nat} {u : Value} {ys : List Value}, w.ownsRow B e size u n ys → e ≠ 106 → w'.ownsRow B e size u n ys := fun ho' he => own_fr ho' k fun g hg e => own_ne ho' h1 he (by rw [hg]; exact congrArg some e)
  refine ⟨ho, by rw [e1]; exact hne h2 (by decide), by rw [e5]; exact hne h3 (by decide), ⟨xs, by rw [e2]; exact h4, hne h5 (by decide), fun x hx => hne (h6 x hx) (by decide)⟩, by rw [e3]; exact h7.fr k fun e => map_ne h7 h1 (show mb = tb from (show tb = mb from e).symm), by rw [e4]; exact h8.fr k fun e => map_ne h8 h1 (show mb = rb from (show rb = mb from e).symm), h9, h10⟩
theorem flat_modify (lv a : Int) : ∀ (l : List Sym) (n : Nat), n < l.length → ((l.flatMap symCells).set (n * 4 + 2) (.int .i64 lv)).set (n * 4 + 3) (.int .u8 a) = (l.modify n fun x => ⟨x.name, x.type, lv, a⟩).flatMap symCells
  | [], _, h => by simp at h
  | x :: l, 0, _ => by simp [symCells, List.modify]
  | x :: l, n + 1, h => by
    have ih := flat_modify lv a l n (by simpa using h)
    rw [List.modify_succ_cons, List.flatMap_cons, List.flatMap_cons, ← ih]
    rw [show (n + 1) * 4 + 2 = (symCells x).length + (n * 4 + 2) by simp [symCells]; omega, show (n + 1) * 4 + 3 = (symCells x).length + (n * 4 + 3) by simp [symCells]; omega]
    rw [List.set_append_right _ _ (Nat.le_add_right _ _), List.set_append_right _ _ (Nat.le_add_right _ _)]
    simp
end Go.Proofs.Ytehaoiimhgkckaa
