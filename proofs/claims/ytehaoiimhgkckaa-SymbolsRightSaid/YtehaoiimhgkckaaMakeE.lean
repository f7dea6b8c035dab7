/-
  Package symbols: all, where nothing is thrown: the plain functions, and what lies where the maker's own cells turn.
-/
import Derived.Test.YtehaoiimhgkckaaMakeD
namespace Go.Proofs.Ytehaoiimhgkckaa
open Go.RowKit Go.MapKept Go.ChangeMaps
set_option maxHeartbeats 400000

def declsN : Mst → List Dcl → Option Mst
  | M, [] => some M
  | M, d :: l => (declN M d).bind fun M' => declsN M' l
def rulesN : Mst → List Rul → Option Mst
  | M, [] => some M
  | M, r :: l => (ruleN M r.name).bind fun M' => rulesN M' l
def addP (M : Mst) (left : Int) (r : List Int) (p : Int) : Mst := { M with prods := M.prods ++ [⟨left, r, p, false, nNone, 0⟩] }
def altsN (left : Int) : Mst → List Alc → Option Mst
  | M, [] => some M
  | M, a :: l => if a.prec = nNone ∧ a.has = false ∧ a.words.length ≤ 10 then (wordsN M a.words (-1) []).bind fun z => altsN left (addP M left z.2 z.1) l else none
theorem altsN_cons {left : Int} {M M' : Mst} {a : Alc} {l : List Alc} (h : altsN left M (a :: l) = some M') : a.prec = nNone ∧ a.has = false ∧ a.words.length ≤ 10 ∧ ∃ p r, wordsN M a.words (-1) [] = some (p, r) ∧ altsN left (addP M left r p) l = some M' := by
  unfold altsN at h
  split at h
  · rename_i hc
    obtain ⟨z, h1, h2⟩ := Option.bind_eq_some_iff.1 h
    exact ⟨hc.1, hc.2.1, hc.2.2, z.1, z.2, h1, h2⟩
  · cases h
def prodsN : Nat → Mst → List Rul → Option Mst
  | _, M, [] => some M
  | i, M, r :: l => (altsN (M.terms + 1 + i) M r.alts).bind fun M' => prodsN (i + 1) M' l
/-- Sizes that the making can bear. -/
structure Okm (M : Mst) (n : Nat) : Prop where
  tm : Uq M.tm
  rm : Uq M.rm
  syms : M.syms.length ≤ n
  named : M.named.length ≤ n
  level : 0 ≤ M.level ∧ M.level ≤ n
  prods : M.prods.length ≤ n
  terms : 0 ≤ M.terms ∧ M.terms ≤ n
  rms : ∀ x ∈ M.rm, 0 ≤ x.2 ∧ x.2 ≤ n
theorem Okm.mono {M : Mst} {n m : Nat} (h : Okm M n) (hm : n ≤ m) : Okm M m :=
  ⟨h.tm, h.rm, Nat.le_trans h.syms hm, Nat.le_trans h.named hm, ⟨h.level.1, by have := h.level.2; omega⟩, Nat.le_trans h.prods hm, ⟨h.terms.1, by have := h.terms.2; omega⟩, fun x hx => ⟨(h.rms x hx).1, by have := (h.rms x hx).2; omega⟩⟩
theorem okm_addT {M : Mst} {n : Nat} (h : Okm M n) {s ty : ByteArray} (hn : findN? M.tm s = none) : Okm (addT M s ty) (n + 1) :=
  ⟨uq_add h.tm hn _, h.rm, by have := h.syms; simp [addT]; omega, Nat.le_succ_of_le h.named, ⟨h.level.1, by have := h.level.2; show M.level ≤ _; omega⟩, Nat.le_succ_of_le h.prods, ⟨h.terms.1, by have := h.terms.2; show M.terms ≤ _; omega⟩, fun x hx => ⟨(h.rms x hx).1, by have := (h.rms x hx).2; omega⟩⟩
theorem okm_tok {ty : ByteArray} : ∀ {l : List ByteArray} {M M' : Mst} {n : Nat}, Okm M n → tokN ty M l = some M' → Okm M' (n + l.length)
  | [], M, M', n, h, he => by
    simp only [tokN, Option.some.injEq] at he
    subst he
    exact h
  | s :: l, M, M', n, h, he => by
    unfold tokN at he
    split at he
    · cases he
    · split at he
      · cases he
      · rename_i h2
        have := okm_tok (okm_addT (ty := ty) h (by simpa using h2)) he
        rw [List.length_cons, show n + (l.length + 1) = n + 1 + l.length by omega]
        exact this
theorem okm_term {M : Mst} {n : Nat} (h : Okm M n) (s ty : ByteArray) : Okm (termN M s ty).1 (n + 1) := by
  unfold termN
  cases hf : findN? M.tm s with
  | none => exact okm_addT h hf
  | some m => exact h.mono (Nat.le_succ _)
theorem okm_setLv {M : Mst} {n : Nat} (h : Okm M n) (m : Nat) (lv a : Int) : Okm (setLv M m lv a) n :=
  ⟨h.tm, h.rm, by have := h.syms; simpa [setLv] using this, h.named, h.level, h.prods, h.terms, h.rms⟩
theorem okm_bind {a : Int} : ∀ {l : List ByteArray} {M M' : Mst} {n : Nat}, Okm M n → bindN a M l = some M' → Okm M' (n + l.length)
  | [], M, M', n, h, he => by
    simp only [bindN, Option.some.injEq] at he
    subst he
    exact h
  | s :: l, M, M', n, h, he => by
    obtain ⟨_, _, he⟩ := bindN_cons he
    have := okm_bind (okm_setLv (okm_term h s nNone) _ _ a) he
    rw [List.length_cons, show n + (l.length + 1) = n + 1 + l.length by omega]
    exact this
theorem okm_decl {M M' : Mst} {D : Dcl} {n : Nat} (h : Okm M n) (he : declN M D = some M') : Okm M' (n + 1 + D.names.length) := by
  unfold declN at he
  split at he
  · split at he
    · exact (okm_tok h he).mono (by omega)
    · cases he
  · split at he
    · split at he
      · refine okm_bind (M := { M with level := M.level + 1 }) ⟨h.tm, h.rm, Nat.le_succ_of_le h.syms, Nat.le_succ_of_le h.named, ⟨by have := h.level.1; show 0 ≤ M.level + 1; omega, by have := h.level.2; show M.level + 1 ≤ _; omega⟩, Nat.le_succ_of_le h.prods, ⟨h.terms.1, by have := h.terms.2; show M.terms ≤ _; omega⟩, fun x hx => ⟨(h.rms x hx).1, by have := (h.rms x hx).2; omega⟩⟩ he
      · cases he
    · cases he
theorem okm_rule {M M' : Mst} {s : ByteArray} {n : Nat} (h : Okm M n) (he : ruleN M s = some M') : Okm M' (n + 1) := by
  obtain ⟨_, _, h2, rfl⟩ := ruleN_some he
  refine ⟨h.tm, uq_add h.rm h2 _, Nat.le_succ_of_le h.syms, by have := h.named; simp [addR]; omega, ⟨h.level.1, by have := h.level.2; show M.level ≤ _; omega⟩, Nat.le_succ_of_le h.prods, ⟨h.terms.1, by have := h.terms.2; show M.terms ≤ _; omega⟩, fun x hx => ?_⟩
  rcases List.mem_append.1 hx with hx | hx
  · exact ⟨(h.rms x hx).1, by have := (h.rms x hx).2; omega⟩
  · rw [List.mem_singleton.1 hx]
    have := h.named
    simp only
    omega
theorem okm_addP {M : Mst} {n : Nat} (h : Okm M n) (left : Int) (r : List Int) (p : Int) : Okm (addP M left r p) (n + 1) :=
  ⟨h.tm, h.rm, Nat.le_succ_of_le h.syms, Nat.le_succ_of_le h.named, ⟨h.level.1, by have := h.level.2; show M.level ≤ _; omega⟩, by have := h.prods; simp [addP]; omega, ⟨h.terms.1, by have := h.terms.2; show M.terms ≤ _; omega⟩, fun x hx => ⟨(h.rms x hx).1, by have := (h.rms x hx).2; omega⟩⟩
theorem declN_kinds {M M' : Mst} {D : Dcl} (he : declN M D = some M') : D.kind ≠ kStart ∧ D.kind ≠ kType := by
  unfold declN at he
  split at he
  · rename_i h
    rw [h]
    decide
  · split at he
    · rename_i h
      rw [h]
      decide
    · cases he
theorem declsN_kinds : ∀ {l : List Dcl} {M M' : Mst}, declsN M l = some M' → ∀ d ∈ l, d.kind ≠ kStart ∧ d.kind ≠ kType
  | [], _, _, _, d, h => by cases h
  | x :: l, M, M', he, d, hd => by
    unfold declsN at he
    obtain ⟨M1, h1, h2⟩ := Option.bind_eq_some_iff.1 he
    rcases List.mem_cons.1 hd with e | e
    · rw [e]
      exact declN_kinds h1
    · exact declsN_kinds h2 d e
theorem Mem.syms2 {w w2 : World} {B mb : Nat} {M : Mst} {sv pv nv v2 : Value} {tb rb : Nat} (h : Mem w B mb M sv pv nv tb rb) (k : Fr (fun g => sv.ownBlock = some g) w w2) (L : List Sym) (ho : w2.ownsRow B 65 4 v2 L.length (L.flatMap symCells)) (hv : ∀ g, v2.ownBlock = some g → sv.ownBlock = some g ∨ w.heap.size ≤ g) :
    Mem (w2.setCell ⟨mb, 1, none⟩ v2) B mb { M with syms := L } v2 pv nv tb rb ∧ FM B mb tb rb w (w2.setCell ⟨mb, 1, none⟩ v2) := by
  obtain ⟨h1, h2, h3, ⟨xs, h4, h5, h6⟩, h7, h8, h9, h10⟩ := h
  have hobj2 := k.obj h1 fun e => own_ne h2 h1 (by decide) e
  have kp : Fr (only mb) w2 (w2.setCell ⟨mb, 1, none⟩ v2) := Fr.setCell w2 ⟨mb, 1, none⟩ v2
  have hne : ∀ {e size n : Nat} {u : Value} {ys : List Value}, w2.ownsRow B e size u n ys → e ≠ 106 → (w2.setCell ⟨mb, 1, none⟩ v2).ownsRow B e size u n ys := fun ho' he => own_fr ho' kp fun g hg e => own_ne ho' hobj2 he (by rw [hg]; exact congrArg some e)
  have h7' := h7.fr k fun e => map_own h7 h2 e
  have h8' := h8.fr k fun e => map_own h8 h2 e
  refine ⟨⟨?_, hne ho (by decide), hne (own_fr h3 k fun g hg e => h9 g e hg) (by decide), ⟨xs, h4, hne (own_fr h5 k fun g hg e => own_apart h2 h5 (by decide) g e hg) (by decide), fun x hx => hne (own_fr (h6 x hx) k fun g hg e => own_apart h2 (h6 x hx) (by decide) g e hg) (by decide)⟩, h7'.fr kp fun e => map_ne h7' hobj2 (show mb = tb from (show tb = mb from e).symm), h8'.fr kp fun e => map_ne h8' hobj2 (show mb = rb from (show rb = mb from e).symm), fun g hg hn => ?_, h10⟩, ?_⟩
  · have := setCell_obj hobj2 (i := 1) v2
    simpa [mkO] using this
  · rcases hv g hg with e | e
    · exact h9 g e hn
    · have := (h3.lt g hn).2
      omega
  · refine FM.trans (FM.of k fun g hg e => ?_) (FM.of kp fun g hg e => .inl e)
    obtain ⟨q1, c, fz, q2⟩ := own_kind h2 g e
    exact .inr (.inr (.inr ⟨q1, c, _, fz, q2, .inl rfl⟩))
/-- The maker's list of symbols is another one. -/
theorem lies_syms {w w1 : World} {B mb tb rb : Nat} {M : Mst} (h : Lies w B mb tb rb M) (k : Fr nothing w w1) {v : Value} {L : List Sym} (ho : w1.ownsRow B 65 4 v L.length (L.flatMap symCells)) (hn : ∀ g, v.ownBlock = some g → w.heap.size ≤ g) :
    Lies (w1.setCell ⟨mb, 1, none⟩ v) B mb tb rb { M with syms := L } ∧ FM B mb tb rb w (w1.setCell ⟨mb, 1, none⟩ v) := by
  obtain ⟨sv, pv, nv, hM⟩ := h
  have hnv : ∀ g, nv.ownBlock = some g → g < w.heap.size := fun g hg => (hM.named.lt g hg).2
  obtain ⟨h1, h2, h3, ⟨xs, h4, h5, h6⟩, h7, h8, h9, h10⟩ := hM.new k
  have kp : Fr (only mb) w1 (w1.setCell ⟨mb, 1, none⟩ v) := Fr.setCell w1 ⟨mb, 1, none⟩ v
  have hne : ∀ {e size n : Nat} {u : Value} {ys : List Value}, w1.ownsRow B e size u n ys → e ≠ 106 → (w1.setCell ⟨mb, 1, none⟩ v).ownsRow B e size u n ys := fun ho' he => own_fr ho' kp fun g hg e => own_ne ho' h1 he (by rw [hg]; exact congrArg some e)
  refine ⟨⟨v, pv, nv, ?_, hne ho (by decide), hne h3 (by decide), ⟨xs, h4, hne h5 (by decide), fun x hx => hne (h6 x hx) (by decide)⟩, h7.fr kp fun e => map_ne h7 h1 (show mb = tb from (show tb = mb from e).symm), h8.fr kp fun e => map_ne h8 h1 (show mb = rb from (show rb = mb from e).symm), fun g hg hg2 => by have := hn g hg; have := hnv g hg2; omega, h10⟩, (FM.new k).trans (FM.of kp fun g _ e => .inl e)⟩
  have := setCell_obj h1 (i := 1) v
  simpa [mkO] using this
/-- The maker's number of terminals is another one. -/
theorem lies_terms {w : World} {B mb tb rb : Nat} {M : Mst} (h : Lies w B mb tb rb M) (n : Int) : Lies (w.setCell ⟨mb, 0, none⟩ (.int .i64 n)) B mb tb rb { M with terms := n } ∧ FM B mb tb rb w (w.setCell ⟨mb, 0, none⟩ (.int .i64 n)) := by
  obtain ⟨sv, pv, nv, h⟩ := h
  have k : Fr (only mb) w (w.setCell ⟨mb, 0, none⟩ (.int .i64 n)) := Fr.setCell w ⟨mb, 0, none⟩ _
  refine ⟨⟨sv, pv, nv, h.put k ?_ rfl rfl rfl rfl rfl⟩, FM.of k fun g _ e => .inl e⟩
  have := setCell_obj h.obj (i := 0) (.int .i64 n)
  simpa [mkO] using this
/-- The maker's list of productions is one that was just laid. -/
theorem lies_prods {w w1 : World} {B mb tb rb : Nat} {M : Mst} (h : Lies w B mb tb rb M) (k : Fr nothing w w1) {v rv : Value} {P : Prd} (ho : w1.ownsRow B 62 6 v 1 (cellsP (P, rv))) (hr : w1.ownsRow B 3 1 rv P.right.length (P.right.map (Value.int .i64))) :
    Lies (w1.setCell ⟨mb, 2, none⟩ v) B mb tb rb { M with prods := [P] } ∧ FM B mb tb rb w (w1.setCell ⟨mb, 2, none⟩ v) := by
  obtain ⟨sv, pv, nv, hM⟩ := h
  obtain ⟨h1, h2, h3, _, h7, h8, h9, h10⟩ := hM.new k
  have kp : Fr (only mb) w1 (w1.setCell ⟨mb, 2, none⟩ v) := Fr.setCell w1 ⟨mb, 2, none⟩ v
  have hne : ∀ {e size n : Nat} {u : Value} {ys : List Value}, w1.ownsRow B e size u n ys → e ≠ 106 → (w1.setCell ⟨mb, 2, none⟩ v).ownsRow B e size u n ys := fun ho' he => own_fr ho' kp fun g hg e => own_ne ho' h1 he (by rw [hg]; exact congrArg some e)
  refine ⟨⟨sv, v, nv, ?_, hne h2 (by decide), hne h3 (by decide), ⟨[(P, rv)], rfl, by simpa using hne ho (by decide), fun x hx => ?_⟩, h7.fr kp fun e => map_ne h7 h1 (show mb = tb from (show tb = mb from e).symm), h8.fr kp fun e => map_ne h8 h1 (show mb = rb from (show rb = mb from e).symm), h9, h10⟩, (FM.new k).trans (FM.of kp fun g _ e => .inl e)⟩
  · have := setCell_obj h1 (i := 2) v
    simpa [mkO] using this
  · rw [List.mem_singleton.1 hx]
    exact hne hr (by decide)
end Go.Proofs.Ytehaoiimhgkckaa
