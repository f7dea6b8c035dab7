/-
  Package symbols: token.
-/
import Derived.Test.YtehaoiimhgkckaaMake3
namespace Go.Proofs.Ytehaoiimhgkckaa
open Go.RowKit Go.MapKept Go.ChangeMaps
set_option maxHeartbeats 400000

/-- A declaration, and how it lies. -/
structure Dcl where
  kind : ByteArray
  type : ByteArray
  names : List ByteArray
  at_ : Int
def IsStrs (w : World) (v : Value) (l : List ByteArray) : Prop := Rows' v 1 (fun b o s => w.cell? ⟨b, o, none⟩ = some (.string s)) l
theorem IsStrs.fr {w w' : World} {v : Value} {l : List ByteArray} (h : IsStrs w v l) (k : Fr nothing w w') : IsStrs w' v l := Rows'.mono h fun _ _ _ h => k.cell h fun e => e
def IsDcl (w : World) (v : Value) (D : Dcl) : Prop := i64 D.at_ ∧ ∃ nv, IsStrs w nv D.names ∧ v = .agg #[.string D.kind, .string D.type, nv, .int .i64 D.at_]
theorem IsDcl.fr {w w' : World} {v : Value} {D : Dcl} (h : IsDcl w v D) (k : Fr nothing w w') : IsDcl w' v D := by
  obtain ⟨h1, nv, h2, h3⟩ := h
  exact ⟨h1, nv, h2.fr k, h3⟩
theorem Lies.new {w w' : World} {B mb tb rb : Nat} {M : Mst} (h : Lies w B mb tb rb M) (f : Fr nothing w w') : Lies w' B mb tb rb M := by
  obtain ⟨sv, pv, nv, h⟩ := h
  exact ⟨sv, pv, nv, h.new f⟩
/-- What a step of the making comes to. -/
def Res (B mb tb rb : Nat) (w : World) (v : Value) (M : Mst) (e : Ending) (w' : World) : Prop := FM B mb tb rb w w' ∧ e = .returned v ∧ Lies w' B mb tb rb M
def tokN (ty : ByteArray) : Mst → List ByteArray → Option Mst
  | M, [] => some M
  | M, s :: l => if oddG s then none else if (findN? M.tm s).isSome then none else tokN ty (addT M s ty) l
def dclO (kind type : ByteArray) (nv : Value) (at_ : Int) : Obj := .cells #[.string kind, .string type, nv, .int .i64 at_] 101 (0, 0)
theorem str_cases (s : ByteArray) (b : Bool) (h : decide (s = nNone) = b) : (s.toList == []) = b ∧ (s.toList != []) = !b := ⟨str_ilit s [] b h, str_nlit s [] b h⟩
theorem laid_at {w : World} {o : Obj} {b : Nat} (h : b = w.heap.size) : (w.alloc o).heap[b]? = some o := h ▸ alloc_obj w o
theorem sees {w0 w : World} {mb tb rb : Nat} {M : Mst} (hL : Lies w w0.heap.size mb tb rb M) {wr : World} (hf : FM w0.heap.size mb tb rb w wr) (h0 : Below w0.heap.size w0 w) : Below w0.heap.size w0 wr := by
  obtain ⟨_, _, _, h⟩ := hL
  exact h0.trans (hf.below h0.size h.far)
set_option maxRecDepth 100000 in
set_option maxHeartbeats 1000000 in
theorem token_ok (M M' : Mst) (D : Dcl) (v : Value) (w0 w : World) (mb tb rb : Nat) (hd : IsDcl w0 v D) (h0 : Below w0.heap.size w0 w) (h : Lies w w0.heap.size mb tb rb M) (hl : M.syms.length + D.names.length ≤ 100000)
    (hty : D.type ≠ nNone) (htd : typedG D.type = true) (hok : tokN D.type M D.names = some M') :
    Calls Try.prog 82 #[.pointer (some ⟨mb, 0, none⟩), v] w (Res w0.heap.size mb tb rb w (.tuple #[]) M') := by
  obtain ⟨kind, type, names, at_⟩ := D
  obtain ⟨hat, nv, hn, rfl⟩ := hd
  simp only at hat hn hl hok hty htd ⊢
  obtain ⟨hnl, na, nc, rfl, _, _, hx⟩ := hn
  have hB := h0.size
  have hm : mb < w.heap.size ∧ tb < w.heap.size ∧ rb < w.heap.size := by
    obtain ⟨_, _, _, h⟩ := h
    exact ⟨(Array.getElem?_eq_some_iff.1 h.obj).1, h.tm.lt, h.rm.lt⟩
  have HT := fun w => Lib.hid (htd ▸ typed_any type w)
  have HN := fun k b L w hb hl hL => Lib.hid (throw_none k at_ b L w hb hl hL)
  have HL := Lib.hid h
  have HX := Lib.hid hx
  have HK := Lib.hid hok
  obtain ⟨t1, t2⟩ := str_cases type false (by simpa using hty)
  clear h hx hok htd
  go_enter Try.func82, Try.ntmps82
  go_upto_region 1 with fail
  go_cut [] (fun wx => wx.heap[w.heap.size]? = some (dclO kind type (.slice na names.length nc) at_) ∧ Fr nothing w wx)
  case first =>
    go_region_with (first | (go_at_call 65; refine (HT _).out.mono ?_; rintro e w' ⟨rfl, rfl⟩) | (go_at_call 72; refine Calls.mono (HN 112 _ [false] _ ?_ (by simp) (by simp)).out ?_; exact laid_at (by simp); rintro e w' ⟨rfl, rfl⟩))
    all_goals
      try go_wp2
      go_meet
      exact ⟨alloc_older (alloc_obj _ _), ((Fr.alloc _ _).trans (Fr.alloc _ _)).trans (Fr.drew _)⟩
  case rest =>
  obtain ⟨hbox, hfr⟩ := hcut
  have HF := Lib.hid hfr
  have HBX := Lib.hid hbox
  have hb2 : wc.cell? ⟨w.heap.size, 2, none⟩ = some (.slice na names.length nc) := obj_cell hbox 2 rfl
  clear hbox hfr
  go_wp2
  go_loopw [24] (fun i wr => ∃ (k : Nat) (Mk : Mst), k ≤ names.length ∧ i = .int .i64 k ∧ Lies wr w0.heap.size mb tb rb Mk ∧ FM w0.heap.size mb tb rb w wr ∧ wr.heap[w.heap.size]? = some (dclO kind type (.slice na names.length nc) at_) ∧ tokN type Mk (names.drop k) = some M' ∧ Mk.syms.length + (names.length - k) ≤ 100000) (fun i _ => names.length - (intOf i).toNat)
  case atStart =>
    refine ⟨0, M, Nat.zero_le _, rfl, ?_, FM.new HF.out, HBX.out, HK.out, hl⟩
    obtain ⟨sv, pv, nv, h⟩ := HL.out
    exact ⟨sv, pv, nv, h.new HF.out⟩
  case round =>
    obtain ⟨k, Mk, hk, rfl, hLk, hFk, hbk, hok, hlk⟩ := hrel
    clear HF HBX hb2
    have hsz := Fr.size hFk
    have hb0 := sees HL.out hFk h0
    by_cases hlt : k < names.length
    · rw [List.drop_eq_getElem_cons hlt] at hok
      obtain ⟨b, o, rfl, hcs⟩ := HX.out.resolve_left (fun e => by rw [e] at hlt; simp at hlt)
      have c0 : wr.cell? ⟨b, o + k, none⟩ = some (.string names[k]) := (Fr.new hb0).cell (by simpa using hcs k hlt) fun e => e
      generalize names[k] = s at *
      obtain ⟨ho, hn, hok⟩ : oddG s = false ∧ findN? Mk.tm s = none ∧ tokN type (addT Mk s type) (names.drop (k + 1)) = some M' := by
        unfold tokN at hok
        split at hok
        · cases hok
        · split at hok
          · cases hok
          · rename_i h1 h2
            exact ⟨by simpa using h1, by simpa using h2, hok⟩
      obtain ⟨sv, pv, nv, hMk⟩ := id hLk
      have hmap : (Instr.lookup 104 (.map (some tb)) (.string s) true).run Try.prog wr = .ok (.tuple #[.int .i64 0, .bool false]) wr := by
        rcases hMk.tm.look (P := Try.prog) (t := 104) (k := .string s) Try.underlying104 Try.underlying9 trivial (z := .int .i64 0) (by kernel_rfl) with ⟨v, hv, _⟩ | ⟨_, hr⟩
        · exact absurd rfl (find_none hn _ hv)
        · exact hr true
      have c3 : wr.cell? ⟨mb, 3, none⟩ = some (.map (some tb)) := obj_cell hMk.obj 3 rfl
      have hb3 : wr.cell? ⟨w.heap.size, 3, none⟩ = some (.int .i64 at_) := obj_cell hbk 3 rfl
      have hb3a : ∀ o', (wr.alloc o').cell? ⟨w.heap.size, 3, none⟩ = some (.int .i64 at_) := fun o' => obj_cell (alloc_older hbk) 3 rfl
      have HO1 := fun w => Lib.hid (ho ▸ odd_any s w)
      have HLk := Lib.hid (And.intro hLk (And.intro hFk hbk))
      clear hMk hLk hFk hbk HX hcs
      go_upto_region 6 with fail
      go_cut [] (fun wx => Fr nothing wr wx)
      case first =>
        go_region_with (first | (go_at_call 84; refine (HO1 _).out.mono ?_; rintro e w' ⟨rfl, rfl⟩) | (go_at_call 72; refine Calls.mono (HN 302 _ [false] _ ?_ (by simp) (by simp)).out ?_; exact laid_at (by simp); rintro e w' ⟨rfl, rfl⟩))
        all_goals
          try go_wp2
          go_meet
          exact (Fr.alloc _ _).trans (Fr.drew _)
      case rest =>
      have hbc := hcut.obj HLk.out.2.2 fun e => e
      have q1 : wc.cell? ⟨w.heap.size, 1, none⟩ = some (.string type) := obj_cell hbc 1 rfl
      have q3 : wc.cell? ⟨w.heap.size, 3, none⟩ = some (.int .i64 at_) := obj_cell hbc 3 rfl
      have q1a : ∀ o', (wc.alloc o').cell? ⟨w.heap.size, 1, none⟩ = some (.string type) := fun o' => obj_cell (alloc_older hbc) 1 rfl
      have HTM := fun (W : World) (hf : Fr nothing wc W) => Lib.hid (term_new Mk s type W w0.heap.size mb tb rb (HLk.out.1.new (hcut.trans hf)) hn (by omega) (by have := hf.size; have := hcut.size; omega))
      have HC := Lib.hid (And.intro hcut hbc)
      clear hcut hbc hmap c3 hb3 hb3a c0
      go_wp2_with (first | (go_at_call 72; refine Calls.mono (HN 110 _ [false] _ ?_ (by simp) (by simp)).out ?_; exact laid_at (by simp); rintro e w' ⟨rfl, rfl⟩) | (go_at_call 87; refine (HTM _ (Fr.alloc _ _)).out.mono ?_; rintro e w' ⟨rfl, hL2, hF2⟩))
      go_roundw
      case rel =>
        have hFa : Fr nothing wr (wc.alloc (boolsObj [false])) := HC.out.1.trans (Fr.alloc _ _)
        refine ⟨k + 1, addT Mk s type, by omega, by simp, hL2, HLk.out.2.1.trans ((FM.new hFa).trans hF2), hF2.keep (alloc_older HC.out.2) (by omega) (by omega) (by omega) (by decide) (by decide), hok, ?_⟩
        simp only [addT, List.length_append, List.length_singleton]
        omega
      case measure => simp [intOf]; omega
    · obtain rfl : k = names.length := by omega
      rw [List.drop_length] at hok
      simp only [tokN, Option.some.injEq] at hok
      subst hok
      have HR := Lib.hid (And.intro hFk hLk)
      clear hlt hLk hFk hbk HX
      go_wp2
      go_end0
      exact ⟨HR.out.1, rfl, HR.out.2⟩
end Go.Proofs.Ytehaoiimhgkckaa
