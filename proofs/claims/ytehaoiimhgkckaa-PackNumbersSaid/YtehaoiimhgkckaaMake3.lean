/-
  Package symbols: term, at a new name.
-/
import Derived.Test.YtehaoiimhgkckaaMake2
import Derived.Test.YtehaoiimhgkckaaGramK
import Derived.Test.YtehaoiimhgkckaaOwnRows
namespace Go.Proofs.Ytehaoiimhgkckaa
open Go.RowKit Go.MapKept Go.ChangeMaps
set_option maxHeartbeats 400000

theorem mapKV_add (l : List (ByteArray × Int)) (s : ByteArray) (n : Int) : mapKV (l ++ [(s, n)]) = mapKV l ++ [(.string s, .int .i64 n)] := by simp [mapKV]
set_option maxRecDepth 100000 in
set_option maxHeartbeats 1000000 in
theorem term_new (M : Mst) (s ty : ByteArray) (w : World) (B mb tb rb : Nat) (h : Lies w B mb tb rb M) (hn : findN? M.tm s = none) (hl : M.syms.length ≤ 100000) (hB : B ≤ w.heap.size) :
    Calls Try.prog 87 #[.pointer (some ⟨mb, 0, none⟩), .string s, .string ty] w fun e w' => e = .returned (.int .i64 M.syms.length) ∧ Lies w' B mb tb rb (addT M s ty) ∧ FM B mb tb rb w w' := by
  obtain ⟨sv, pv, nv, h⟩ := h
  obtain ⟨i0, hi, hz0, hz1, hz2⟩ := info_parts Try.infoSym
  obtain ⟨va, vc, rfl, _⟩ := own_cells h.syms
  have hlk : ∀ c, (Instr.lookup 104 (.map (some tb)) (.string s) c).run Try.prog w = .ok (if c then .tuple #[.int .i64 0, .bool false] else .int .i64 0) w := by
    rcases h.tm.look (P := Try.prog) (t := 104) (k := .string s) Try.underlying104 Try.underlying9 trivial (z := .int .i64 0) (by kernel_rfl) with ⟨v, hv, _⟩ | ⟨_, hr⟩
    · exact absurd rfl (find_none hn _ hv)
    · exact hr
  have hlk := hlk true
  have c1 : w.cell? ⟨mb, 1, none⟩ = some (.slice va M.syms.length vc) := obj_cell h.obj 1 rfl
  have c3 : w.cell? ⟨mb, 3, none⟩ = some (.map (some tb)) := obj_cell h.obj 3 rfl
  have HM := Lib.hid h
  have HN := Lib.hid (find_none hn)
  clear h hn
  go_enter Try.func87, Try.ntmps87
  go_wp2_with (first | at_builtin; refine wpList_append_keep rfl _ _ 36 rfl B 65 i0 _ 4 48 Try.underlying36 hi hz0 hz1 hz2 rfl (by decide) _ _ _ rfl (HM.out.syms.alloc _) _ 1 1 (symCells ⟨s, ty, 0, 0⟩) rfl rfl (cells_add (cells_new_at (by simp) _ _ rfl _ _)) (by simp [symCells, Value.oneCell']) (by omega) (by unfold maxLen; omega) (by omega) (by simp; omega) ?_; intro v2 w2 hown2 hold2 hfr2 hwh2; obtain ⟨v2a, v2c, rfl, _⟩ := own_cells hown2; have hF2 : Fr (fun g => (Value.slice va M.syms.length vc).ownBlock = some g) w w2 := (Fr.alloc _ _).trans hfr2; have hg2 := hF2.obj HM.out.obj (fun e => own_ne HM.out.syms HM.out.obj (by decide) e); have f2 := obj_frozen hg2 1; have c21 : w2.cell? ⟨mb, 1, none⟩ = some (.slice va M.syms.length vc) := obj_cell hg2 1 rfl; have c23 : w2.cell? ⟨mb, 3, none⟩ = some (.map (some tb)) := obj_cell hg2 3 rfl; have hm2 := HM.out.tm.fr hF2 (map_own HM.out.tm HM.out.syms) | at_mapUpdate; refine wpList_store_new _ rfl _ _ _ 104 rfl 9 3 .string Try.underlying104 Try.underlying9 tb _ rfl (hm2.fr (Fr.setCell _ _ _) (fun e => map_ne HM.out.tm HM.out.obj e.symm)) _ _ rfl rfl trivial HN.out ?_; intro w3 hm3 hf3)
  go_ret
  have h := HM.out
  have hS := Fr.setCell w2 ⟨mb, 1, none⟩ (.slice v2a (M.syms.length + 1) v2c)
  have hT : Fr (fun g => (Value.slice va M.syms.length vc).ownBlock = some g ∨ g = mb ∨ g = tb) w w3 :=
    ((hF2.mono fun _ _ e => .inl e).trans (hS.mono fun _ _ e => .inr (.inl e))).trans (hf3.mono fun _ _ e => .inr (.inr e))
  have hmt : mb ≠ tb := map_ne h.tm h.obj
  have stay : ∀ {e size n : Nat} {u : Value} {xs : List Value}, w.ownsRow B e size u n xs → e ≠ 106 → (∀ g, (Value.slice va M.syms.length vc).ownBlock = some g → u.ownBlock = some g → False) → w3.ownsRow B e size u n xs := fun ho hne hs => own_fr ho hT fun g hg e => by
    rcases e with e | e | e
    · exact hs g e hg
    · exact own_ne ho h.obj hne (e ▸ hg)
    · exact map_own h.tm ho (e ▸ hg)
  refine ⟨rfl, ⟨.slice v2a (M.syms.length + 1) v2c, pv, nv, ?_, ?_, ?_, ?_, ?_, ?_, ?_, h.far⟩, ?_⟩
  · exact hf3.obj (setCell_obj hg2 _) hmt
  · have e1 : (addT M s ty).syms.flatMap symCells = M.syms.flatMap symCells ++ symCells ⟨s, ty, 0, 0⟩ := by simp [addT]
    have e2 : (addT M s ty).syms.length = M.syms.length + 1 := by simp [addT]
    rw [e1, e2]
    exact own_fr (own_fr hown2 hS fun g hg e => own_ne hown2 hg2 (by decide) (by rw [hg]; exact congrArg some e)) hf3 fun g hg e => map_own hm2 hown2 (by rw [hg]; exact congrArg some e)
  · exact stay h.named (by decide) h.sep
  · obtain ⟨xs, h1, h2, h3⟩ := h.prods
    exact ⟨xs, h1, stay h2 (by decide) (own_apart h.syms h2 (by decide)), fun x hx => stay (h3 x hx) (by decide) (own_apart h.syms (h3 x hx) (by decide))⟩
  · show IsMap w3 .string tb (mapKV (M.tm ++ [(s, (M.syms.length : Int))]))
    rw [mapKV_add]
    exact hm3
  · refine h.rm.fr hT ?_
    rintro (e | e | e)
    · exact map_own h.rm h.syms e
    · exact map_ne h.rm h.obj e.symm
    · exact h.far.2.2.2 e.symm
  · intro g hg hn
    have hlt := (own_kind h.named g hn).2
    obtain ⟨c, fz, hlt⟩ := hlt
    have hlt := (Array.getElem?_eq_some_iff.1 hlt).1
    rcases hwh2 with ⟨g', c', e1, e2⟩ | hnew
    · have e3 : Value.slice va M.syms.length vc = .slice (some ⟨g', 0, none⟩) M.syms.length c' := e1
      have e4 : Value.slice v2a (M.syms.length + 1) v2c = .slice (some ⟨g', 0, none⟩) (M.syms.length + 1) c' := e2
      rw [e4] at hg
      refine h.sep g ?_ hn
      rw [e3]
      exact hg
    · have := hnew g hg
      simp at this
      omega
  · refine FM.of hT fun g hg e => ?_
    rcases e with e | e | e
    · obtain ⟨h1, c, fz, h2⟩ := own_kind h.syms g e
      exact .inr (.inr (.inr ⟨h1, c, _, fz, h2, .inl rfl⟩))
    · exact .inl e
    · exact .inr (.inl e)
end Go.Proofs.Ytehaoiimhgkckaa
