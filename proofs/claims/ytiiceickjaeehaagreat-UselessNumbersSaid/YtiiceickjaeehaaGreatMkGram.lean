/-
  A grammar that a statement makes: grammar (of the statements on useless). First its symbols.
-/
import Derived.Test.YtiiceickjaeehaaGreatOwn
import Derived.Test.YtiiceickjaeehaaGreatUse7
import Derived.Laws.BytesArg
import Derived.Deep.RegionLaw
import Derived.Deep.AppendLies
namespace Go.Proofs.YtiiceickjaeehaaGreat
open Go.RowKit
set_option maxHeartbeats 400000

def twoB (k : Nat) : ByteArray := ⟨#[UInt8.ofNat (97 + k % 26), UInt8.ofNat (97 + k / 26)]⟩
def letters (c : UInt8) (i : Nat) : ByteArray := ⟨#[c]⟩ ++ twoB i
def tSym (i : Nat) : Sym := ⟨letters 84 i, nNone, 0, 0⟩
def rSym (i : Nat) : Sym := ⟨letters 114 i, nNone, 0, 0⟩
def eSym : Sym := ⟨nEnd, nNone, 0, 0⟩
def aSym : Sym := ⟨nAccept, nNone, 0, 0⟩
def tSyms (k : Nat) : List Sym := eSym :: (List.range k).map tSym
def rSyms (t k : Nat) : List Sym := tSyms t ++ aSym :: (List.range k).map rSym
def mkNum (t : Nat) (x : Int) : Int := if x < 0 then -x else (t : Int) + 2 + x
def mkPrd (t : Nat) (l : List Int) : Prd := ⟨(t : Int) + 2 + l.headD 0, l.tail.map (mkNum t), -1, false, nNone, 0⟩
def aPrd (t : Nat) : Prd := ⟨(t : Int) + 1, [(t : Int) + 2], -1, false, nNone, 0⟩
def mkGram (t r : Nat) (ps : List (List Int)) : Gram := ⟨(t : Int) + 1, rSyms t r, aPrd t :: ps.map (mkPrd t)⟩

/-- Rows of numbers. -/
def IntRows (w : World) (v : Value) (ps : List (List Int)) : Prop := Rows' v 1 (fun b o (l : List Int) => ∃ r, Ints w r l ∧ w.cell? ⟨b, o, none⟩ = some r) ps
theorem IntRows.fr {w w' : World} {v : Value} {ps : List (List Int)} (h : IntRows w v ps) (k : Fr nothing w w') : IntRows w' v ps := Rows'.mono h fun _ _ _ ⟨r, h1, h2⟩ => ⟨r, h1.fr k, k.cell h2 fun e => e⟩

/-- A list of one's own lies nowhere else. -/
theorem own_ne {w : World} {B e size n b : Nat} {v : Value} {xs : List Value} {cs : Array Value} {t : TypeId} {f : Nat × Nat} (h : w.ownsRow B e size v n xs) (hb : w.heap[b]? = some (.cells cs t f)) (hne : e ≠ t) : v.ownBlock ≠ some b := fun hv => by
  obtain ⟨_, h2⟩ := h
  rcases h2 with ⟨rfl, _⟩ | ⟨g, cap, cur, rfl, _, hg, _⟩
  · cases hv
  · simp only [Value.ownBlock, Option.some.injEq] at hv
    subst hv
    rw [hb] at hg
    simp only [Option.some.injEq, Obj.cells.injEq] at hg
    exact hne hg.2.1.symm
theorem own_apart {w : World} {B e size n B' e' size' n' : Nat} {v v' : Value} {xs xs' : List Value} (h : w.ownsRow B e size v n xs) (h' : w.ownsRow B' e' size' v' n' xs') (hne : e ≠ e') : ∀ g, v.ownBlock = some g → v'.ownBlock = some g → False := fun g hv hv' => by
  obtain ⟨_, h2⟩ := h'
  rcases h2 with ⟨rfl, _⟩ | ⟨g', cap, cur, rfl, _, hg, _⟩
  · cases hv'
  · simp only [Value.ownBlock, Option.some.injEq] at hv'
    subst hv'
    exact own_ne h hg hne hv
/-- A list that a literal lays. -/
theorem own_laid {w : World} {B e size g n : Nat} {cs : Array Value} (hg : w.heap[g]? = some (.cells cs e (0, 0))) (hb : B ≤ g) (hs : cs.size = n * size) (hn : n ≤ maxLen) : w.ownsRow B e size (.slice (some ⟨g, 0, none⟩) n n) n cs.toList :=
  ⟨by simpa using hs, .inr ⟨g, n, cs, rfl, hb, hg, Nat.le_refl _, hn, hs, by rw [List.take_of_length_le (by simp; omega)]⟩⟩

def gBox (t : Nat) (s p : Value) : Obj := .cells #[.int .i64 ((t : Int) + 1), s, p] 25 (0, 0)
def zBox : Obj := .cells #[.int .i64 0, .slice none 0 0, .slice none 0 0] 25 (0, 0)
/-- What stands while a grammar is made: the answer's place, the grammar's own. -/
def MkG (w wr : World) (t : Nat) (s p : Value) : Prop := wr.heap[w.heap.size]? = some zBox ∧ wr.heap[w.heap.size + 2]? = some (gBox t s p) ∧ Below w.heap.size w wr

/-- The place of a production that is made. -/
def pBox (l : Int) (v : Value) : Obj := .cells #[.int .i64 l, v, .int .i64 (-1), .bool false, .string ⟨#[]⟩, .int .i64 0] 44 (0, 0)
theorem mkg_prods {w wr : World} {t : Nat} {s p : Value} (h : MkG w wr t s p) (o o' : Obj) (p2 : Value) : MkG w (((wr.alloc o).alloc o').setCell ⟨w.heap.size + 2, 2, none⟩ p2) t s p2 := by
  obtain ⟨h1, h2, h3⟩ := h
  have hS := Fr.setCell ((wr.alloc o).alloc o') ⟨w.heap.size + 2, 2, none⟩ p2
  refine ⟨hS.obj (alloc_older (alloc_older h1)) (by unfold only; simp), setCell_obj (alloc_older (alloc_older h2)) _, ((h3.alloc h3.size _).alloc (by simp; have := h3.size; omega) _).trans (hS.below (by simp; have := h3.size; omega) fun g e => ?_)⟩
  have e' : g = w.heap.size + 2 := e
  omega
theorem two_conv (k : Nat) (w : World) : (convert 91 9 (.slice (some ⟨w.heap.size, 0, none⟩) 2 2)).run Tryz.prog (w.alloc (.cells #[.int .u8 (97 + (k : Int) % 26), .int .u8 (97 + (k : Int) / 26)] 5)) =
    .ok (.string (twoB k)) (w.alloc (.cells #[.int .u8 (97 + (k : Int) % 26), .int .u8 (97 + (k : Int) / 26)] 5)) := by
  have h := run_convert_bytes_arg (P := Tryz.prog) (w.alloc (.cells #[.int .u8 (97 + (k : Int) % 26), .int .u8 (97 + (k : Int) / 26)] 5)) 91 5 Tryz.underlying91 Tryz.underlying5 w.heap.size 0 2 2 [97 + (k : Int) % 26, 97 + (k : Int) / 26] rfl
    (fun i hi => by
      have ho := alloc_obj w (.cells #[.int .u8 (97 + (k : Int) % 26), .int .u8 (97 + (k : Int) / 26)] 5)
      rcases i with _ | _ | i
      · exact obj_cell ho 0 rfl
      · exact obj_cell ho 1 rfl
      · omega) 9 Tryz.underlying9
  have e : strOfNums [97 + (k : Int) % 26, 97 + (k : Int) / 26] = twoB k := by
    have h1 : (97 + (k : Int) % 26).toNat = 97 + k % 26 := by omega
    have h2 : (97 + (k : Int) / 26).toNat = 97 + k / 26 := by omega
    simp only [strOfNums, twoB, List.map_cons, List.map_nil, h1, h2]
  rw [e] at h
  exact h

set_option maxRecDepth 100000 in
set_option maxHeartbeats 4000000 in
theorem grammar_any (t r : Nat) (ps : List (List Int)) (v : Value) (w : World) (ht : t ≤ 100) (hr : r ≤ 100) (h : IntRows w v ps) (hne : ∀ l ∈ ps, l ≠ []) (hps : ps.length ≤ 100000) (hpl : ∀ l ∈ ps, l.length ≤ 100000) (hpx : ∀ l ∈ ps, ∀ x ∈ l, -100000 ≤ x ∧ x ≤ 100000) :
    Calls Tryz.prog 18 #[.int .i64 t, .int .i64 r, v] w fun e w' => ∃ g, e = .returned g ∧ IsGram w' g (mkGram t r ps) ∧ Below w.heap.size w w' := by
  obtain ⟨hlen, pa, pc, rfl, _, _, _⟩ := id h
  obtain ⟨i0, hi, hz0, hz1, hz2⟩ := info_parts Tryz.infoSym
  obtain ⟨j0, ji, jz0, jz1, jz2⟩ := info_parts Tryz.infoPrd
  obtain ⟨k0, ki, kz0, kz1, kz2⟩ := info_parts Tryz.infoInt'
  have HIN := Lib.hid h
  have HX := Lib.hid (And.intro hne (And.intro hpl hpx))
  clear h hne hpl hpx
  have hsz : ∀ (w : World) o, (w.alloc o).heap.size = w.heap.size + 1 := fun _ _ => by simp
  go_enter Tryz.func18, Tryz.ntmps18
  go_upto_region 2 with fail
  refine wp_atW (F := fun W => MkG w W t (.slice (some ⟨w.heap.size + 1, 0, none⟩) 1 1) (.slice none 0 0) ∧ W.ownsRow w.heap.size 42 4 (.slice (some ⟨w.heap.size + 1, 0, none⟩) 1 1) 1 ((tSyms 0).flatMap symCells)) ?_ ?_
  · refine ⟨⟨?_, ?_, ?_⟩, ?_⟩
    · exact alloc_older (alloc_older (alloc_obj _ _))
    · have := alloc_obj ((w.alloc (Obj.cells #[.int .i64 0, .slice none 0 0, .slice none 0 0] 25 (0, 0))).alloc (Obj.cells (symCells eSym).toArray 42 (0, 0))) (gBox t (.slice (some ⟨w.heap.size + 1, 0, none⟩) 1 1) (.slice none 0 0))
      rw [hsz, hsz] at this
      exact this
    · exact (((Below.refl _ w).alloc (Nat.le_refl _) _).alloc (by simp) _).alloc (by simp; omega) _
    · have := alloc_obj (w.alloc (Obj.cells #[.int .i64 0, .slice none 0 0, .slice none 0 0] 25 (0, 0))) (Obj.cells (symCells eSym).toArray 42 (0, 0))
      rw [hsz] at this
      exact own_laid (alloc_older this) (Nat.le_succ _) rfl (by unfold maxLen; omega)
  intro W ⟨hM, hown⟩
  have HM := Lib.hid hM
  have HO := Lib.hid hown
  clear hM hown
  go_wp2
  go_loopw [8] (fun i wr => ∃ (k : Nat) (v : Value), k ≤ t ∧ i = .int .i64 k ∧ MkG w wr t v (.slice none 0 0) ∧ wr.ownsRow w.heap.size 42 4 v (k + 1) ((tSyms k).flatMap symCells)) (fun i _ => t - (intOf i).toNat)
  case atStart => exact ⟨0, _, Nat.zero_le _, rfl, HM.out, HO.out⟩
  case round =>
    obtain ⟨k, v, hk, rfl, hM, hown⟩ := hrel
    clear HM HO
    obtain ⟨va, vc, rfl, _⟩ := own_cells hown
    obtain ⟨hz, hg, hB⟩ := hM
    have HZ := Lib.hid (And.intro hz (And.intro hg hB))
    have HO := Lib.hid hown
    have hs := hB.size
    by_cases hlt : k < t
    · have c1 : wr.cell? ⟨w.heap.size + 2, 1, none⟩ = some (.slice va (k + 1) vc) := obj_cell hg 1 rfl
      have hconv := two_conv k wr
      have hnl : ¬ 9223372036854775807 < 1 + (twoB k).size := by rw [show (twoB k).size = 2 from rfl]; omega
      clear hz hg hB hown
      go_wp2_with (at_builtin; refine wpList_append_any rfl _ _ 22 rfl w.heap.size 42 i0 _ 4 48 Tryz.underlying22 hi hz0 hz1 hz2 rfl (by decide) _ _ _ rfl ((HO.out.alloc _).alloc _) _ 1 1 (symCells (tSym k)) rfl rfl (.inr ⟨_, rfl, cells_add (cells_new_at (by simp) _ _ rfl _ _)⟩) (by simp [symCells, Value.oneCell']) (by unfold maxLen; omega) (by omega) (by simp; omega) ?_; intro v2 w2 hown2 hgrow2; obtain ⟨v2a, v2c, rfl, _⟩ := own_cells hown2; have hF2 : Fr (fun g => (Value.slice va (k + 1) vc).ownBlock = some g) wr w2 := ((Fr.alloc _ _).trans (Fr.alloc _ _)).trans (Fr.grown hgrow2); have hg2 := hF2.obj HZ.out.2.1 (fun e => own_ne HO.out HZ.out.2.1 (by decide) e); have f2 := obj_frozen hg2 1; have c2 : w2.cell? ⟨w.heap.size + 2, 1, none⟩ = some (.slice va (k + 1) vc) := obj_cell hg2 1 rfl)
      go_roundw
      case rel =>
        have hz2 := hF2.obj HZ.out.1 (fun e => own_ne HO.out HZ.out.1 (by decide) e)
        have hS := Fr.setCell w2 ⟨w.heap.size + 2, 1, none⟩ (.slice v2a (k + 1 + 1) v2c)
        refine ⟨k + 1, _, by omega, by simp, ⟨hS.obj hz2 (by unfold only; simp), setCell_obj hg2 _, ?_⟩, own_fr (v := .slice v2a (k + 1 + 1) v2c) ?_ hS fun g e e2 => own_ne hown2 hg2 (by decide) (e.trans (congrArg some (show g = w.heap.size + 2 from e2)))⟩
        · exact (HZ.out.2.2.trans (hF2.below hs fun g e => by have := (HO.out.lt g e).1; omega)).trans (hS.below (by have := hF2.size; omega) fun g e => by have e' : g = w.heap.size + 2 := e; omega)
        · have : (tSyms (k + 1)).flatMap symCells = (tSyms k).flatMap symCells ++ symCells (tSym k) := by simp [tSyms, List.range_succ]
          rw [this]
          exact hown2
      case measure => simp [intOf]; omega
    · obtain rfl : k = t := by omega
      have c1 : wr.cell? ⟨w.heap.size + 2, 1, none⟩ = some (.slice va (k + 1) vc) := obj_cell hg 1 rfl
      clear hz hg hB hown hlt
      go_upto_region 7 with (at_builtin; refine wpList_append_any rfl _ _ 22 rfl w.heap.size 42 i0 _ 4 48 Tryz.underlying22 hi hz0 hz1 hz2 rfl (by decide) _ _ _ rfl (HO.out.alloc _) _ 1 1 (symCells aSym) rfl rfl (.inr ⟨_, rfl, cells_add (cells_new_at (by simp) _ _ rfl _ _)⟩) (by simp [symCells, Value.oneCell']) (by unfold maxLen; omega) (by omega) (by simp; omega) ?_; intro v2 w2 hown2 hgrow2; obtain ⟨v2a, v2c, rfl, _⟩ := own_cells hown2; have hF2 : Fr (fun g => (Value.slice va (k + 1) vc).ownBlock = some g) wr w2 := (Fr.alloc _ _).trans (Fr.grown hgrow2); have hg2 := hF2.obj HZ.out.2.1 (fun e => own_ne HO.out HZ.out.2.1 (by decide) e); have f2 := obj_frozen hg2 1; have c2 : w2.cell? ⟨w.heap.size + 2, 1, none⟩ = some (.slice va (k + 1) vc) := obj_cell hg2 1 rfl)
      refine wp_atW (F := fun W => MkG w W k (.slice v2a (k + 1 + 1) v2c) (.slice none 0 0) ∧ W.ownsRow w.heap.size 42 4 (.slice v2a (k + 1 + 1) v2c) (k + 1 + 1) ((rSyms k 0).flatMap symCells)) ?_ ?_
      · have hz2 := hF2.obj HZ.out.1 (fun e => own_ne HO.out HZ.out.1 (by decide) e)
        have hS := Fr.setCell w2 ⟨w.heap.size + 2, 1, none⟩ (.slice v2a (k + 1 + 1) v2c)
        refine ⟨⟨hS.obj hz2 (by unfold only; simp), setCell_obj hg2 _, ?_⟩, own_fr (v := .slice v2a (k + 1 + 1) v2c) ?_ hS fun g e e2 => own_ne hown2 hg2 (by decide) (e.trans (congrArg some (show g = w.heap.size + 2 from e2)))⟩
        · exact (HZ.out.2.2.trans (hF2.below hs fun g e => by have := (HO.out.lt g e).1; omega)).trans (hS.below (by have := hF2.size; omega) fun g e => by have e' : g = w.heap.size + 2 := e; omega)
        · have : (rSyms k 0).flatMap symCells = (tSyms k).flatMap symCells ++ symCells aSym := by simp [rSyms]
          rw [this]
          exact hown2
      intro W2 ⟨hM, hown⟩
      clear hown2 hgrow2 hF2 hg2 f2 c2 HZ HO hs c1
      have HM := Lib.hid hM
      have HO := Lib.hid hown
      clear hM hown
      go_wp2
      go_loopw [9] (fun i wq => ∃ (j : Nat) (v : Value), j ≤ r ∧ i = .int .i64 j ∧ MkG w wq k v (.slice none 0 0) ∧ wq.ownsRow w.heap.size 42 4 v (k + 1 + 1 + j) ((rSyms k j).flatMap symCells)) (fun i _ => r - (intOf i).toNat)
      case atStart => exact ⟨0, _, Nat.zero_le _, rfl, HM.out, HO.out⟩
      case round =>
        obtain ⟨j, v, hj, rfl, hM, hown⟩ := hrel
        clear HM HO W2 W
        obtain ⟨va, vc, rfl, _⟩ := own_cells hown
        obtain ⟨hz, hg, hB⟩ := hM
        have HZ := Lib.hid (And.intro hz (And.intro hg hB))
        have HO := Lib.hid hown
        have hs := hB.size
        by_cases hlt : j < r
        · have c1 : wr.cell? ⟨w.heap.size + 2, 1, none⟩ = some (.slice va (k + 1 + 1 + j) vc) := obj_cell hg 1 rfl
          have hconv := two_conv j wr
          have hnl : ¬ 9223372036854775807 < 1 + (twoB j).size := by rw [show (twoB j).size = 2 from rfl]; omega
          clear hz hg hB hown
          go_wp2_with (at_builtin; refine wpList_append_any rfl _ _ 22 rfl w.heap.size 42 i0 _ 4 48 Tryz.underlying22 hi hz0 hz1 hz2 rfl (by decide) _ _ _ rfl ((HO.out.alloc _).alloc _) _ 1 1 (symCells (rSym j)) rfl rfl (.inr ⟨_, rfl, cells_add (cells_new_at (by simp) _ _ rfl _ _)⟩) (by simp [symCells, Value.oneCell']) (by unfold maxLen; omega) (by omega) (by simp; omega) ?_; intro v2 w2 hown2 hgrow2; obtain ⟨v2a, v2c, rfl, _⟩ := own_cells hown2; have hF2 : Fr (fun g => (Value.slice va (k + 1 + 1 + j) vc).ownBlock = some g) wr w2 := ((Fr.alloc _ _).trans (Fr.alloc _ _)).trans (Fr.grown hgrow2); have hg2 := hF2.obj HZ.out.2.1 (fun e => own_ne HO.out HZ.out.2.1 (by decide) e); have f2 := obj_frozen hg2 1; have c2 : w2.cell? ⟨w.heap.size + 2, 1, none⟩ = some (.slice va (k + 1 + 1 + j) vc) := obj_cell hg2 1 rfl)
          go_roundw
          case rel =>
            have hz2 := hF2.obj HZ.out.1 (fun e => own_ne HO.out HZ.out.1 (by decide) e)
            have hS := Fr.setCell w2 ⟨w.heap.size + 2, 1, none⟩ (.slice v2a (k + 1 + 1 + j + 1) v2c)
            refine ⟨j + 1, _, by omega, by simp, ⟨hS.obj hz2 (by unfold only; simp), setCell_obj hg2 _, ?_⟩, own_fr (v := .slice v2a (k + 1 + 1 + j + 1) v2c) ?_ hS fun g e e2 => own_ne hown2 hg2 (by decide) (e.trans (congrArg some (show g = w.heap.size + 2 from e2)))⟩
            · exact (HZ.out.2.2.trans (hF2.below hs fun g e => by have := (HO.out.lt g e).1; omega)).trans (hS.below (by have := hF2.size; omega) fun g e => by have e' : g = w.heap.size + 2 := e; omega)
            · have : (rSyms k (j + 1)).flatMap symCells = (rSyms k j).flatMap symCells ++ symCells (rSym j) := by simp [rSyms, List.range_succ]
              rw [this]
              exact hown2
          case measure => simp [intOf]; omega
        · obtain rfl : j = r := by omega
          have g2 : ∀ o o' : Obj, ((wr.alloc o).alloc o').heap[w.heap.size + 2]? = some (gBox k (.slice va (k + 1 + 1 + j) vc) (.slice none 0 0)) := fun o o' => alloc_older (alloc_older hg)
          have c2 : ∀ o o' : Obj, ((wr.alloc o).alloc o').cell? ⟨w.heap.size + 2, 2, none⟩ = some (.slice none 0 0) := fun o o' => obj_cell (g2 o o') 2 rfl
          have f2 : ∀ o o' : Obj, ((wr.alloc o).alloc o').frozen? ⟨w.heap.size + 2, 2, none⟩ = false := fun o o' => obj_frozen (g2 o o') 2
          have HZM := Lib.hid (show MkG w wr k (.slice va (k + 1 + 1 + j) vc) (.slice none 0 0) from ⟨hz, hg, hB⟩)
          have hgs : w.heap.size + 2 < wr.heap.size := (Array.getElem?_eq_some_iff.1 hg).1
          clear hz hg hB hown hlt g2
          go_upto_region 12 with fail
          refine wp_atW (F := fun W => MkG w W k (.slice va (k + 1 + 1 + j) vc) (.slice (some ⟨wr.heap.size + 1, 0, none⟩) 1 1) ∧ W.ownsRow w.heap.size 42 4 (.slice va (k + 1 + 1 + j) vc) (k + 1 + 1 + j) ((rSyms k j).flatMap symCells) ∧
            W.ownsRow w.heap.size 44 6 (.slice (some ⟨wr.heap.size + 1, 0, none⟩) 1 1) 1 (cellsP (aPrd k, .slice (some ⟨wr.heap.size, 0, none⟩) 1 1)) ∧ W.ownsRow w.heap.size 3 1 (.slice (some ⟨wr.heap.size, 0, none⟩) 1 1) 1 [.int .i64 ((k : Int) + 2)]) ?_ ?_
          · have hS := fun (X : World) p2 => Fr.setCell X ⟨w.heap.size + 2, 2, none⟩ p2
            refine ⟨mkg_prods HZM.out _ _ _, own_fr ((HO.out.alloc _).alloc _) (hS _ _) fun g e e2 => own_ne HO.out HZ.out.2.1 (by decide) (e.trans (congrArg some (show g = w.heap.size + 2 from e2))), ?_, ?_⟩
            · have h1 := alloc_obj (wr.alloc (Obj.cells #[.int .i64 ((k : Int) + 2)] 3 (0, 0))) (Obj.cells (cellsP (aPrd k, .slice (some ⟨wr.heap.size, 0, none⟩) 1 1)).toArray 44 (0, 0))
              rw [hsz] at h1
              exact own_fr (own_laid h1 (by omega) rfl (by unfold maxLen; omega)) (hS _ _) fun g e e2 => by
                have e' : g = w.heap.size + 2 := e2
                simp only [Value.ownBlock, Option.some.injEq] at e
                omega
            · have h1 := alloc_obj wr (Obj.cells #[.int .i64 ((k : Int) + 2)] 3 (0, 0))
              exact own_fr (own_laid (alloc_older h1) hs rfl (by unfold maxLen; omega)) (hS _ _) fun g e e2 => by
                have e' : g = w.heap.size + 2 := e2
                simp only [Value.ownBlock, Option.some.injEq] at e
                omega
          intro W2 ⟨hM, hown, hp, hr2⟩
          clear HO HZ c2 f2 hgs hs
          have HM := Lib.hid hM
          have HO := Lib.hid hown
          have HP := Lib.hid hp
          have HR := Lib.hid hr2
          clear hM hown hp hr2
          have hxs0 : [(aPrd k, Value.slice (some ⟨wr.heap.size, 0, none⟩) 1 1)].map Prod.fst = aPrd k :: (ps.take 0).map (mkPrd k) := rfl
          generalize hP0 : (Value.slice (some ⟨wr.heap.size + 1, 0, none⟩) 1 1) = P0 at *
          generalize hR0 : (Value.slice (some ⟨wr.heap.size, 0, none⟩) 1 1) = R0 at *
          clear hP0 hR0 HZM
          generalize wr = wz at *
          go_wp2
          go_loopw [10, 11, 12] (fun i _ _ wq => ∃ (m : Nat) (p : Value) (xs : List (Prd × Value)), m ≤ ps.length ∧ i = .int .i64 m ∧ MkG w wq k (.slice va (k + 1 + 1 + j) vc) p ∧ wq.ownsRow w.heap.size 42 4 (.slice va (k + 1 + 1 + j) vc) (k + 1 + 1 + j) ((rSyms k j).flatMap symCells) ∧
            wq.ownsRow w.heap.size 44 6 p (m + 1) (xs.flatMap cellsP) ∧ xs.map Prod.fst = aPrd k :: (ps.take m).map (mkPrd k) ∧ ∀ x ∈ xs, wq.ownsRow w.heap.size 3 1 x.2 x.1.right.length (x.1.right.map (Value.int .i64))) (fun i _ _ _ => ps.length - (intOf i).toNat)
          case atStart => exact ⟨0, P0, [(aPrd k, R0)], Nat.zero_le _, rfl, HM.out, HO.out, HP.out, hxs0, fun x hx => by rw [List.mem_singleton.1 hx]; exact HR.out⟩
          case round =>
            obtain ⟨m, p, xs, hm, rfl, hM, hown, hp, hxs, hxo⟩ := hrel
            clear HM HO HP HR hxs0
            have HM := Lib.hid (And.intro hM (And.intro hown (And.intro hp (And.intro hxs hxo))))
            by_cases hlt : m < ps.length
            · obtain ⟨b, o, rfl, hrow⟩ : ∃ b o, pa = some ⟨b, o, none⟩ ∧ ∀ i, (h : i < ps.length) → ∃ r, Ints w r ps[i] ∧ w.cell? ⟨b, o + i * 1, none⟩ = some r := by
                obtain ⟨_, a', c', hv, _, _, hx⟩ := HIN.out
                simp only [Value.slice.injEq] at hv
                obtain ⟨rfl, -, rfl⟩ := hv
                rcases hx with rfl | hx
                · simp at hlt
                · exact hx
              obtain ⟨rv, hri, hrc⟩ := hrow m hlt
              have hmem := List.getElem_mem hlt
              have hX1 := HX.out.1 _ hmem
              have hX2 := HX.out.2.1 _ hmem
              have hX3 := HX.out.2.2 _ hmem
              have htk : ps.take (m + 1) = ps.take m ++ [ps[m]] := by rw [List.take_add_one, List.getElem?_eq_getElem hlt]; rfl
              clear hrow hmem
              generalize ps[m] = l at *
              cases l with
              | nil => exact absurd rfl hX1
              | cons l0 tl =>
                obtain ⟨_, _, ra, rc, rfl, hrc1, hrc2, hrx⟩ := hri
                obtain ⟨b2, o2, rfl, hcl⟩ : ∃ b2 o2, ra = some ⟨b2, o2, none⟩ ∧ Cells w b2 o2 ((l0 :: tl).map (Value.int .i64)) := by
                  rcases hrx with hrx | hrx
                  · cases hrx
                  · exact hrx
                rw [Nat.mul_one] at hrc
                have hBw := hM.2.2
                have r0 := (Fr.new hBw).cell hrc fun e => e
                have r1 := (Fr.new hBw).cell (hcl 0 (by simp)) fun e => e
                simp only [List.length_cons, List.map_cons, List.getElem_cons_zero, Nat.add_zero] at r0 r1 hX2
                have hl0 := hX3 l0 (.head _)
                have htx : ∀ x ∈ tl, -100000 ≤ x ∧ x ≤ 100000 := fun x hx => hX3 x (.tail _ hx)
                have hs := hBw.size
                have HR := Lib.hid (And.intro hrc (And.intro hcl (And.intro htk htx)))
                have HBW := Lib.hid hBw
                clear hrc hrx hcl htk hX1 hX3 hM hown hp hxs hxo hBw htx
                go_upto_region 16 with fail
                refine wp_atW (F := fun W => W.heap[wr.heap.size]? = some (pBox ((k : Int) + 2 + l0) (.slice none 0 0)) ∧ Below wr.heap.size wr W) ?_ ?_
                · exact ⟨alloc_obj _ _, (Below.refl _ _).alloc (Nat.le_refl _) _⟩
                intro W3 ⟨hpb, hB3⟩
                have HPB := Lib.hid hpb
                have HB3 := Lib.hid hB3
                clear hpb hB3 r0 r1
                generalize wr = wA at *
                go_wp2
                go_loopw [12] (fun i wq => ∃ (q : Nat) (v : Value), q ≤ tl.length ∧ i = .int .i64 (q + 1 : Nat) ∧ wq.heap[wA.heap.size]? = some (pBox ((k : Int) + 2 + l0) v) ∧ wq.ownsRow wA.heap.size 3 1 v q (((tl.take q).map (mkNum k)).map (Value.int .i64)) ∧ Below wA.heap.size wA wq) (fun i _ => tl.length - ((intOf i).toNat - 1))
                case atStart => exact ⟨0, _, Nat.zero_le _, rfl, HPB.out, World.ownsRow_nil _ _ _ _, HB3.out⟩
                case round =>
                  obtain ⟨q, v, hq, rfl, hpb, hown, hB⟩ := hrel
                  clear HPB HB3 W3
                  have hBw := HBW.out.trans (hB.mono hs)
                  have r0 := (Fr.new hBw).cell HR.out.1 fun e => e
                  simp only [List.length_cons] at r0
                  obtain ⟨va2, vc2, rfl, _⟩ := own_cells hown
                  by_cases hlt2 : q < tl.length
                  · have r1 := (Fr.new hBw).cell (HR.out.2.1 (q + 1) (by simpa using hlt2)) fun e => e
                    have hx1 := HR.out.2.2.2 _ (List.getElem_mem hlt2)
                    have htl : tl.take (q + 1) = tl.take q ++ [tl[q]] := by rw [List.take_add_one, List.getElem?_eq_getElem hlt2]; rfl
                    simp only [List.map_cons, List.getElem_cons_succ, List.getElem_map] at r1
                    generalize tl[q] = x at *
                    have p1 : wr.cell? ⟨wA.heap.size, 1, none⟩ = some (.slice va2 q vc2) := obj_cell hpb 1 rfl
                    have fp := obj_frozen hpb 1
                    have n1 : wA.heap.size < wr.heap.size := World.block_lt_of_cell? wr _ p1
                    have hsB := hB.size
                    have HPB := Lib.hid (And.intro hpb (And.intro hB htl))
                    have HO := Lib.hid hown
                    clear hpb hB htl hown hBw
                    have i1 : (0 : Int) ≤ (q : Int) + 1 := by omega
                    have i2 : (q : Int) + 1 < (tl.length : Int) + 1 := by omega
                    have i3 : ((q : Int) + 1).toNat = q + 1 := by omega
                    by_cases hx0 : x < 0
                    · have hx' : decide (x < 0) = true := decide_eq_true hx0
                      go_wp2_with fail
                      go_region_law
                        ((refine step_append_lies _ (by rfl) _ _ _ (by rfl) wA.heap.size 3 k0 _ 1 8 Tryz.underlying31 ki kz0 kz1 kz2 rfl (by omega) (.slice va2 q vc2) q _ (by rfl) ((HO.out.alloc _).drew)
                            ⟨wr.heap.size, 0, none⟩ 1 1 [.int .i64 (IntKind.i64.wrap (-x))] (by rfl) (by rfl) (World.news_of_block (cs := #[.int .i64 (IntKind.i64.wrap (-x))]) (t := 3) (fr := (0, 0)) (heap_alloc_new wr _)) (by simp [Value.oneCell'])
                            (by omega) (by unfold maxLen; omega) (by omega) (by simp; omega) (wr.heap.size + 1) (by simp) ?_; intro gg cap1 w1 hown1 hgrow hat hlt'; have hF1 : Fr (fun g => (Value.slice va2 q vc2).ownBlock = some g) wr w1 := ((Fr.alloc _ _).trans (Fr.drew _)).trans (Fr.grown hgrow); have hp1 := hF1.obj HPB.out.1 (fun e => own_ne HO.out HPB.out.1 (by decide) e); have p2 : w1.cell? ⟨wA.heap.size, 1, none⟩ = some (.slice va2 q vc2) := obj_cell hp1 1 rfl; have f2 := obj_frozen hp1 1))
                      all_goals
                        go_wp2
                        go_roundw
                        case rel =>
                          have e1 : IntKind.i64.wrap (-x) = -x := IntWalk.i64_in _ (by omega)
                          rw [e1] at hown1
                          have hS := Fr.setCell w1 ⟨wA.heap.size, 1, none⟩ (.slice (some ⟨gg, 0, none⟩) (q + 1) cap1)
                          have hmk : mkNum k x = -x := if_pos hx0
                          have hlist : ((tl.take (q + 1)).map (mkNum k)).map (Value.int .i64) = ((tl.take q).map (mkNum k)).map (Value.int .i64) ++ [.int .i64 (-x)] := by rw [HPB.out.2.2, List.map_append, List.map_append, ← hmk]; rfl
                          refine ⟨q + 1, _, by omega, by simp, setCell_obj hp1 _, own_fr (v := .slice (some ⟨gg, 0, none⟩) (q + 1) cap1) (hlist ▸ hown1) hS fun g e e2 => own_ne hown1 hp1 (by decide) (e.trans (congrArg some (show g = wA.heap.size from e2))), (HPB.out.2.1.trans (hF1.below hsB fun g e => (HO.out.lt g e).1)).trans (hS.below (Nat.le_trans hsB hF1.size) fun g e => Nat.le_of_eq (show g = wA.heap.size from e).symm)⟩
                        case measure => simp [intOf]; omega
                    · have hx' : decide (x < 0) = false := decide_eq_false hx0
                      go_wp2_with fail
                      go_region_law
                        ((refine step_append_lies _ (by rfl) _ _ _ (by rfl) wA.heap.size 3 k0 _ 1 8 Tryz.underlying31 ki kz0 kz1 kz2 rfl (by omega) (.slice va2 q vc2) q _ (by rfl) ((HO.out.alloc _).drew)
                            ⟨wr.heap.size, 0, none⟩ 1 1 [.int .i64 (IntKind.i64.wrap (IntKind.i64.wrap ((k : Int) + 2) + x))] (by rfl) (by rfl) (World.news_of_block (cs := #[.int .i64 (IntKind.i64.wrap (IntKind.i64.wrap ((k : Int) + 2) + x))]) (t := 3) (fr := (0, 0)) (heap_alloc_new wr _)) (by simp [Value.oneCell'])
                            (by omega) (by unfold maxLen; omega) (by omega) (by simp; omega) (wr.heap.size + 1) (by simp) ?_; intro gg cap1 w1 hown1 hgrow hat hlt'; have hF1 : Fr (fun g => (Value.slice va2 q vc2).ownBlock = some g) wr w1 := ((Fr.alloc _ _).trans (Fr.drew _)).trans (Fr.grown hgrow); have hp1 := hF1.obj HPB.out.1 (fun e => own_ne HO.out HPB.out.1 (by decide) e); have p2 : w1.cell? ⟨wA.heap.size, 1, none⟩ = some (.slice va2 q vc2) := obj_cell hp1 1 rfl; have f2 := obj_frozen hp1 1))
                      all_goals
                        go_wp2
                        go_roundw
                        case rel =>
                          have e1 : IntKind.i64.wrap (IntKind.i64.wrap ((k : Int) + 2) + x) = (k : Int) + 2 + x := by rw [IntWalk.i64_in ((k : Int) + 2) (by omega)]; exact IntWalk.i64_in _ (by omega)
                          rw [e1] at hown1
                          have hS := Fr.setCell w1 ⟨wA.heap.size, 1, none⟩ (.slice (some ⟨gg, 0, none⟩) (q + 1) cap1)
                          have hmk : mkNum k x = (k : Int) + 2 + x := if_neg (by omega)
                          have hlist : ((tl.take (q + 1)).map (mkNum k)).map (Value.int .i64) = ((tl.take q).map (mkNum k)).map (Value.int .i64) ++ [.int .i64 ((k : Int) + 2 + x)] := by rw [HPB.out.2.2, List.map_append, List.map_append, ← hmk]; rfl
                          refine ⟨q + 1, _, by omega, by simp, setCell_obj hp1 _, own_fr (v := .slice (some ⟨gg, 0, none⟩) (q + 1) cap1) (hlist ▸ hown1) hS fun g e e2 => own_ne hown1 hp1 (by decide) (e.trans (congrArg some (show g = wA.heap.size from e2))), (HPB.out.2.1.trans (hF1.below hsB fun g e => (HO.out.lt g e).1)).trans (hS.below (Nat.le_trans hsB hF1.size) fun g e => Nat.le_of_eq (show g = wA.heap.size from e).symm)⟩
                        case measure => simp [intOf]; omega
                  · obtain rfl : q = tl.length := by omega
                    have c2 : wr.cell? ⟨w.heap.size + 2, 2, none⟩ = some p := (Fr.new hB).cell (obj_cell HM.out.1.2.1 2 rfl) fun e => e
                    obtain ⟨pa2, pc2, hpv, _⟩ := own_cells HM.out.2.2.1
                    subst hpv
                    have q0 := obj_cell hpb 0 rfl
                    have q1 := obj_cell hpb 1 rfl
                    have q2 := obj_cell hpb 2 rfl
                    have q3 := obj_cell hpb 3 rfl
                    have q4 := obj_cell hpb 4 rfl
                    have q5 := obj_cell hpb 5 rfl
                    have hg1 := (Fr.new hB).obj HM.out.1.2.1 fun e => e
                    have hp1 := own_fr HM.out.2.2.1 (Fr.new hB) fun g e e2 => e2
                    have hsB := hB.size
                    have HPB := Lib.hid (And.intro hpb hB)
                    have HO := Lib.hid hown
                    have HG := Lib.hid hg1
                    have HPW := Lib.hid hp1
                    clear hpb hB hown hg1 hp1 hBw
                    simp only [List.getElem_toArray, List.getElem_cons_zero, List.getElem_cons_succ] at q0 q1 q2 q3 q4 q5
                    go_wp2_with (at_builtin; refine wpList_append_any rfl _ _ 23 rfl w.heap.size 44 j0 _ 6 72 Tryz.underlying23 ji jz0 jz1 jz2 rfl (by decide) _ _ _ rfl (HPW.out.alloc _) _ 1 1 (cellsP (mkPrd k (l0 :: tl), .slice va2 tl.length vc2)) rfl rfl (.inr ⟨_, rfl, cells_add (cells_new_at (by simp) _ _ rfl _ _)⟩) (by simp [cellsP, prdCells, Value.oneCell']) (by unfold maxLen; omega) (by omega) (by simp; omega) ?_; intro v2 w2 hown2 hgrow2; obtain ⟨v2a, v2c, rfl, _⟩ := own_cells hown2; have hF2 : Fr (fun g => (Value.slice pa2 (m + 1) pc2).ownBlock = some g) wr w2 := (Fr.alloc _ _).trans (Fr.grown hgrow2); have hg2 := hF2.obj HG.out (fun e => own_ne HPW.out HG.out (by decide) e); have f2 := obj_frozen hg2 2; have c3 : w2.cell? ⟨w.heap.size + 2, 2, none⟩ = some (.slice pa2 (m + 1) pc2) := obj_cell hg2 2 rfl)
                    go_roundw
                    case rel =>
                      obtain ⟨hMk, hsym, hpr, hxs, hxo⟩ := HM.out
                      have hS := Fr.setCell w2 ⟨w.heap.size + 2, 2, none⟩ (.slice v2a (m + 1 + 1) v2c)
                      have hF : Fr (fun g => (Value.slice pa2 (m + 1) pc2).ownBlock = some g ∨ g = w.heap.size + 2) wr (w2.setCell ⟨w.heap.size + 2, 2, none⟩ (.slice v2a (m + 1 + 1) v2c)) := (hF2.mono fun _ _ e => .inl e).trans (hS.mono fun _ _ e => .inr e)
                      have hFA : Fr (fun g => (Value.slice pa2 (m + 1) pc2).ownBlock = some g ∨ g = w.heap.size + 2) wA (w2.setCell ⟨w.heap.size + 2, 2, none⟩ (.slice v2a (m + 1 + 1) v2c)) := (Fr.new HPB.out.2).wide.trans hF
                      refine ⟨m + 1, _, xs ++ [(mkPrd k (l0 :: tl), .slice va2 tl.length vc2)], by omega, by simp, ⟨hFA.obj hMk.1 ?_, setCell_obj hg2 _, hMk.2.2.trans (hFA.below hs fun g e => ?_)⟩, own_fr hsym hFA ?_, own_fr (v := .slice v2a (m + 1 + 1) v2c) ?_ hS fun g e e2 => own_ne hown2 hg2 (by decide) (e.trans (congrArg some (show g = w.heap.size + 2 from e2))), ?_, fun x hx => ?_⟩
                      · rintro (e | e)
                        · exact own_ne hpr hMk.1 (by decide) e
                        · omega
                      · rcases e with e | e
                        · exact (hpr.lt g e).1
                        · omega
                      · rintro g e (e2 | e2)
                        · exact own_apart hsym hpr (by decide) g e e2
                        · exact own_ne hsym hMk.2.1 (by decide) (e.trans (congrArg some e2))
                      · rw [List.flatMap_append, List.flatMap_singleton]
                        exact hown2
                      · rw [List.map_append, hxs, HR.out.2.2.1, List.map_append]
                        rfl
                      · rcases List.mem_append.1 hx with hx | hx
                        · refine own_fr (hxo x hx) hFA ?_
                          rintro g e (e2 | e2)
                          · exact own_apart (hxo x hx) hpr (by decide) g e e2
                          · exact own_ne (hxo x hx) hMk.2.1 (by decide) (e.trans (congrArg some e2))
                        · rw [List.mem_singleton.1 hx]
                          have h1 := own_base HO.out hs
                          rw [List.take_length] at h1
                          have h2 : (mkPrd k (l0 :: tl)).right.length = tl.length := by simp [mkPrd]
                          rw [h2]
                          refine own_fr h1 hF ?_
                          rintro g e (e2 | e2)
                          · exact own_apart h1 HPW.out (by decide) g e e2
                          · exact own_ne h1 HG.out (by decide) (e.trans (congrArg some e2))
                    case measure => simp [intOf]; omega
            · obtain rfl : m = ps.length := by omega
              have hxn : xs.length = ps.length + 1 := by have := congrArg List.length hxs; simpa using this
              obtain ⟨pa2, pc2, hpv, _⟩ := own_cells hp
              subst hpv
              obtain ⟨hz, hg, hB⟩ := hM
              have x0 : wr.cell? ⟨w.heap.size + 2, 0, none⟩ = some (.int .i64 ((k : Int) + 1)) := obj_cell hg 0 rfl
              have x1 : wr.cell? ⟨w.heap.size + 2, 1, none⟩ = some (.slice va (k + 1 + 1 + j) vc) := obj_cell hg 1 rfl
              have x2 : wr.cell? ⟨w.heap.size + 2, 2, none⟩ = some (.slice pa2 (ps.length + 1) pc2) := obj_cell hg 2 rfl
              have y0 : wr.cell? ⟨w.heap.size, 0, none⟩ = some (.int .i64 0) := obj_cell hz 0 rfl
              have y1 : wr.cell? ⟨w.heap.size, 1, none⟩ = some (.slice none 0 0) := obj_cell hz 1 rfl
              have y2 : wr.cell? ⟨w.heap.size, 2, none⟩ = some (.slice none 0 0) := obj_cell hz 2 rfl
              have f0 := obj_frozen hz 0
              have f1 := obj_frozen hz 1
              have f2 := obj_frozen hz 2
              have HZ := Lib.hid (And.intro hz hB)
              have HN := Lib.hid hxn
              clear hlt hz hg hB hown hp hxs hxo hxn
              go_wp2
              refine at_world (Q := bodyPost _ _ _ _ _) (F := fun Y => (Y.cell? ⟨w.heap.size, 0, none⟩ = some (.int .i64 ((k : Int) + 1)) ∧ Y.cell? ⟨w.heap.size, 1, none⟩ = some (.slice va (k + 1 + 1 + j) vc) ∧ Y.cell? ⟨w.heap.size, 2, none⟩ = some (.slice pa2 (ps.length + 1) pc2)) ∧ Fr (only w.heap.size) wr Y) ?_ ?_
              · refine ⟨⟨?_, ?_, ?_⟩, ?_⟩
                · simp [go_sem, y0]
                · simp [go_sem, y1]
                · simp [go_sem, y2]
                · repeat (first | with_reducible exact Fr.refl _ _ | refine Fr.trans ?_ (Fr.setCell' _ _ rfl))
              · rintro Y ⟨⟨r0, r1, r2⟩, hfY⟩
                refine bodyPost_ret (by simp [results, Tryz.results18, go_sem, r0, r1, r2]; try rfl) rfl ?_
                obtain ⟨_, hsym, hpr, hxs, hxo⟩ := HM.out
                have hno : ∀ {e size n : Nat} {v : Value} {xs : List Value}, wr.ownsRow w.heap.size e size v n xs → e ≠ 25 → Y.ownsRow w.heap.size e size v n xs := fun h hne => own_fr h hfY fun g e e2 => own_ne h HZ.out.1 hne (e.trans (congrArg some (show g = w.heap.size from e2)))
                have hlen2 : (rSyms k j).length = k + 1 + 1 + j := by simp [rSyms, tSyms]; omega
                have hS := hno hsym (by decide)
                rw [← hlen2] at hS
                have hP := hno hpr (by decide)
                rw [← HN.out] at hP
                have hpI : IsPrds Y (.slice pa2 xs.length pc2) (xs.map Prod.fst) := own_prds hP (fun x hx => ?_) (by rw [HN.out]; omega)
                · refine ⟨_, rfl, ⟨by unfold i64 mkGram; simp only; omega, _, _, rfl, ?_, ?_⟩, HZ.out.2.trans (hfY.below HZ.out.2.size fun g e => Nat.le_of_eq (show g = w.heap.size from e).symm)⟩
                  · show IsSyms Y _ (rSyms k j)
                    rw [← hlen2]
                    refine own_syms hS (fun s hs => ?_) (by rw [hlen2]; omega)
                    have : s.level = 0 ∧ s.assoc = 0 := by
                      simp only [rSyms, tSyms, List.cons_append, List.mem_cons, List.mem_append, List.mem_map] at hs
                      rcases hs with rfl | ⟨_, _, rfl⟩ | rfl | ⟨_, _, rfl⟩ <;> exact ⟨rfl, rfl⟩
                    exact ⟨by unfold i64; omega, by omega⟩
                  · show IsPrds Y _ (aPrd k :: ps.map (mkPrd k))
                    rw [hxs, List.take_length, HN.out] at hpI
                    exact hpI
                · have hx1 : x.1 ∈ aPrd k :: (ps.take ps.length).map (mkPrd k) := hxs ▸ List.mem_map.2 ⟨x, hx, rfl⟩
                  have hI := hno (hxo x hx) (by decide)
                  rw [List.take_length] at hx1
                  rcases List.mem_cons.1 hx1 with h1 | h1
                  · rw [h1] at hI ⊢
                    exact ⟨⟨by unfold i64 aPrd; simp only; omega, by unfold i64 aPrd; simp only; omega, by unfold i64 aPrd; simp only; omega⟩, own_ints hI (fun y hy => by simp only [aPrd, List.mem_singleton] at hy; omega) (by simp [aPrd])⟩
                  · obtain ⟨l, hl, h1⟩ := List.mem_map.1 h1
                    rw [← h1] at hI ⊢
                    have hb := HX.out.2.2 l hl
                    have hll := HX.out.2.1 l hl
                    have hne := HX.out.1 l hl
                    cases l with
                    | nil => exact absurd rfl hne
                    | cons l0 tl =>
                      have h0 := hb l0 (.head _)
                      refine ⟨⟨by unfold i64 mkPrd; simp only [List.headD_cons]; omega, by unfold i64 mkPrd; simp only; omega, by unfold i64 mkPrd; simp only; omega⟩, own_ints hI (fun y hy => ?_) (by simp only [mkPrd, List.tail_cons, List.length_map]; simp only [List.length_cons] at hll; omega)⟩
                      simp only [mkPrd, List.tail_cons, List.mem_map] at hy
                      obtain ⟨x, hx, rfl⟩ := hy
                      have := hb x (.tail _ hx)
                      unfold mkNum
                      split <;> omega
end Go.Proofs.YtiiceickjaeehaaGreat
