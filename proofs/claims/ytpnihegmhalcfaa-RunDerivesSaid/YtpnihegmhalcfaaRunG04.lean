/-
  Package symbols: are a grammar's symbols right?
-/
import Derived.Test.YtpnihegmhalcfaaRunG02
import Derived.Test.YtpnihegmhalcfaaRunG01
import Derived.Deep.DeepCutAuto
namespace Go.Proofs.Ytpnihegmhalcfaa
open Go.RowKit
set_option maxHeartbeats 400000

def bareG (s : Sym) : Bool := decide (s.type = nNone) && (decide (s.level = 0) && decide (s.assoc = 0))
def symOk (terms : Int) (seen : List ByteArray) (i : Nat) (s : Sym) : Bool :=
  !(decide (s.name = nNone) || (hasName seen s.name || (!decide (s.type = nNone) && !typedG s.type))) &&
  (!(decide (s.level < 0) || (decide (3 < s.assoc) || (decide (s.level = 0) != decide (s.assoc = 0)))) &&
  (!(decide (terms ≤ (i : Int)) && decide (0 < s.level)) &&
  (!(decide ((i : Int) = 0) && (!decide (s.name = nEnd) || !bareG s)) && !(decide ((i : Int) = terms) && (!decide (s.name = nAccept) || !bareG s)))))
def namesTo (l : List Sym) (k : Nat) : List ByteArray := (l.take k).map Sym.name
def symAtOk (terms : Int) (l : List Sym) (j : Nat) : Bool := match l[j]? with | some s => symOk terms (namesTo l j) j s | none => true
def symsG (terms : Int) (l : List Sym) : Bool := (List.range l.length).all (symAtOk terms l)
def symsTo (terms : Int) (l : List Sym) (k : Nat) : Bool := (List.range k).all (symAtOk terms l)
theorem symsTo_succ (terms : Int) (l : List Sym) (k : Nat) (h : k < l.length) : symsTo terms l (k + 1) = (symsTo terms l k && symOk terms (namesTo l k) k l[k]) := by
  simp [symsTo, List.range_succ, symAtOk, List.getElem?_eq_getElem h]
theorem symsG_false (terms : Int) (l : List Sym) (k : Nat) (h : k < l.length) (hf : symOk terms (namesTo l k) k l[k] = false) : symsG terms l = false := by
  cases e : symsG terms l
  · rfl
  · rw [symsG, List.all_eq_true] at e
    have := e k (List.mem_range.2 h)
    rw [symAtOk, List.getElem?_eq_getElem h] at this
    have this' : symOk terms (namesTo l k) k l[k] = true := this
    rw [hf] at this'
    cases this'
theorem namesTo_succ (l : List Sym) (k : Nat) (h : k < l.length) : namesTo l (k + 1) = namesTo l k ++ [l[k].name] := by
  have e : l.take (k + 1) = l.take k ++ [l[k]] := by rw [List.take_add_one, List.getElem?_eq_getElem h]; rfl
  unfold namesTo
  rw [e, List.map_append]
  rfl

theorem empty_cases (t : ByteArray) : t = ⟨#[]⟩ ∨ (¬ t = ⟨#[]⟩ ∧ ¬ t.toList = [] ∧ t.toList.isEmpty = false) := by
  by_cases h : t = ⟨#[]⟩
  · exact .inl h
  · have e := str_ilit t [] false (decide_eq_false h)
    refine .inr ⟨h, fun e' => ?_, ?_⟩
    · rw [e'] at e
      cases e
    · cases e' : t.toList
      · rw [e'] at e
        cases e
      · rfl
theorem zeroBool (w : World) : (zeroValue 4).run Try.prog w = .ok (.bool false) w := by kernel_rfl

set_option maxRecDepth 100000 in
set_option maxHeartbeats 2000000 in
theorem symbols_any (terms : Int) (vs vp : Value) (l : List Sym) (w : World) (hl : IsSyms w vs l) :
    Calls Try.prog 62 #[.agg #[.int .i64 terms, vs, vp]] w fun e w' => e = .returned (.bool (symsG terms l)) ∧ Below w.heap.size w w' := by
  obtain ⟨hlen, b, c, rfl, _, _, hx⟩ := hl
  have hmm := @run_makeMap Try.prog
  go_enter Try.func62, Try.ntmps62
  go_wp2
  clear hmm
  go_loopw [4, 5, 6, 12, 22, 43, 61, 72] (fun u4 u5 u6 i u22 u43 u61 u72 wr => ∃ k : Nat, k ≤ l.length ∧ i = .int .i64 k ∧ symsTo terms l k = true ∧ wr.heap[w.heap.size]? = some (.cells #[.int .i64 terms, .slice b l.length c, vp] 132 (0, 0)) ∧
      IsMap wr .string (w.heap.size + 1) (texts (namesTo l k)) ∧ Below w.heap.size w wr)
     (fun _ _ _ i _ _ _ _ _ => l.length - (intOf i).toNat)
  case atStart =>
    have h1 := two_boxes w (.cells #[.int .i64 terms, .slice b l.length c, vp] 132 (0, 0)) (.map #[] 0)
    refine ⟨0, Nat.zero_le _, rfl, rfl, h1.1, ?_, h1.2.2⟩
    have h2 := isMap_new (w.alloc (.cells #[.int .i64 terms, .slice b l.length c, vp] 132 (0, 0))) .string
    simpa [namesTo, texts] using h2
  case round =>
    obtain ⟨k, hk, rfl, he, hob, hmap, hB⟩ := hrel
    have hc0 := obj_cell hob 0 rfl
    have hc1 := obj_cell hob 1 rfl
    have HOB := Lib.hid hob
    clear hob
    by_cases hlt : k < l.length
    · obtain ⟨b', o, rfl, hcx⟩ : ∃ b' o, b = some ⟨b', o, none⟩ ∧ ∀ i, (h : i < l.length) → SymAt w b' (o + i * 4) l[i] := by
        rcases hx with rfl | h
        · simp at hlt
        · exact h
      obtain ⟨hok, hcs⟩ := (hcx k hlt).fr (Fr.new hB)
      have tk := symsTo_succ terms l k hlt
      have tf := symsG_false terms l k hlt
      have tn := namesTo_succ l k hlt
      rw [he] at tk
      generalize l[k] = s at *
      obtain ⟨name, type, level, assoc⟩ := s
      have s0 := hcs 0 (by simp [symCells])
      have s1 := hcs 1 (by simp [symCells])
      have s2 := hcs 2 (by simp [symCells])
      have s3 := hcs 3 (by simp [symCells])
      simp only [symCells, List.getElem_cons_zero, List.getElem_cons_succ, Nat.add_zero] at s0 s1 s2 s3
      have hlk := fun o => (hmap.fr (Fr.alloc (ch := nothing) wr o) fun e => e).has (P := Try.prog) Try.underlying160 Try.underlying9 (zeroBool _) name
      have hlkB := World.block_lt_of_cell? wr _ hc0
      have hca : ∀ o, (wr.alloc o).cell? ⟨w.heap.size, 0, none⟩ = some (.int .i64 terms) := fun o => (Fr.alloc (ch := nothing) wr o).cell hc0 fun e => e
      clear he hx hcx hcs hlkB
      obtain ⟨N1, n1⟩ : ∃ b, decide (name = nNone) = b := ⟨_, rfl⟩
      obtain ⟨N3, n3⟩ : ∃ b, decide (type = nNone) = b := ⟨_, rfl⟩
      obtain ⟨N4, n4⟩ : ∃ b, typedG type = b := ⟨_, rfl⟩
      obtain ⟨N5, n5⟩ : ∃ b, decide (level < 0) = b := ⟨_, rfl⟩
      obtain ⟨N6, n6⟩ : ∃ b, decide (3 < assoc) = b := ⟨_, rfl⟩
      obtain ⟨N7, n7⟩ : ∃ b, decide (terms ≤ (k : Int)) = b := ⟨_, rfl⟩
      obtain ⟨N8, n8⟩ : ∃ b, decide (0 < level) = b := ⟨_, rfl⟩
      obtain ⟨N9, n9⟩ : ∃ b, decide ((k : Int) = 0) = b := ⟨_, rfl⟩
      obtain ⟨N10, n10⟩ : ∃ b, decide (name = nEnd) = b := ⟨_, rfl⟩
      obtain ⟨N11, n11⟩ : ∃ b, decide ((k : Int) = terms) = b := ⟨_, rfl⟩
      obtain ⟨N12, n12⟩ : ∃ b, decide (name = nAccept) = b := ⟨_, rfl⟩
      obtain ⟨L0, l0⟩ : ∃ b, decide (level = 0) = b := ⟨_, rfl⟩
      obtain ⟨A0, a0⟩ : ∃ b, decide (assoc = 0) = b := ⟨_, rfl⟩
      have hOK : symOk terms (namesTo l k) k ⟨name, type, level, assoc⟩ = (!(N1 || (hasName (namesTo l k) name || (!N3 && !N4))) && (!(N5 || (N6 || (L0 != A0))) && (!(N7 && N8) && (!(N9 && (!N10 || !(N3 && (L0 && A0)))) && !(N11 && (!N12 || !(N3 && (L0 && A0)))))))) := by
        simp only [symOk, bareG, n1, n3, n4, n5, n6, n7, n8, n9, n10, n11, n12, l0, a0]
      have hin : hasName (namesTo l k) name = false → ∀ x ∈ texts (namesTo l k), x.1 ≠ Value.string name := fun h => texts_ne ((hasName_false _ _).1 h)
      generalize hasName (namesTo l k) name = N2 at hlk hOK hin
      obtain ⟨Bb, hBb⟩ : ∃ b, (N3 && (L0 && A0)) = b := ⟨_, rfl⟩
      rw [hBb] at hOK
      obtain ⟨C1, hC1⟩ : ∃ b, (N1 || (N2 || (!N3 && !N4))) = b := ⟨_, rfl⟩
      obtain ⟨C2, hC2⟩ : ∃ b, (N5 || (N6 || (L0 != A0))) = b := ⟨_, rfl⟩
      obtain ⟨C3, hC3⟩ : ∃ b, (N7 && N8) = b := ⟨_, rfl⟩
      obtain ⟨C4, hC4⟩ : ∃ b, (N9 && (!N10 || !Bb)) = b := ⟨_, rfl⟩
      obtain ⟨C5, hC5⟩ : ∃ b, (N11 && (!N12 || !Bb)) = b := ⟨_, rfl⟩
      rw [hC1, hC2, hC3, hC4, hC5] at hOK
      have HT := Lib.hid (And.intro tk (And.intro tf tn))
      have HM := Lib.hid hmap
      have HO := Lib.hid hOK
      have HI := Lib.hid hin
      have HBb := Lib.hid hBb
      have HC1 := Lib.hid hC1
      have HC2 := Lib.hid hC2
      have HC3 := Lib.hid hC3
      have HC4 := Lib.hid hC4
      have HC5 := Lib.hid hC5
      have HN := Lib.hid (And.intro n3 (And.intro l0 a0))
      have HY := Lib.hid fun w => n4 ▸ typed_any type w
      have HOKS := Lib.hid hok
      have t1 : name.toList.isEmpty = N1 := by
        have := str_ilit name [] N1 n1
        rw [← this]
        cases name.toList <;> rfl
      have t3 : type.toList.isEmpty = N3 := by
        have := str_ilit type [] N3 n3
        rw [← this]
        cases type.toList <;> rfl
      have t10 := str_ilit name _ N10 n10
      have t10' := str_nlit name _ N10 n10
      have t12 := str_ilit name _ N12 n12
      have t12' := str_nlit name _ N12 n12
      have t9 : ((k : Int) == 0) = N9 := by rw [← n9]; rfl
      have t11 : ((k : Int) == terms) = N11 := by rw [← n11]; rfl
      have tL : (level == 0) = L0 := by rw [← l0]; rfl
      have tA : (assoc == 0) = A0 := by rw [← a0]; rfl
      clear tk tf tn hmap hOK hin hBb hC1 hC2 hC3 hC4 hC5 n1 n3 n4 n10 n12 n9 n11 l0 a0 hok
      go_upto_region 5 with fail
      go_cut [6] (fun s wx => s = .bool Bb ∧ wx = wr.alloc (.cells #[.string name, .string type, .int .i64 level, .int .u8 assoc] 64 (0, 0)))
      case first =>
        clear t1 t3 t10 t10' t12 t12' t9 t11 n5 n6 n7 n8 tL tA hlk
        rcases empty_cases type with h3 | ⟨h3, h3t, h3i⟩
        all_goals by_cases hL : level = 0
        all_goals by_cases hA : assoc = 0
        all_goals go_wp2
        all_goals
          go_meet
          obtain ⟨n3, l0, a0⟩ := HN.out
          simp only [nNone] at n3
          simp only [h3, hL, hA, decide_true, decide_false] at n3 l0 a0
          exact ⟨by rw [← HBb.out, ← n3, ← l0, ← a0]; rfl, by simp [*]⟩
      case rest =>
      obtain ⟨rfl, rfl⟩ := hcut
      go_upto_region 6 with fail
      go_cut [22] (fun s wx => s = .bool C1 ∧ wx = wr.alloc (.cells #[.string name, .string type, .int .i64 level, .int .u8 assoc] 64 (0, 0)))
      case first =>
        go_wp2_with (go_at_call 96; refine (HY.out _).mono ?_; rintro e w2 ⟨rfl, rfl⟩)
        all_goals
          go_meet
          exact ⟨by rw [← HC1.out]; simp [*], by simp [*]⟩
      case rest =>
      obtain ⟨rfl, rfl⟩ := hcut
      cases C1
      case true =>
        clear t1 t3 t10 t10' t12 t12' t9 t11 n5 n6 n7 n8 tL tA
        go_wp2
        go_ret
        exact ⟨congrArg (fun t => Ending.returned (Value.bool t)) (HT.out.2.1 (HO.out.trans (by simp))).symm, hB.alloc hB.size _⟩
      case false =>
      go_upto_region 8 with fail
      go_cut [43] (fun s wx => s = .bool C2 ∧ wx = wr.alloc (.cells #[.string name, .string type, .int .i64 level, .int .u8 assoc] 64 (0, 0)))
      case first =>
        all_goals cases L0
        all_goals cases A0
        all_goals go_wp2
        all_goals
          go_meet
          exact ⟨by rw [← HC2.out]; simp [*], by simp [*]⟩
      case rest =>
      obtain ⟨rfl, rfl⟩ := hcut
      cases C2
      case true =>
        clear t1 t3 t10 t10' t12 t12' t9 t11 n5 n6 n7 n8 tL tA
        go_wp2
        go_ret
        exact ⟨congrArg (fun t => Ending.returned (Value.bool t)) (HT.out.2.1 (HO.out.trans (by simp))).symm, hB.alloc hB.size _⟩
      case false =>
      go_upto_region 10 with fail
      go_cut [61] (fun s wx => s = .bool C3 ∧ wx = wr.alloc (.cells #[.string name, .string type, .int .i64 level, .int .u8 assoc] 64 (0, 0)))
      case first =>
        go_wp2
        all_goals
          go_meet
          exact ⟨by rw [← HC3.out]; simp [*], by simp [*]⟩
      case rest =>
      obtain ⟨rfl, rfl⟩ := hcut
      cases C3
      case true =>
        clear t1 t3 t10 t10' t12 t12' t9 t11 n5 n6 n7 n8 tL tA
        go_wp2
        go_ret
        exact ⟨congrArg (fun t => Ending.returned (Value.bool t)) (HT.out.2.1 (HO.out.trans (by simp))).symm, hB.alloc hB.size _⟩
      case false =>
      go_upto_region 12 with fail
      go_cut [72] (fun s wx => s = .bool C4 ∧ wx = wr.alloc (.cells #[.string name, .string type, .int .i64 level, .int .u8 assoc] 64 (0, 0)))
      case first =>
        go_wp2
        all_goals
          go_meet
          exact ⟨by rw [← HC4.out]; simp [*], by simp [*]⟩
      case rest =>
      obtain ⟨rfl, rfl⟩ := hcut
      cases C4
      case true =>
        clear t1 t3 t10 t10' t12 t12' t9 t11 n5 n6 n7 n8 tL tA
        go_wp2
        go_ret
        exact ⟨congrArg (fun t => Ending.returned (Value.bool t)) (HT.out.2.1 (HO.out.trans (by simp))).symm, hB.alloc hB.size _⟩
      case false =>
      go_upto_region 13 with fail
      go_cut [72] (fun s wx => s = .bool C5 ∧ wx = wr.alloc (.cells #[.string name, .string type, .int .i64 level, .int .u8 assoc] 64 (0, 0)))
      case first =>
        go_wp2
        all_goals
          go_meet
          exact ⟨by rw [← HC5.out]; simp [*], by simp [*]⟩
      case rest =>
      obtain ⟨rfl, rfl⟩ := hcut
      cases C5
      case true =>
        clear t1 t3 t10 t10' t12 t12' t9 t11 n5 n6 n7 n8 tL tA
        go_wp2
        go_ret
        exact ⟨congrArg (fun t => Ending.returned (Value.bool t)) (HT.out.2.1 (HO.out.trans (by simp))).symm, hB.alloc hB.size _⟩
      case false =>
      clear t1 t3 t10 t10' t12 t12' t9 t11 n5 n6 n7 n8 tL tA hlk
      have N2f : N2 = false := by
        have h := HC1.out
        cases N1 <;> cases N2 <;> simp at h ⊢
      have hm2 : IsMap (wr.alloc (.cells #[.string name, .string type, .int .i64 level, .int .u8 assoc] 64 (0, 0))) .string (w.heap.size + 1) (texts (namesTo l k)) := HM.out.fr (Fr.alloc (ch := nothing) wr _) fun e => e
      have HM2 := Lib.hid hm2
      clear hm2
      go_wp2_with (at_mapUpdate; refine wpList_store_new _ rfl _ _ _ 160 rfl 9 4 .string Try.underlying160 Try.underlying9 (w.heap.size + 1) _ rfl HM2.out _ _ rfl rfl trivial (HI.out N2f) ?_; intro w2 hm2 hf2)
      go_roundw
      case rel =>
        have hlt2 := World.block_lt_of_cell? wr _ hc0
        have hf3 := (Fr.alloc (ch := nothing) wr (.cells #[.string name, .string type, .int .i64 level, .int .u8 assoc] 64 (0, 0)))
        refine ⟨k + 1, by omega, by simp, ?_, ?_, ?_, ?_⟩
        · rw [HT.out.1, HO.out]; rfl
        · exact hf2.obj (hf3.obj HOB.out fun e => e) (fun e => by unfold only at e; omega)
        · rw [HT.out.2.2, texts_append]; exact hm2
        · exact (hB.alloc hB.size _).trans (hf2.below (by have := hB.size; simp; omega) (fun j e => by unfold only at e; omega))
      case measure => simp [intOf]; omega
    · obtain rfl : k = l.length := by omega
      have HE := Lib.hid he
      clear he hlt hmap hx
      go_wp2
      go_ret
      exact ⟨congrArg (fun t => Ending.returned (Value.bool t)) HE.out.symm, hB⟩
end Go.Proofs.Ytpnihegmhalcfaa
