/-
  How much a grammar is.
-/
import Derived.Test.YtpnihegmhalcfaaRunG01
import Derived.Test.YtpnihegmhalcfaaRunG05
namespace Go.Proofs.Ytpnihegmhalcfaa
open Go.RowKit
set_option maxHeartbeats 400000

def goN (most n : Int) : List Int → Int
  | [] => n
  | x :: r => if n ≤ most then goN most (n + x) r else n
def partsSym (s : Sym) : Int := ((s.name.size / 8 : Nat) : Int) + ((s.type.size / 8 : Nat) : Int)
def partsPrd (p : Prd) : Int := (p.right.length : Int) + ((p.action.size / 8 : Nat) : Int)
def partsG (G : Gram) (most : Int) : Int := goN most (goN most ((G.syms.length : Int) + G.prods.length) (G.syms.map partsSym)) (G.prods.map partsPrd)
/-- Texts that a machine has. -/
structure Fits (G : Gram) : Prop where
  name : ∀ s ∈ G.syms, s.name.size ≤ 140737488355328
  type : ∀ s ∈ G.syms, s.type.size ≤ 140737488355328
  action : ∀ p ∈ G.prods, p.action.size ≤ 140737488355328

theorem goN_drop (most n : Int) (l : List Int) (k : Nat) (h : k < l.length) (hn : n ≤ most) : goN most n (l.drop k) = goN most (n + l[k]) (l.drop (k + 1)) := by
  rw [List.drop_eq_getElem_cons h, goN, if_pos hn]
theorem goN_stop (most n : Int) (l : List Int) (hn : ¬ n ≤ most) : goN most n l = n := by
  cases l with
  | nil => rfl
  | cons x r => rw [goN, if_neg hn]
theorem goN_le (most : Int) : ∀ (l : List Int) (n : Int), (∀ x ∈ l, 0 ≤ x) → n ≤ goN most n l
  | [], n, _ => Int.le_refl _
  | x :: r, n, h => by
    rw [goN]
    split
    · have := goN_le most r (n + x) fun y hy => h y (.tail _ hy)
      have := h x (.head _)
      omega
    · exact Int.le_refl _
theorem goN_sum (most : Int) : ∀ (l : List Int) (n : Int), (∀ x ∈ l, 0 ≤ x) → goN most n l ≤ most → goN most n l = n + l.sum
  | [], n, _, _ => by simp [goN]
  | x :: r, n, h, hm => by
    rw [goN] at hm ⊢
    split at hm
    · rename_i hn
      rw [if_pos hn, goN_sum most r (n + x) (fun y hy => h y (.tail _ hy)) hm, List.sum_cons]
      omega
    · omega
theorem partsSym_nn (s : Sym) : 0 ≤ partsSym s := by unfold partsSym; omega
theorem partsPrd_nn (s : Prd) : 0 ≤ partsPrd s := by unfold partsPrd; omega
theorem partsG_len {G : Gram} {most : Int} (h : partsG G most ≤ most) : (G.syms.length : Int) + G.prods.length ≤ most ∧ ∀ p ∈ G.prods, (p.right.length : Int) ≤ most := by
  unfold partsG at h
  have n1 : ∀ x ∈ G.syms.map partsSym, 0 ≤ x := fun x hx => by
    obtain ⟨y, _, rfl⟩ := List.mem_map.1 hx
    exact partsSym_nn y
  have n2 : ∀ x ∈ G.prods.map partsPrd, 0 ≤ x := fun x hx => by
    obtain ⟨y, _, rfl⟩ := List.mem_map.1 hx
    exact partsPrd_nn y
  have h1 := goN_le most _ ((G.syms.length : Int) + G.prods.length) n1
  have h2 := goN_le most _ (goN most ((G.syms.length : Int) + G.prods.length) (G.syms.map partsSym)) n2
  have h3 := goN_sum most _ _ n2 h
  refine ⟨by omega, fun p hp => ?_⟩
  have h4 : ∀ (l : List Prd), p ∈ l → (p.right.length : Int) ≤ (l.map partsPrd).sum := by
    intro l
    induction l with
    | nil => simp
    | cons a r ih =>
      intro hm
      have h5 : 0 ≤ (r.map partsPrd).sum := by
        clear ih hm
        induction r with
        | nil => simp
        | cons b r ih =>
          have := partsPrd_nn b
          simp only [List.map_cons, List.sum_cons]
          omega
      have h6 := partsPrd_nn a
      simp only [List.map_cons, List.sum_cons]
      rcases List.mem_cons.1 hm with rfl | hm
      · have : (p.right.length : Int) ≤ partsPrd p := by unfold partsPrd; omega
        omega
      · have := ih hm
        omega
  have := h4 _ hp
  omega
theorem after_same {w1 w : World} {a : Addr} {v : Value} (h : w1.cell? a = some v) (hb : Below w1.heap.size w1 w) : w.cell? a = some v := (Fr.new hb).cell h fun e => e
set_option maxRecDepth 100000 in
set_option maxHeartbeats 2000000 in
theorem grammarOf_any (G : Gram) (most : Int) (v : Value) (w : World) (h : IsGram w v G) (hf : Fits G) (hm : 0 ≤ most ∧ most ≤ 1000000000000) :
    Calls Try.prog 10 #[v, .int .i64 most] w fun e w' => e = .returned (.int .i64 (partsG G most)) ∧ Below w.heap.size w w' := by
  obtain ⟨hterms, vs, vp, rfl, hs, hp⟩ := h
  obtain ⟨hl1, sa, sc, rfl, _, _, hsx⟩ := id hs
  obtain ⟨hl2, pa, pc, rfl, _, _, hpx⟩ := id hp
  obtain ⟨terms, syms, prods⟩ := G
  simp only at hs hp hl1 hl2 hsx hpx
  have x0 : IntKind.i64.wrap ((syms.length : Int) + prods.length) = (syms.length : Int) + prods.length := IntWalk.i64_in _ (by omega)
  unfold partsG
  simp only
  generalize hN : goN most ((syms.length : Int) + prods.length) (syms.map partsSym) = N1
  go_enter Try.func10, Try.ntmps10
  go_wp2
  go_loopw [5, 6] (fun n i wr => ∃ (k : Nat) (m : Int), k ≤ syms.length ∧ i = .int .i64 k ∧ n = .int .i64 m ∧ 0 ≤ m ∧ m ≤ 1000000000000000 ∧ goN most m ((syms.map partsSym).drop k) = N1 ∧ wr.heap[w.heap.size]? = some (.cells #[.int .i64 terms, .slice sa syms.length sc, .slice pa prods.length pc] 25 (0, 0)) ∧ Below w.heap.size w wr)
     (fun _ i _ => syms.length - (intOf i).toNat)
  case atStart => exact ⟨0, _, Nat.zero_le _, rfl, rfl, by omega, by omega, hN, alloc_obj _ _, (Below.refl _ _).alloc (Nat.le_refl _) _⟩
  case round =>
    obtain ⟨k, m, hk, rfl, rfl, hm0, hm1, he, hob, hB⟩ := hrel
    have c0 := obj_cell hob 0 rfl
    have c1 := obj_cell hob 1 rfl
    have c2 := obj_cell hob 2 rfl
    have HOB := Lib.hid hob
    clear hob
    have hst : decide (m ≤ most) = true ∧ k < syms.length ∧ m ≤ most ∨ ((N1 = m) ∧ (decide (k < syms.length) = false ∨ decide (k < syms.length) = true ∧ decide (m ≤ most) = false)) := by
      by_cases hlt : k < syms.length
      · by_cases hmm : m ≤ most
        · exact .inl ⟨by simp [hmm], hlt, hmm⟩
        · exact .inr ⟨he.symm.trans (goN_stop _ _ _ hmm), .inr ⟨by simp [hlt], by simp [hmm]⟩⟩
      · obtain rfl : k = syms.length := by omega
        rw [List.drop_eq_nil_of_le (by simp)] at he
        exact .inr ⟨he.symm, .inl (by simp)⟩
    rcases hst with ⟨hmt, hlt, hmm⟩ | ⟨hNm, hst⟩
    · obtain ⟨b', o, rfl, hcx⟩ : ∃ b' o, sa = some ⟨b', o, none⟩ ∧ ∀ i, (h : i < syms.length) → SymAt w b' (o + i * 4) syms[i] := by
        rcases hsx with rfl | h
        · simp at hlt
        · exact h
      obtain ⟨hok, hcs⟩ := (hcx k hlt).fr (Fr.new hB)
      rw [goN_drop _ _ _ _ (by simpa using hlt) hmm, List.getElem_map] at he
      have hf1 := hf.name _ (List.getElem_mem hlt)
      have hf2 := hf.type _ (List.getElem_mem hlt)
      generalize syms[k] = s at *
      obtain ⟨name, type, level, assoc⟩ := s
      have s0 := hcs 0 (by simp [symCells])
      have s1 := hcs 1 (by simp [symCells])
      simp only [symCells, List.getElem_cons_zero, List.getElem_cons_succ, Nat.add_zero] at s0 s1
      simp only [partsSym] at he hf1 hf2
      have hsum : wrap64 (wrap64 (m + wrap64 ((name.size : Int) / 8)) + wrap64 ((type.size : Int) / 8)) = m + (((name.size / 8 : Nat) : Int) + ((type.size / 8 : Nat) : Int)) := by
        rw [IntWalk.wrap64_in ((name.size : Int) / 8) (by omega), IntWalk.wrap64_in ((type.size : Int) / 8) (by omega), IntWalk.wrap64_in (m + (name.size : Int) / 8) (by omega), IntWalk.wrap64_in _ (by omega)]
        omega
      have hb0 : 0 ≤ m + (((name.size / 8 : Nat) : Int) + ((type.size / 8 : Nat) : Int)) ∧ m + (((name.size / 8 : Nat) : Int) + ((type.size / 8 : Nat) : Int)) ≤ 1000000000000000 := by omega
      have HE := Lib.hid (And.intro hsum (And.intro hb0 he))
      have HX := Lib.hid hB
      clear he hcx hsx hcs hok hsum hf1 hf2 hN hB hb0
      go_wp2_with fail
      go_quiet (fail)
      go_wp2
      go_roundw
      case rel => exact ⟨k + 1, _, by omega, by simp, rfl, by rw [HE.out.1]; exact HE.out.2.1.1, by rw [HE.out.1]; exact HE.out.2.1.2, by rw [HE.out.1]; exact HE.out.2.2, HOB.out, below_drewN HX.out _⟩
      case measure => simp [intOf]; omega
    · have HB := Lib.hid hB
      have HN := Lib.hid hNm
      clear hsx he hNm hN
      rcases hst with h0 | ⟨h0, h1⟩
      all_goals go_wp2
      all_goals
        go_loopw [5, 7] (fun n i wr => ∃ (k : Nat) (m : Int), k ≤ prods.length ∧ i = .int .i64 k ∧ n = .int .i64 m ∧ 0 ≤ m ∧ m ≤ 1000000000000000 ∧ goN most m ((prods.map partsPrd).drop k) = goN most N1 (prods.map partsPrd) ∧ wr.heap[w.heap.size]? = some (.cells #[.int .i64 terms, .slice sa syms.length sc, .slice pa prods.length pc] 25 (0, 0)) ∧ Below w.heap.size w wr)
          (fun _ i _ => prods.length - (intOf i).toNat)
        case atStart => exact ⟨0, m, Nat.zero_le _, rfl, rfl, hm0, hm1, by rw [HN.out]; rfl, HOB.out, HB.out⟩
        case round =>
          clear c0 c1 c2 HOB HB HN hm0 hm1 hk h0
          obtain ⟨k, m, hk, rfl, rfl, hm0, hm1, he, hob, hB⟩ := hrel
          have c0 := obj_cell hob 0 rfl
          have c1 := obj_cell hob 1 rfl
          have c2 := obj_cell hob 2 rfl
          have HOB := Lib.hid hob
          clear hob
          obtain ⟨N2, hN2⟩ : ∃ N2, goN most N1 (prods.map partsPrd) = N2 := ⟨_, rfl⟩
          rw [hN2] at he
          have HN2 := Lib.hid hN2
          clear hN2
          have hst : decide (m ≤ most) = true ∧ k < prods.length ∧ m ≤ most ∨ ((N2 = m) ∧ (decide (k < prods.length) = false ∨ decide (k < prods.length) = true ∧ decide (m ≤ most) = false)) := by
            by_cases hlt : k < prods.length
            · by_cases hmm : m ≤ most
              · exact .inl ⟨by simp [hmm], hlt, hmm⟩
              · exact .inr ⟨he.symm.trans (goN_stop _ _ _ hmm), .inr ⟨by simp [hlt], by simp [hmm]⟩⟩
            · obtain rfl : k = prods.length := by omega
              rw [List.drop_eq_nil_of_le (by simp)] at he
              exact .inr ⟨he.symm, .inl (by simp)⟩
          rcases hst with ⟨hmt, hlt, hmm⟩ | ⟨hNm, hst⟩
          · obtain ⟨b', o, rfl, hcx⟩ : ∃ b' o, pa = some ⟨b', o, none⟩ ∧ ∀ i, (h : i < prods.length) → PrdAt w b' (o + i * 6) prods[i] := by
              rcases hpx with rfl | h
              · simp at hlt
              · exact h
            obtain ⟨hok, r, hr, hcs⟩ := (hcx k hlt).fr (Fr.new hB)
            rw [goN_drop _ _ _ _ (by simpa using hlt) hmm, List.getElem_map] at he
            have hf1 := hf.action _ (List.getElem_mem hlt)
            generalize prods[k] = s at *
            obtain ⟨left, right, prec, has, action, whr⟩ := s
            obtain ⟨_, hf2, ra, rc, rfl, _⟩ := hr
            have s0 := hcs 1 (by simp [prdCells])
            have s1 := hcs 4 (by simp [prdCells])
            simp only [prdCells, List.getElem_cons_zero, List.getElem_cons_succ] at s0 s1
            simp only [partsPrd] at he hf1 hf2
            clear hcx hcs hok
            generalize right.length = rl at *
            have hsum : wrap64 (wrap64 (m + rl) + wrap64 ((action.size : Int) / 8)) = m + ((rl : Int) + ((action.size / 8 : Nat) : Int)) := by
              rw [IntWalk.wrap64_in ((action.size : Int) / 8) (by omega), IntWalk.wrap64_in (m + rl) (by omega), IntWalk.wrap64_in _ (by omega)]
              omega
            have hb0 : 0 ≤ m + ((rl : Int) + ((action.size / 8 : Nat) : Int)) ∧ m + ((rl : Int) + ((action.size / 8 : Nat) : Int)) ≤ 1000000000000000 := by omega
            have HE := Lib.hid (And.intro hsum (And.intro hb0 he))
            have HX := Lib.hid hB
            clear he hpx hsum hf1 hf2 hB hb0
            go_wp2_with fail
            go_quiet (fail)
            go_wp2
            go_roundw
            case rel => exact ⟨k + 1, _, by omega, by simp, rfl, by rw [HE.out.1]; exact HE.out.2.1.1, by rw [HE.out.1]; exact HE.out.2.1.2, by rw [HE.out.1, HN2.out]; exact HE.out.2.2, HOB.out, below_drewN HX.out _⟩
            case measure => simp [intOf]; omega
          · have HB := Lib.hid hB
            have HN := Lib.hid hNm
            clear hpx he hNm hB
            rcases hst with h0 | ⟨h0, h1⟩
            all_goals
              go_wp2
              go_ret
              exact ⟨congrArg (fun t => Ending.returned (Value.int .i64 t)) (HN2.out.trans HN.out).symm, HB.out⟩
end Go.Proofs.Ytpnihegmhalcfaa
