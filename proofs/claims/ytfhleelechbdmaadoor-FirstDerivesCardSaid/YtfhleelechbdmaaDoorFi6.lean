/-
  Package first: row.
-/
import Derived.Test.YtfhleelechbdmaaDoorFi5
namespace Go.Proofs.YtfhleelechbdmaaDoor
open Go.RowKit
set_option maxHeartbeats 400000

/-- One set among the pointers is another one, or lies apart from it. -/
def OneOrOff (p0 : Nat) (v0 : Value) (bs : List Bool) (p : Nat × Value) (cs : List Bool) : Prop :=
  (p.1 = p0 ∧ p.2 = v0 ∧ cs = bs) ∨ (p0 ≠ p.1 ∧ (∀ g, v0.ownBlock = some g → p.2.ownBlock ≠ some g) ∧ ∀ g, v0.ownBlock = some g → p.1 ≠ g)
def ptrRow (ps : List (Nat × Value)) : Obj := .cells (ps.map ptrV).toArray 52 (0, 0)
/-- What a row finds in memory, whatever it has joined so far. -/
structure RowMem (w : World) (B p0 : Nat) (v0 : Value) (bs : List Bool) (lv : Value) (l : List Int) (q : Nat) (ps : List (Nat × Value)) (S : List (List Bool)) (nb : Nat) (no : List Bool) : Prop where
  into : PSet w B p0 v0 bs
  row : Ints w lv l
  ptrs : w.heap[q]? = some (ptrRow ps)
  sets : ∀ i (h : i < ps.length), PSet w B ps[i].1 ps[i].2 (rowAt S i)
  apart : ∀ i (h : i < ps.length), OneOrOff p0 v0 bs ps[i] (rowAt S i)
  none_ : w.heap[nb]? = some (boolsObj no)
  nlen : no.length = ps.length
  tab : Tab w
  tabB : 0 < B
  rowB : ∀ (W : World), Fr (fun k => v0.ownBlock = some k) w W → Ints W lv l
  qB : v0.ownBlock ≠ some q
  nB : v0.ownBlock ≠ some nb
  inn : ∀ x ∈ l, 0 ≤ x ∧ x < (ps.length : Int)
theorem ptrs_cell {w : World} {q : Nat} {ps : List (Nat × Value)} (h : w.heap[q]? = some (ptrRow ps)) (i : Nat) (hi : i < ps.length) : w.cell? ⟨q, i, none⟩ = some (.pointer (some ⟨ps[i].1, 0, none⟩)) :=
  obj_cell h i (by simp [hi, ptrV])
theorem orB_has (bs : List Bool) (l : List Nat) (cs : List Bool) (h : Sub cs bs) : Sub cs (orB bs l) := fun i e => (orB_at _ _ _).2 (.inl (h i e))
theorem orB_again {bs cs : List Bool} (h : Sub cs bs) : orB bs (trues cs) = bs := orB_old (newB_sub h)

set_option maxRecDepth 100000 in
set_option maxHeartbeats 4000000 in
theorem row_any (w : World) (B p0 : Nat) (v0 : Value) (bs : List Bool) (lv : Value) (l : List Int) (q : Nat) (ps : List (Nat × Value)) (S : List (List Bool)) (nb : Nat) (no : List Bool) (h : RowMem w B p0 v0 bs lv l q ps S nb no) :
    Calls Tryd.prog 23 #[.pointer (some ⟨p0, 0, none⟩), lv, .slice (some ⟨q, 0, none⟩) ps.length ps.length, .slice (some ⟨nb, 0, none⟩) ps.length ps.length] w fun e w' =>
      e = .returned (.tuple #[.bool (newB bs (flatS S (preR no l))), .bool (allE no l)]) ∧ PSet w' B p0 v0 (orB bs (flatS S (preR no l))) ∧ Fr (fun k => v0.ownBlock = some k) w w' := by
  obtain ⟨hinto, hrow, hptrs, hsets, hapart, hnone, hnl, htab, htabB, hrowB, hqB, hnB, hin⟩ := h
  obtain ⟨_, hlen, a, cap, rfl, _, _, _⟩ := id hrow
  have HI := Lib.hid hinto
  have HR := Lib.hid hrowB
  have HQ := Lib.hid hptrs
  have HS := Lib.hid hsets
  have HA := Lib.hid hapart
  have HN := Lib.hid hnone
  have HT := Lib.hid htab
  have hgT : v0.ownBlock ≠ some 0 := fun e => by have := hinto.ge.2 _ e; omega
  have HGT := Lib.hid hgT
  have HQB := Lib.hid hqB
  have HNB := Lib.hid hnB
  have HIN := Lib.hid hin
  have HNL := Lib.hid hnl
  clear hinto hrow hptrs hsets hapart hnone htab htabB hrowB hqB hnB hin hgT hnl
  generalize hN : l.length = N at *
  have HL := Lib.hid hN
  clear hN
  obtain ⟨M, hM⟩ : ∃ M, ps.length = M := ⟨_, rfl⟩
  rw [hM]
  have HM := Lib.hid hM
  clear hM
  go_enter Tryd.func23, Tryd.ntmps23
  go_wp2
  go_loopw [8, 11, 14] (fun c _ i wr => ∃ k : Nat, k ≤ N ∧ i = .int .i64 k ∧ c = .bool (newB bs (flatS S (l.take k))) ∧ (∀ j (hj : j < l.length), j < k → atB no l[j].toNat = true) ∧ PSet wr B p0 v0 (orB bs (flatS S (l.take k))) ∧ Fr (fun k => v0.ownBlock = some k) w wr) (fun _ _ i _ => N - (intOf i).toNat)
  case atStart => exact ⟨0, Nat.zero_le _, rfl, by simp [flatS, newB], fun j _ h => by omega, by simpa [flatS, orB] using HI.out, Fr.refl _ _⟩
  case round =>
    obtain ⟨k, hk, rfl, rfl, hno, hP, hF⟩ := hrel
    have HNO := Lib.hid hno
    have HP := Lib.hid hP
    have HF := Lib.hid hF
    by_cases hlt : k < N
    · have hk' : k < l.length := by rw [HL.out]; exact hlt
      obtain ⟨b, o, rfl, -, -, hcx, -⟩ := (HR.out wr hF).at hk'
      have hxin := HIN.out _ (List.getElem_mem hk')
      obtain ⟨x, hx⟩ : ∃ n : Nat, l[k] = (n : Int) := ⟨l[k].toNat, by omega⟩
      have hxp : x < ps.length := by omega
      have hxM : x < M := by rw [← HM.out]; exact hxp
      have c1 := ptrs_cell (hF.obj HQ.out HQB.out) x hxp
      have c2 := bools_at (hF.obj HN.out HNB.out) x (by rw [HNL.out]; exact hxp)
      have htk : l.take (k + 1) = l.take k ++ [(x : Int)] := by rw [List.take_add_one, List.getElem?_eq_getElem hk', hx]; rfl
      have hJ : Calls Tryd.prog 35 #[.pointer (some ⟨p0, 0, none⟩), .pointer (some ⟨ps[x].1, 0, none⟩)] wr fun e w' => e = .returned (.bool (newB (orB bs (flatS S (l.take k))) (trues (rowAt S x)))) ∧ PSet w' B p0 v0 (orB bs (flatS S (l.take (k + 1)))) ∧ Fr (fun k => v0.ownBlock = some k) wr w' := by
        rw [htk, flatS_snoc, orB_app, Int.toNat_natCast]
        rcases HA.out x hxp with ⟨h1, h2, h3⟩ | ⟨h1, h2, h3⟩
        · rw [h1, h3]
          have hsub := orB_has bs (flatS S (l.take k)) bs (fun _ e => e)
          rw [orB_again hsub, newB_sub hsub]
          refine (pJoin wr B p0 v0 _ hP B p0 v0 _ hP (fun _ => rfl) (fun e => absurd rfl e) (HT.out.fr hF HGT.out) HGT.out).mono ?_
          rintro e w' ⟨rfl, h5, h6⟩
          rw [newB_self]
          refine ⟨rfl, ?_, h6.mono fun _ _ e => e.2⟩
          rw [orB_again (fun _ e => e)] at h5
          exact h5
        · refine (pJoin wr B p0 v0 _ hP B ps[x].1 ps[x].2 _ ((HS.out x hxp).fr hF (fun e => h3 _ e rfl) fun g h4 h5 => h2 g h5 h4) (fun e => absurd e h1) (fun _ => h2) (HT.out.fr hF HGT.out) HGT.out).mono ?_
          rintro e w' ⟨rfl, h5, h6⟩
          exact ⟨rfl, h5, h6.mono fun _ _ e => e.2⟩
      have hnb : newB bs (flatS S (l.take (k + 1))) = (newB (orB bs (flatS S (l.take k))) (trues (rowAt S x)) || newB bs (flatS S (l.take k))) := by
        rw [htk, flatS_snoc, newB_app, Int.toNat_natCast]
      rw [hx] at hcx
      have HX := Lib.hid hx
      have HJ := Lib.hid hJ
      have HNBQ := Lib.hid hnb
      have HTK := Lib.hid htk
      clear hno hP hF hxin hx hJ hnb htk
      generalize hq2 : newB bs (flatS S (l.take k)) = c at *
      generalize hq1 : newB (orB bs (flatS S (l.take k))) (trues (rowAt S x)) = d at *
      have HQ1 := Lib.hid hq1
      clear hq1 hq2
      generalize hq3 : atB no x = m at *
      have HQ3 := Lib.hid hq3
      clear hq3
      generalize hq4 : ps[x].1 = px at *
      clear hq4
      cases m
      · have hpre : preR no l = l.take (k + 1) := preR_take hk' HNO.out (by rw [HX.out, Int.toNat_natCast]; exact HQ3.out)
        have hall : allE no l = false := by
          unfold allE
          rw [List.all_eq_false]
          exact ⟨_, List.getElem_mem hk', by rw [HX.out, Int.toNat_natCast, HQ3.out]; simp⟩
        have HPRE := Lib.hid hpre
        have HALL := Lib.hid hall
        clear hpre hall
        cases d <;> cases c
        all_goals
          go_wp2_with (go_at_call 35; refine HJ.out.mono ?_; rintro e w2 ⟨rfl, hp2, hf2⟩; have c3 := hf2.cell c2 HNB.out)
          go_ret2
          exact ⟨by rw [HPRE.out, HALL.out, HNBQ.out]; rfl, by rw [HPRE.out]; exact hp2, HF.out.trans hf2⟩
      · have hnx : ∀ j (hj : j < l.length), j < k + 1 → atB no l[j].toNat = true := fun j hj hjk => by
          by_cases e : j = k
          · subst e; rw [HX.out, Int.toNat_natCast]; exact HQ3.out
          · exact HNO.out j hj (by omega)
        have HNX := Lib.hid hnx
        clear hnx
        cases d <;> cases c
        all_goals
          go_wp2_with (go_at_call 35; refine HJ.out.mono ?_; rintro e w2 ⟨rfl, hp2, hf2⟩; have c3 := hf2.cell c2 HNB.out)
          go_roundw
          case rel => exact ⟨k + 1, by omega, by simp, by rw [HNBQ.out]; rfl, HNX.out, hp2, HF.out.trans hf2⟩
          case measure => simp [intOf]; omega
    · obtain rfl : k = N := by omega
      have hall : ∀ x ∈ l, atB no x.toNat = true := fun x hx => by
        obtain ⟨i, hi, rfl⟩ := List.mem_iff_getElem.1 hx
        exact HNO.out i hi (by rw [← HL.out]; exact hi)
      have hpre := preR_all hall
      have htk : l.take k = l := List.take_of_length_le (by rw [HL.out]; exact Nat.le_refl _)
      have hE : allE no l = true := allE_iff.2 hall
      have HPRE := Lib.hid (htk.trans hpre.symm)
      have HE := Lib.hid hE
      clear hlt hno hP hF hall hpre hE htk
      generalize hq2 : newB bs (flatS S (l.take k)) = c at *
      have HQ2 := Lib.hid hq2
      clear hq2
      go_wp2
      go_ret2
      exact ⟨by rw [HE.out, ← HPRE.out, HQ2.out]; rfl, by rw [← HPRE.out]; exact HP.out, HF.out⟩
end Go.Proofs.YtfhleelechbdmaaDoor
