/-
  Package symbols: plain, where nothing is thrown; the statements' words.
-/
import Derived.Test.YtehaoiimhgkckaaMake7
namespace Go.Proofs.Ytehaoiimhgkckaa
open Go.RowKit Go.MapKept Go.ChangeMaps
set_option maxHeartbeats 400000

theorem Rows'.at {α : Type} {a : Option Addr} {n c size : Nat} {p : Nat → Nat → α → Prop} {l : List α} (h : Rows' (.slice a n c) size p l) {k : Nat} (hk : k < l.length) : ∃ b o, a = some ⟨b, o, none⟩ ∧ n ≤ c ∧ p b (o + k * size) l[k] := by
  obtain ⟨_, a', c', e, h1, h2, h3⟩ := h
  simp only [Value.slice.injEq] at e
  obtain ⟨rfl, rfl, rfl⟩ := e
  rcases h3 with rfl | ⟨b, o, rfl, h3⟩
  · simp at hk
  · exact ⟨b, o, rfl, h1, h3 k hk⟩
theorem Rows'.parts {α : Type} {v : Value} {size : Nat} {p : Nat → Nat → α → Prop} {l : List α} (h : Rows' v size p l) : ∃ a c, v = .slice a l.length c ∧ l.length ≤ c ∧ c ≤ 9223372036854775807 ∧ l.length ≤ 17592186044416 := by
  obtain ⟨h0, a', c', e, h1, h2, h3⟩ := h
  exact ⟨a', c', e, h1, h2, h0⟩
theorem plain_alts {r : Rul} (h : plainOk r = true) {k : Nat} (hk : k < r.alts.length) {j : Nat} (hj : j < r.alts[k].words.length) : r.alts[k].words[j].args = 0 := by
  unfold plainOk at h
  simp only [Bool.and_eq_true, List.all_eq_true, decide_eq_true_eq] at h
  exact h.2 _ (List.getElem_mem hk) _ (List.getElem_mem hj)
set_option maxRecDepth 100000 in
set_option maxHeartbeats 2000000 in
theorem plain_ok (r : Rul) (av : Value) (a : Option Addr) (c : Nat) (w : World) (ha : IsAlts w av r.alts) (hok : plainOk r = true) :
    Calls Try.prog 69 #[.agg #[.string r.name, .slice a r.params c, av, .int .i64 r.at_]] w fun e w' => e = .returned (.tuple #[]) ∧ Below w.heap.size w w' := by
  have hp0 : r.params = 0 := by
    unfold plainOk at hok
    simp only [Bool.and_eq_true, decide_eq_true_eq] at hok
    exact hok.1
  obtain ⟨aa, ac, rfl, _, hacm, hlen⟩ := Rows'.parts ha
  have HA := Lib.hid ha
  have HP := Lib.hid fun k hk j hj => plain_alts hok (k := k) hk (j := j) hj
  have HN := fun at_ k b L w hb hl hL => Lib.hid (throw_none k at_ b L w hb hl hL)
  rw [hp0]
  obtain ⟨N, hN⟩ : ∃ N, N = r.alts.length := ⟨_, rfl⟩
  rw [← hN] at hlen ⊢
  have HNN := Lib.hid hN
  clear ha hok hp0 hN
  generalize r.name = nm
  generalize r.at_ = at_ at *
  go_enter Try.func69, Try.ntmps69
  go_wp2_with (go_at_call 72; refine Calls.mono (HN _ 301 _ [false] _ ?_ (by simp) (by simp)).out ?_; exact laid_at (by simp); rintro e w' ⟨rfl, rfl⟩)
  go_loopw [17] (fun i wr => ∃ k : Nat, k ≤ N ∧ i = .int .i64 k ∧ Below w.heap.size w wr) (fun i _ => N - (intOf i).toNat)
  case atStart => exact ⟨0, Nat.zero_le _, rfl, ((Below.refl _ _).alloc (Nat.le_refl _) _).alloc (by simp) _⟩
  case round =>
    obtain ⟨k, hk, rfl, hB⟩ := hrel
    by_cases hlt : k < N
    · have hk' : k < r.alts.length := by rw [← HNN.out]; exact hlt
      obtain ⟨b, o, rfl, hac, h1, h2, wv, h3, h4⟩ := Rows'.at (n := N) (by rw [HNN.out]; exact HA.out) hk'
      obtain ⟨wa, wc, rfl, _, hwcm, hwl⟩ := Rows'.parts h3
      have x0 := (Fr.new hB).cell (h4 0 (by simp)) fun e => e
      have x1 := (Fr.new hB).cell (h4 1 (by simp)) fun e => e
      have x2 := (Fr.new hB).cell (h4 2 (by simp)) fun e => e
      have x3 := (Fr.new hB).cell (h4 3 (by simp)) fun e => e
      have x4 := (Fr.new hB).cell (h4 4 (by simp)) fun e => e
      have x5 := (Fr.new hB).cell (h4 5 (by simp)) fun e => e
      simp only [List.getElem_cons_zero, List.getElem_cons_succ, Nat.add_zero] at x0 x1 x2 x3 x4 x5
      have HP2 := Lib.hid fun j hj => HP.out k hk' j hj
      have HW3 := Lib.hid h3
      have HBk := Lib.hid hB
      obtain ⟨K, hK⟩ : ∃ K, K = r.alts[k].words.length := ⟨_, rfl⟩
      rw [← hK] at x0 hwl
      have HKK := Lib.hid hK
      clear hB h3 h4 h1 h2 hK
      generalize r.alts[k].prec = zp at *
      generalize r.alts[k].has = zh at *
      generalize r.alts[k].action = za at *
      generalize r.alts[k].whr = zw at *
      generalize r.alts[k].at_ = zt at *
      generalize wr = wA at *
      go_wp2
      go_loopw [24] (fun i wr => ∃ j : Nat, j ≤ K ∧ i = .int .i64 j ∧ Below w.heap.size w wr) (fun i _ => K - (intOf i).toNat)
      case atStart => exact ⟨0, Nat.zero_le _, rfl, HBk.out.alloc HBk.out.size _⟩
      case round =>
        obtain ⟨j, hj, rfl, hB⟩ := hrel
        by_cases hlt2 : j < K
        · have hj' : j < r.alts[k].words.length := by rw [← HKK.out]; exact hlt2
          obtain ⟨b2, o2, rfl, hac2, hat2, a2, c2, h5⟩ := Rows'.at (n := K) (by rw [HKK.out]; exact HW3.out) hj'
          have y0 := (Fr.new hB).cell (h5 0 (by simp)) fun e => e
          have y1 := (Fr.new hB).cell (h5 1 (by simp)) fun e => e
          have y2 := (Fr.new hB).cell (h5 2 (by simp)) fun e => e
          simp only [List.getElem_cons_zero, List.getElem_cons_succ, Nat.add_zero, HP2.out j hj'] at y0 y1 y2
          have HB2 := Lib.hid hB
          have hsB := hB.size
          clear hB h5
          generalize r.alts[k].words[j].name = xn at *
          generalize r.alts[k].words[j].at_ = xt at *
          go_wp2_with (go_at_call 72; refine Calls.mono (HN _ 301 _ [false] _ ?_ (by simp) (by simp)).out ?_; exact laid_at (by simp); rintro e w' ⟨rfl, rfl⟩)
          go_roundw
          case rel => exact ⟨j + 1, by omega, by simp, (HB2.out.alloc hsB _).alloc (Nat.le_trans hsB (by simp)) _⟩
          case measure => simp [intOf]; omega
        · obtain rfl : j = K := by omega
          clear hlt2
          go_wp2
          go_roundw
          case rel => exact ⟨k + 1, by omega, by simp, hB⟩
          case measure => simp [intOf]; omega
    · obtain rfl : k = N := by omega
      clear hlt
      go_wp2
      go_end0
      exact ⟨rfl, hB⟩
end Go.Proofs.Ytehaoiimhgkckaa
