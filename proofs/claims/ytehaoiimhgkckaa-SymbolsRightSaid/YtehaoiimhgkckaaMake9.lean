/-
  Package symbols: decl, late, where nothing is thrown, of declarations of tokens and of what binds to the left.
-/
import Derived.Test.YtehaoiimhgkckaaMake8
import Derived.Test.YtehaoiimhgkckaaMakeA
namespace Go.Proofs.Ytehaoiimhgkckaa
open Go.RowKit Go.MapKept Go.ChangeMaps
set_option maxHeartbeats 400000

def declN (M : Mst) (D : Dcl) : Option Mst :=
  if D.kind = kToken then if D.type ≠ nNone ∧ typedG D.type = true then tokN D.type M D.names else none
  else if D.kind = kLeft then if D.type = nNone then bindN 1 { M with level := M.level + 1 } D.names else none
  else none
set_option maxRecDepth 100000 in
set_option maxHeartbeats 2000000 in
theorem decl_ok (M M' : Mst) (D : Dcl) (v p : Value) (w0 w : World) (mb tb rb : Nat) (hd : IsDcl w0 v D) (h0 : Below w0.heap.size w0 w) (h : Lies w w0.heap.size mb tb rb M) (hl : M.syms.length + D.names.length ≤ 100000) (hu : Uq M.tm)
    (hlv : 0 ≤ M.level ∧ M.level ≤ 100000) (hok : declN M D = some M') :
    Calls Try.prog 70 #[.pointer (some ⟨mb, 0, none⟩), v, p] w (Res w0.heap.size mb tb rb w (.tuple #[]) M') := by
  have hd0 := hd
  obtain ⟨hat, nv, hn, rfl⟩ := hd
  have hB := h0.size
  have hsz : w0.heap.size ≤ w.heap.size := hB
  unfold declN at hok
  have hbl : Below w0.heap.size w0 (w.alloc (dclO D.kind D.type nv D.at_)) := h0.alloc hB _
  have hfa : FM w0.heap.size mb tb rb w (w.alloc (dclO D.kind D.type nv D.at_)) := FM.new (Fr.alloc _ _)
  have HF := Lib.hid hfa
  split at hok
  · rename_i hk
    split at hok
    · rename_i ht
      have HT := Lib.hid (token_ok M M' D _ w0 _ mb tb rb hd0 hbl (h.new (Fr.alloc w (dclO D.kind D.type nv D.at_))) hl ht.1 ht.2 hok)
      unfold dclO at HT HF
      rw [hk] at HT HF ⊢
      clear hd0 hn h hok hbl hfa ht hk
      generalize D.type = ty at *
      generalize D.at_ = at_ at *
      have k1 := str_ilit kToken [116, 111, 107, 101, 110] true (by decide)
      generalize kToken = kk at *
      go_enter Try.func70, Try.ntmps70
      go_wp2_with (go_at_call 82; refine HT.out.mono ?_; rintro e w' ⟨hF, rfl, hL⟩)
      go_end0
      exact ⟨HF.out.trans hF, rfl, hL⟩
    · cases hok
  · split at hok
    · rename_i hk0 hk
      split at hok
      · rename_i ht
        have HT := Lib.hid (binds_ok M M' D 1 _ w0 _ mb tb rb hd0 hbl (h.new (Fr.alloc w (dclO D.kind D.type nv D.at_))) hl hu hlv ht hok)
        unfold dclO at HT HF
        rw [hk] at HT HF ⊢
        clear hd0 hn h hok hbl hfa ht hk hk0
        generalize D.type = ty at *
        generalize D.at_ = at_ at *
        have k1 := str_ilit kLeft [116, 111, 107, 101, 110] false (by decide)
        have k2 := str_ilit kLeft [108, 101, 102, 116] true (by decide)
        generalize kLeft = kk at *
        go_enter Try.func70, Try.ntmps70
        go_wp2_with (go_at_call 83; refine HT.out.mono ?_; rintro e w' ⟨hF, rfl, hL⟩)
        go_end0
        exact ⟨HF.out.trans hF, rfl, hL⟩
      · cases hok
    · cases hok
set_option maxRecDepth 100000 in
set_option maxHeartbeats 2000000 in
theorem late_ok (M : Mst) (D : Dcl) (v : Value) (w0 w : World) (mb tb rb : Nat) (hd : IsDcl w0 v D) (h0 : Below w0.heap.size w0 w) (h : Lies w w0.heap.size mb tb rb M) (hr : Uq M.rm) (hk : D.kind ≠ kStart ∧ D.kind ≠ kType) :
    Calls Try.prog 73 #[.pointer (some ⟨mb, 0, none⟩), v] w fun e w' => e = .returned (.tuple #[]) ∧ Fr nothing w w' := by
  obtain ⟨hat, nv, hn, rfl⟩ := hd
  obtain ⟨a, c, rfl, hc, hcm, hll⟩ := Rows'.parts hn
  obtain ⟨w1, hw1⟩ : ∃ w1, w1 = w.alloc (dclO D.kind D.type (.slice a D.names.length c) D.at_) := ⟨_, rfl⟩
  have hfr : Fr nothing w w1 := by rw [hw1]; exact Fr.alloc _ _
  have hbx : w1.heap[w.heap.size]? = some (dclO D.kind D.type (.slice a D.names.length c) D.at_) := by rw [hw1]; exact alloc_obj w _
  have hL1 := h.new hfr
  obtain ⟨_, _, c4, _, _⟩ := lies_cells hL1
  have HLK := Lib.hid fun s => lies_rm hL1 hr s true
  have b0 : w1.cell? ⟨w.heap.size, 0, none⟩ = some (.string D.kind) := obj_cell hbx 0 rfl
  have b2 : w1.cell? ⟨w.heap.size, 2, none⟩ = some (.slice a D.names.length c) := obj_cell hbx 2 rfl
  have hfw : Fr nothing w0 w1 := (Fr.new h0).trans hfr
  have k1 := str_ilit D.kind [115, 116, 97, 114, 116] false (decide_eq_false hk.1)
  have k2 := str_ilit D.kind [116, 121, 112, 101] false (decide_eq_false hk.2)
  have HN := Lib.hid (hn.fr hfw)
  have HW := Lib.hid hw1
  have HF := Lib.hid hfr
  obtain ⟨N, hN⟩ : ∃ N, N = D.names.length := ⟨_, rfl⟩
  unfold dclO at HW
  rw [← hN] at hll hc b2 HW ⊢
  have HNN := Lib.hid hN
  clear hn h hw1 hfr hbx hL1 hfw hk hN
  generalize D.kind = kk at *
  generalize D.type = ty at *
  generalize D.at_ = at_ at *
  go_enter Try.func73, Try.ntmps73
  go_upto_region 1 with fail
  rw [← HW.out]
  go_wp2
  go_loopw [11] (fun i wr => ∃ k : Nat, k ≤ N ∧ i = .int .i64 k ∧ w1 = wr) (fun i _ => N - (intOf i).toNat)
  case atStart => exact ⟨0, Nat.zero_le _, rfl, rfl⟩
  case round =>
    obtain ⟨k, hk, rfl, rfl⟩ := hrel
    by_cases hlt : k < N
    · have hk' : k < D.names.length := by rw [← HNN.out]; exact hlt
      obtain ⟨b, o, rfl, _, x0⟩ := Rows'.at (n := N) (by rw [HNN.out]; exact HN.out) hk'
      rw [Nat.mul_one] at x0
      have hlk := HLK.out D.names[k]
      simp only [if_true] at hlk
      generalize D.names[k] = s at *
      generalize (findN? M.rm s).getD 0 = z1 at *
      generalize (findN? M.rm s).isSome = z2 at *
      go_wp2
      go_roundw
      case rel => exact ⟨k + 1, by omega, by simp, trivial⟩
      case measure => simp [intOf]; omega
    · obtain rfl : k = N := by omega
      clear hlt
      go_wp2
      go_end0
      exact ⟨rfl, HF.out⟩
end Go.Proofs.Ytehaoiimhgkckaa
