/-
  Package pack: put's closures, where nothing is put yet.
-/
import Derived.Test.YtehaoiimhgkckaaPa4
import Derived.Test.YtehaoiimhgkckaaPa1
import Derived.Deep.RegionHeld3
namespace Go.Proofs.Ytehaoiimhgkckaa
open Go.RowKit
set_option maxHeartbeats 400000


set_option maxRecDepth 100000 in
theorem inA_any (b0 b1 pb : Nat) (w : World) (h0 : w.cell? ⟨b0, 0, none⟩ = some (.int .i64 0)) (h1 : w.cell? ⟨b1, 0, none⟩ = some (.pointer (some ⟨pb, 0, none⟩))) (h2 : w.cell? ⟨pb, 1, none⟩ = some (.slice none 0 0)) :
    Calls Try.prog 79 #[.int .i64 2, .pointer (some ⟨b0, 0, none⟩), .pointer (some ⟨b1, 0, none⟩)] w fun e w' => e = .returned (.bool false) ∧ Below w.heap.size w w' := by
  have e1 : IntKind.i64.wrap (0 + 2) = 2 := by decide
  have e2 : IntKind.i64.wrap 2 = 2 := by decide
  have e3 : decide ((2 : Int) < 0) = false := by decide
  go_enter Try.func79, Try.ntmps79
  go_wp2_with fail
  go_quiet (fail)
  go_wp2
  go_ret
  exact ⟨rfl, below_drewN (Below.refl _ _) _⟩
set_option maxRecDepth 100000 in
theorem freeA_any (kb b1 pb : Nat) (kv : Value) (w : World) (h0 : w.cell? ⟨kb, 0, none⟩ = some kv) (hk : Ints w kv [2]) (h1 : w.cell? ⟨b1, 0, none⟩ = some (.pointer (some ⟨pb, 0, none⟩))) (h2 : w.cell? ⟨pb, 1, none⟩ = some (.slice none 0 0)) :
    Calls Try.prog 78 #[.int .i64 0, .pointer (some ⟨kb, 0, none⟩), .pointer (some ⟨b1, 0, none⟩)] w fun e w' => e = .returned (.bool true) ∧ Below w.heap.size w w' := by
  have hf := Fr.alloc (ch := nothing) w (.cells #[.int .i64 0] 3 (0, 0))
  have ho := alloc_obj w (.cells #[.int .i64 0] 3 (0, 0))
  have hc := containsA_any (w.alloc (.cells #[.int .i64 0] 3 (0, 0))) w.heap.size b1 (fun _ => false) [2] kv (hk.fr hf) (fun W hW x hx => by
    obtain rfl := List.mem_singleton.1 hx
    exact inA_any w.heap.size b1 pb W ((Fr.new hW).cell (obj_cell ho 0 rfl) fun e => e) ((hf.trans (Fr.new hW)).cell h1 fun e => e) ((hf.trans (Fr.new hW)).cell h2 fun e => e))
  obtain ⟨_, _, a, c, rfl, _, _, _⟩ := id hk
  rw [show ([2] : List Int).any (fun _ => false) = false from rfl] at hc
  have h0' := hf.cell h0 fun e => e
  simp only [List.length_cons, List.length_nil, Nat.zero_add] at hc h0'
  have HC := Lib.hid hc
  have HF := Lib.hid hf
  clear hc hf ho hk h0 h1 h2
  go_enter Try.func78, Try.ntmps78
  go_wp2_with (go_at_call 75; refine HC.out.mono ?_; rintro e w2 ⟨rfl, hb⟩)
  go_ret
  exact ⟨rfl, (HF.out.trans (Fr.new hb)).below_new⟩


set_option maxRecDepth 100000 in
theorem inI_any (b0 b1 pb : Nat) (w : World) (h0 : w.cell? ⟨b0, 0, none⟩ = some (.int .i64 0)) (h1 : w.cell? ⟨b1, 0, none⟩ = some (.pointer (some ⟨pb, 0, none⟩))) (h2 : w.cell? ⟨pb, 1, none⟩ = some (.slice none 0 0)) :
    Calls Try.prog 81 #[.int .i64 1, .pointer (some ⟨b0, 0, none⟩), .pointer (some ⟨b1, 0, none⟩)] w fun e w' => e = .returned (.bool false) ∧ Below w.heap.size w w' := by
  have e1 : IntKind.i64.wrap (0 + 1) = 1 := by decide
  have e2 : IntKind.i64.wrap 1 = 1 := by decide
  have e3 : decide ((1 : Int) < 0) = false := by decide
  go_enter Try.func81, Try.ntmps81
  go_wp2_with fail
  go_quiet (fail)
  go_wp2
  go_ret
  exact ⟨rfl, below_drewN (Below.refl _ _) _⟩
set_option maxRecDepth 100000 in
theorem freeI_any (kb b1 pb : Nat) (kv : Value) (w : World) (h0 : w.cell? ⟨kb, 0, none⟩ = some kv) (hk : Ints w kv [1]) (h1 : w.cell? ⟨b1, 0, none⟩ = some (.pointer (some ⟨pb, 0, none⟩))) (h2 : w.cell? ⟨pb, 1, none⟩ = some (.slice none 0 0)) :
    Calls Try.prog 80 #[.int .i64 0, .pointer (some ⟨kb, 0, none⟩), .pointer (some ⟨b1, 0, none⟩)] w fun e w' => e = .returned (.bool true) ∧ Below w.heap.size w w' := by
  have hf := Fr.alloc (ch := nothing) w (.cells #[.int .i64 0] 3 (0, 0))
  have ho := alloc_obj w (.cells #[.int .i64 0] 3 (0, 0))
  have hc := containsI_any (w.alloc (.cells #[.int .i64 0] 3 (0, 0))) w.heap.size b1 (fun _ => false) [1] kv (hk.fr hf) (fun W hW x hx => by
    obtain rfl := List.mem_singleton.1 hx
    exact inI_any w.heap.size b1 pb W ((Fr.new hW).cell (obj_cell ho 0 rfl) fun e => e) ((hf.trans (Fr.new hW)).cell h1 fun e => e) ((hf.trans (Fr.new hW)).cell h2 fun e => e))
  obtain ⟨_, _, a, c, rfl, _, _, _⟩ := id hk
  rw [show ([1] : List Int).any (fun _ => false) = false from rfl] at hc
  have h0' := hf.cell h0 fun e => e
  simp only [List.length_cons, List.length_nil, Nat.zero_add] at hc h0'
  have HC := Lib.hid hc
  have HF := Lib.hid hf
  clear hc hf ho hk h0 h1 h2
  go_enter Try.func80, Try.ntmps80
  go_wp2_with (go_at_call 75; refine HC.out.mono ?_; rintro e w2 ⟨rfl, hb⟩)
  go_ret
  exact ⟨rfl, (HF.out.trans (Fr.new hb)).below_new⟩

end Go.Proofs.Ytehaoiimhgkckaa
