/-
  BitsApart: two rows have one key just if they are one: the walk over the keys' contract, and the plain law that a key tells its row.
-/
import Derived.Test.YtlilegbdjnhfjaaDoorBits5
namespace Go.Proofs.YtlilegbdjnhfjaaDoor
open Go.RowKit
set_option maxHeartbeats 400000

def keyS (xs : List Int) : ByteArray := if xs.all small = true then strOfNums (keyNums xs) else ⟨#[]⟩
def keyE (xs : List Int) : Int := if xs.all small = true then 0 else 2
theorem key_any (v : Value) (xs : List Int) (w : World) (h : Ints w v xs) :
    Calls Tryd.prog 9 #[v] w fun e w' => e = .returned (.tuple #[.string (keyS xs), .int .i64 (keyE xs)]) ∧ Below w.heap.size w w' := by
  obtain ⟨a, cap, rfl, h1, h2⟩ := h.parts
  by_cases hs : xs.all small = true
  · have e1 : keyS xs = strOfNums (keyNums xs) := by unfold keyS; rw [if_pos hs]
    have e2 : keyE xs = 0 := by unfold keyE; rw [if_pos hs]
    rw [e1, e2]
    exact key_ok a cap xs w h1 h2 (List.all_eq_true.1 hs)
  · have e1 : keyS xs = ⟨#[]⟩ := by unfold keyS; rw [if_neg hs]
    have e2 : keyE xs = 2 := by unfold keyE; rw [if_neg hs]
    rw [e1, e2]
    exact key_bad a cap xs w h1 h2 (fun h => hs (List.all_eq_true.2 h))

theorem u8_inj {a b : Int} (ha : 0 ≤ a ∧ a < 256) (hb : 0 ≤ b ∧ b < 256) (h : UInt8.ofNat a.toNat = UInt8.ofNat b.toNat) : a = b := by
  have := congrArg UInt8.toNat h
  simp at this
  omega
theorem keyNums_inj : ∀ (xs ys : List Int), (∀ x ∈ xs, small x = true) → (∀ y ∈ ys, small y = true) →
    (keyNums xs).map (fun n => UInt8.ofNat n.toNat) = (keyNums ys).map (fun n => UInt8.ofNat n.toNat) → xs = ys
  | [], [], _, _, _ => rfl
  | [], y :: ys, _, _, h => by simp [keyNums] at h
  | x :: xs, [], _, _, h => by simp [keyNums] at h
  | x :: xs, y :: ys, hx, hy, h => by
    have e1 : keyNums (x :: xs) = x / 256 :: x % 256 :: keyNums xs := by simp [keyNums]
    have e2 : keyNums (y :: ys) = y / 256 :: y % 256 :: keyNums ys := by simp [keyNums]
    rw [e1, e2] at h
    simp only [List.map_cons, List.cons.injEq] at h
    have h1 := (small_iff _).1 (hx x (by simp))
    have h2 := (small_iff _).1 (hy y (by simp))
    have a1 := u8_inj (a := x / 256) (b := y / 256) (by omega) (by omega) h.1
    have a2 := u8_inj (a := x % 256) (b := y % 256) (by omega) (by omega) h.2.1
    have a3 := keyNums_inj xs ys (fun z hz => hx z (by simp [hz])) (fun z hz => hy z (by simp [hz])) h.2.2
    rw [a3]
    congr 1
    omega
theorem keyS_eq (xs ys : List Int) (hx : keyE xs = 0) (hy : keyE ys = 0) : decide (keyS xs = keyS ys) = sameI xs ys := by
  have h1 : xs.all small = true := by
    unfold keyE at hx; split at hx
    · assumption
    · cases hx
  have h2 : ys.all small = true := by
    unfold keyE at hy; split at hy
    · assumption
    · cases hy
  unfold sameI
  by_cases e : xs = ys
  · simp [e]
  · have hne : keyS xs ≠ keyS ys := fun h => by
      unfold keyS at h
      rw [if_pos h1, if_pos h2] at h
      unfold strOfNums at h
      have h' := congrArg (fun b : ByteArray => b.data.toList) h
      exact e (keyNums_inj xs ys (List.all_eq_true.1 h1) (List.all_eq_true.1 h2) h')
    simp [e, hne]

set_option maxRecDepth 100000 in
theorem bitsApart_any (u v : Value) (xs ys : List Int) (w : World) (hx : Ints w u xs) (hy : Ints w v ys) (hT : Tab w) :
    Calls Tryd.prog 4 #[u, v] w fun e w' => e = .returned (.bool true) ∧ Below w.heap.size w w' := by
  obtain ⟨a, ca, rfl, hl1, _⟩ := hx.parts
  obtain ⟨b, cb, rfl, hl2, _⟩ := hy.parts
  have HA := Lib.hid (awake_any w hT)
  by_cases g1 : 3000 < xs.length
  · clear hx hy hl1 hl2
    go_enter Tryd.func4, Tryd.ntmps4
    go_wp2_with (go_at_call 7; refine HA.out.mono ?_; rintro e w1 ⟨rfl, hB1⟩)
    go_ret
    exact ⟨rfl, hB1⟩
  · by_cases g2 : 3000 < ys.length
    · clear hx hy hl1 hl2
      go_enter Tryd.func4, Tryd.ntmps4
      go_wp2_with (go_at_call 7; refine HA.out.mono ?_; rintro e w1 ⟨rfl, hB1⟩)
      go_ret
      exact ⟨rfl, hB1⟩
    · go_enter Tryd.func4, Tryd.ntmps4
      go_wp2_with (go_at_call 7; refine HA.out.mono ?_; rintro e w1 ⟨rfl, hB1⟩)
      have hx1 := hx.fr (Fr.new hB1)
      refine (key_any _ xs _ hx1).mono ?_
      rintro e w2 ⟨rfl, hB2⟩
      have hx2 := hx1.fr (Fr.new hB2)
      have hy2 := (hy.fr (Fr.new hB1)).fr (Fr.new hB2)
      go_wp2_with fail
      refine (key_any _ ys _ hy2).mono ?_
      rintro e w3 ⟨rfl, hB3⟩
      have hS := same_any _ _ xs ys w3 (hx2.fr (Fr.new hB3)) (hy2.fr (Fr.new hB3))
      have hK := keyS_eq xs ys
      have hB : Below w.heap.size w w3 := (hB1.trans (hB2.mono hB1.size)).trans (hB3.mono (Nat.le_trans hB1.size hB2.size))
      have HS := Lib.hid hS
      have HK := Lib.hid hK
      clear hS hK hx hy hx1 hx2 hy2 hB1 hB2 hB3 HA hl1 hl2
      generalize keyE xs = p at *
      generalize keyE ys = q at *
      generalize keyS xs = s at *
      generalize keyS ys = t at *
      generalize sameI xs ys = m at *
      by_cases hp : p = 0
      · subst hp
        by_cases hq : q = 0
        · subst hq
          have hst := HK.out rfl rfl
          subst hst
          clear HK
          go_wp2_with (go_at_call 12; refine HS.out.mono ?_; rintro e w4 ⟨rfl, n, rfl⟩)
          go_ret
          exact ⟨congrArg (fun t => Ending.returned (Value.bool t)) (by rw [str_eq]; simp), hB.trans (Fr.drewN (ch := nothing) w3 n |>.below_new.mono hB.size)⟩
        · have hq' : (q != 0) = true := by simpa using hq
          clear hq
          go_wp2_with (go_at_call 12; refine HS.out.mono ?_; rintro e w4 ⟨rfl, n, rfl⟩)
          go_ret
          exact ⟨rfl, hB⟩
      · have hp' : (p != 0) = true := by simpa using hp
        clear hp
        go_wp2_with (go_at_call 12; refine HS.out.mono ?_; rintro e w4 ⟨rfl, n, rfl⟩)
        go_ret
        exact ⟨rfl, hB⟩
end Go.Proofs.YtlilegbdjnhfjaaDoor
