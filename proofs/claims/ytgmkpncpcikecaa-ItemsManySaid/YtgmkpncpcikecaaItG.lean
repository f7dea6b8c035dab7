/-
  Package items: a kernel's key.
-/
import Derived.Test.YtgmkpncpcikecaaItF
import Derived.Test.YtgmkpncpcikecaaBits3
namespace Go.Proofs.Ytgmkpncpcikecaa
open Go.RowKit Go.MapKept Go.ChangeMaps
set_option maxHeartbeats 400000

def numsI (K : List It) : List Int := K.flatMap fun x => [x.1, x.2]
theorem numsI_snoc (K : List It) (x : It) : numsI (K ++ [x]) = numsI K ++ [x.1, x.2] := by simp [numsI]
theorem numsI_len (K : List It) : (numsI K).length = 2 * K.length := by
  induction K with
  | nil => rfl
  | cons x K ih => rw [numsI, List.flatMap_cons, List.length_append]; show 2 + (numsI K).length = _; rw [ih, List.length_cons]; omega
def keyK (K : List It) : ByteArray := strOfNums (keyNums (numsI K))
def smallI (x : It) : Prop := small x.1 = true ∧ small x.2 = true
theorem u8_inj {a b : Int} (ha : 0 ≤ a ∧ a < 256) (hb : 0 ≤ b ∧ b < 256) (h : UInt8.ofNat a.toNat = UInt8.ofNat b.toNat) : a = b := by
  have := congrArg UInt8.toNat h
  simp at this
  omega
theorem keyNums_inj : ∀ (xs ys : List Int), (∀ x ∈ xs, small x = true) → (∀ y ∈ ys, small y = true) →
    (keyNums xs).map (fun n => UInt8.ofNat n.toNat) = (keyNums ys).map (fun n => UInt8.ofNat n.toNat) → xs = ys
  | [], [], _, _, _ => rfl
  | [], y :: ys, _, _, h => by simp [keyNums] at h
  | x :: xs, [], _, _, h => by simp [keyNums] at h
  | x :: xs, y :: ys, hx, hy, h => by
    have e1 : keyNums (x :: xs) = x / 256 :: x % 256 :: keyNums xs := by simp [keyNums]
    have e2 : keyNums (y :: ys) = y / 256 :: y % 256 :: keyNums ys := by simp [keyNums]
    rw [e1, e2] at h
    simp only [List.map_cons, List.cons.injEq] at h
    have h1 := (small_iff _).1 (hx x (by simp))
    have h2 := (small_iff _).1 (hy y (by simp))
    have a1 := u8_inj (a := x / 256) (b := y / 256) (by omega) (by omega) h.1
    have a2 := u8_inj (a := x % 256) (b := y % 256) (by omega) (by omega) h.2.1
    have a3 := keyNums_inj xs ys (fun z hz => hx z (by simp [hz])) (fun z hz => hy z (by simp [hz])) h.2.2
    rw [a3]
    congr 1
    omega
theorem numsI_inj : ∀ (K L : List It), numsI K = numsI L → K = L
  | [], [], _ => rfl
  | [], y :: L, h => by simp [numsI] at h
  | x :: K, [], h => by simp [numsI] at h
  | x :: K, y :: L, h => by
    have e1 : numsI (x :: K) = x.1 :: x.2 :: numsI K := by simp [numsI]
    have e2 : numsI (y :: L) = y.1 :: y.2 :: numsI L := by simp [numsI]
    rw [e1, e2] at h
    simp only [List.cons.injEq] at h
    rw [numsI_inj K L h.2.2]
    exact congrArg (· :: L) (Prod.ext h.1 h.2.1)
theorem keyK_inj {K L : List It} (hK : ∀ x ∈ K, smallI x) (hL : ∀ x ∈ L, smallI x) (h : keyK K = keyK L) : K = L := by
  have hs : ∀ {M : List It}, (∀ x ∈ M, smallI x) → ∀ y ∈ numsI M, small y = true := fun hM y hy => by
    obtain ⟨x, hx, hy⟩ := List.mem_flatMap.1 hy
    simp only [List.mem_cons, List.not_mem_nil, or_false] at hy
    rcases hy with rfl | rfl
    · exact (hM x hx).1
    · exact (hM x hx).2
  refine numsI_inj K L (keyNums_inj _ _ (hs hK) (hs hL) ?_)
  unfold keyK strOfNums at h
  simpa using h

set_option maxRecDepth 100000 in
set_option maxHeartbeats 4000000 in
theorem keyI_any (K : List It) (v : Value) (w : World) (hv : IsItems w v K) (hl : K.length ≤ 100000) (hs : ∀ x ∈ K, smallI x) :
    Calls Try.prog 32 #[v] w fun e w' => e = .returned (.string (keyK K)) ∧ Below w.heap.size w w' := by
  obtain ⟨i0, hi, hz0, hz1, hz2⟩ := info_parts Try.infoIntI
  have HV := Lib.hid hv
  obtain ⟨va, vc, rfl, -, -, -⟩ := hv.parts
  have hsn : ∀ y ∈ numsI K, small y = true := fun y hy => by
    obtain ⟨x, hx, hy⟩ := List.mem_flatMap.1 hy
    simp only [List.mem_cons, List.not_mem_nil, or_false] at hy
    rcases hy with rfl | rfl
    · exact (hs x hx).1
    · exact (hs x hx).2
  have HS := Lib.hid hsn
  clear hv hs hsn
  obtain ⟨n, hn⟩ : ∃ n, K.length = n := ⟨_, rfl⟩
  have hnl := numsI_len K
  rw [hn] at hl hnl ⊢
  have HN := Lib.hid hn
  have HNL := Lib.hid hnl
  clear hn hnl
  go_enter Try.func32, Try.ntmps32
  go_wp2
  go_loopw [3, 10] (fun u i wr => ∃ k : Nat, k ≤ n ∧ i = .int .i64 k ∧ wr.ownsRow w.heap.size 3 1 u (2 * k) ((numsI (K.take k)).map (Value.int .i64)) ∧ Below w.heap.size w wr) (fun _ i _ => n - (intOf i).toNat)
  case atStart => exact ⟨0, Nat.zero_le _, rfl, World.ownsRow_nil _ _ _ _, Below.refl _ _⟩
  case round =>
    obtain ⟨k, hk, rfl, hown, hB⟩ := hrel
    by_cases hlt : k < n
    · have hkl : k < K.length := by rw [HN.out]; exact hlt
      obtain ⟨b', o, rfl, c0, c1, i1, i2⟩ := (HV.out.fr (Fr.new hB)).at hkl
      have hsn : numsI (K.take (k + 1)) = numsI (K.take k) ++ [K[k].1, K[k].2] := by rw [take_snocI hkl]; exact numsI_snoc _ _
      generalize K[k] = x at *
      obtain ⟨xp, xd⟩ := x
      simp only at c0 c1 hsn i1 i2
      have HSN := Lib.hid hsn
      have hsz := hB.size
      have hnew := alloc_obj wr (Obj.cells #[.int .i64 xp, .int .i64 xd] 41 (0, 0))
      have e0 := obj_cell hnew 0 (v := .int .i64 xp) rfl
      have e1 := obj_cell hnew 1 (v := .int .i64 xd) rfl
      have ho1 := hown.alloc (Obj.cells #[.int .i64 xp, .int .i64 xd] 41 (0, 0))
      have hB1 := hB.alloc hsz (Obj.cells #[.int .i64 xp, .int .i64 xd] 41 (0, 0))
      have hlt' := ho1.lt
      clear hsn hnew hown hB
      go_upto_region 5 with fail
      generalize wr.alloc (Obj.cells #[.int .i64 xp, .int .i64 xd] 41 (0, 0)) = W1 at *
      go_wp2_with (at_builtin; refine wpList_append_own _ rfl _ _ 46 rfl w.heap.size 3 i0 (.int .i64 0) 1 8 Try.underlying46 hi hz0 hz1 hz2 rfl (by decide) _ _ _ rfl (ho1.alloc _) ⟨W1.heap.size, 0, none⟩ 2 2 [.int .i64 xp, .int .i64 xd] rfl rfl (cell_two_new _ _ _ _) (by simp [Value.oneCell']) (by unfold maxLen; omega) (by omega) (by have := hB1.size; simp; omega) ?_; intro v' w2 hown2 hgrow _)
      have hf1 : Fr (fun g => u3.ownBlock = some g) W1 w2 := ((Fr.alloc _ _).trans (Fr.grown hgrow))
      go_roundw
      case rel => exact ⟨k + 1, by omega, by simp, by rw [HSN.out]; simpa [Nat.mul_add] using hown2, hB1.trans (hf1.below hB1.size (fun g e => by have := (hlt' _ e).1; omega))⟩
      case measure => simp [intOf]; omega
    · obtain rfl : k = n := by omega
      rw [← HN.out, List.take_of_length_le (Nat.le_refl _), HN.out] at hown
      have hints : ∃ a c, u3 = .slice a (2 * k) c ∧ (numsI K = [] ∨ ∃ b o, a = some ⟨b, o, none⟩ ∧ Cells wr b o ((numsI K).map (Value.int .i64))) := by
        obtain ⟨a, c, e, h1, h2, h3⟩ := own_as_cells hown
        refine ⟨a, c, e, ?_⟩
        rcases h3 with h3 | ⟨g, rfl, -, hc⟩
        · exact .inl (by simpa using h3)
        · exact .inr ⟨g, 0, rfl, hc⟩
      obtain ⟨a, c, rfl, hx⟩ := hints
      have hkey := key_ok a c (numsI K) wr (by rw [HNL.out]; omega) hx HS.out
      rw [HNL.out] at hkey
      have HK := Lib.hid hkey
      clear hkey hx hlt
      go_wp2_with (go_at_call 49; refine HK.out.mono ?_; rintro e w1 ⟨rfl, hb1⟩)
      go_ret
      exact ⟨rfl, hB.trans (hb1.mono hB.size)⟩
end Go.Proofs.Ytgmkpncpcikecaa
