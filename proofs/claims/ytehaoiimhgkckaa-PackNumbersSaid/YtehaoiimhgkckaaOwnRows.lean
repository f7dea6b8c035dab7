/-
  Lists of one's own: what appending leaves of the older value; marks.
-/
import Derived.Test.YtehaoiimhgkckaaOwn
import Derived.Test.YtehaoiimhgkckaaMkGram
import Derived.ArgAppend
import Derived.Test.YtehaoiimhgkckaaUse7
import Derived.Laws.OwnMore
namespace Go.Proofs.Ytehaoiimhgkckaa
open Go.RowKit
set_option maxHeartbeats 400000

/-- append onto a list of one's own: the new value, and the older one, which reads as it did. -/
theorem wpList_append_keep {P : Program} {w : World} {ops : Array Oper} {rest : List Oper} {o : Oper} {a : Act} {Q : Exit → Act → World → Prop} (hgd : o.guard = none) (s x : Operand) (t : TypeId)
    (ho : o.op = .call { callee := .builtin .append, args := #[s, x], argTypes := #[t, t] })
    (base : Nat) (e : TypeId) (i : TypeInfo) (z : Value) (size bytes : Nat) (ht : P.underlying t = some (.slice e)) (hi : P.info? e = some i) (hz : i.zero = some z)
    (hsize : i.size = size) (hby : i.bytes = bytes) (hzs : z.cells.size = size) (hsz : 0 < size)
    (v : Value) (n : Nat) (xs : List Value) (hs : a.eval s = v) (hown : w.ownsRow base e size v n xs)
    (ad : Addr) (m c : Nat) (news : List Value) (hx : a.eval x = .slice (some ad) m c) (hl : news.length = m * size)
    (hnews : ∀ j u, news[j]? = some u → w.cell? (ad.add j) = some u) (h1 : ∀ u ∈ news, u.oneCell' = true)
    (hm : 0 < m) (h63 : n + m ≤ maxLen) (hbytes : (n + m) * bytes ≤ 140737488355328) (hbase : base ≤ w.heap.size)
    (h : ∀ v' w', w'.ownsRow base e size v' (n + m) (xs ++ news) → w'.ownsRow base e size v n xs → Fr (fun g => v.ownBlock = some g) w w' → ((∃ g c, v = .slice (some ⟨g, 0, none⟩) n c ∧ v' = .slice (some ⟨g, 0, none⟩) (n + m) c) ∨ ∀ g, v'.ownBlock = some g → w.heap.size ≤ g) → wpList P ops Q rest (a.put o.dst v') w') :
    wpList P ops Q (o :: rest) a w := by
  have hown' := hown
  obtain ⟨hlen, h2⟩ := hown
  rcases h2 with ⟨rfl, rfl⟩ | ⟨g, cap, cur, rfl, hb, hg, r1, r2, r3, r4⟩
  · have hxs : xs = [] := List.eq_nil_of_length_eq_zero (by simpa using hlen)
    subst hxs
    refine wpList_append_grows w hgd s x t ho e i z size bytes ht hi hz hsize hby hzs hsz none 0 0 [] hs (fun _ => ⟨rfl, rfl⟩) (by simp) (fun _ e => by cases e) ad m c news hx hl hnews h1 (by omega) h63 hbytes fun v' w' k1 k2 => ?_
    refine h v' w' (own_base k1 hbase) ⟨by simp, .inl ⟨rfl, rfl⟩⟩ ((Fr.grown k2).mono fun _ _ e => e) (.inr fun g e => (k1.lt g e).1)
  · by_cases hroom : n + m ≤ cap
    · refine wpList_append_room hgd s x t ho base e i size ht hi hsize g n cap xs hs hown' (some ad) m c news hx hl (.inr ⟨ad, rfl, hnews⟩) h1 hroom fun w' k1 k2 => ?_
      refine h _ w' k1 ?_ ((Fr.grown k2).mono fun _ _ e => by simpa [Value.ownBlock] using e) (.inl ⟨g, cap, rfl, rfl⟩)
      obtain ⟨k3, k4⟩ := k1
      rcases k4 with ⟨k4, _⟩ | ⟨g', cap', cur', k4, q1, q2, q3, q4, q5, q6⟩
      · cases k4
      · simp only [Value.slice.injEq, Option.some.injEq, Addr.mk.injEq] at k4
        obtain ⟨⟨rfl, -⟩, -, rfl⟩ := k4
        refine ⟨hlen, .inr ⟨g, cap, cur', rfl, q1, q2, r1, q4, q5, ?_⟩⟩
        have : (cur'.toList.take ((n + m) * size)).take (n * size) = (xs ++ news).take (n * size) := by rw [q6]
        rw [List.take_take, Nat.min_eq_left (Nat.mul_le_mul_right _ (Nat.le_add_right _ _)), List.take_left' hlen] at this
        exact this
    · refine wpList_append_grows w hgd s x t ho e i z size bytes ht hi hz hsize hby hzs hsz (some ⟨g, 0, none⟩) n cap xs hs (fun e => by cases e) hlen (fun b e j u hu => ?_) ad m c news hx hl hnews h1 (by omega) h63 hbytes fun v' w' k1 k2 => ?_
      · cases e
        exact hown'.cells (g := g) rfl j u hu
      · exact h v' w' (own_base k1 hbase) (own_fr hown' (Fr.grown k2) fun g e e2 => by cases e2) ((Fr.grown k2).mono fun _ _ e => by cases e) (.inr fun g e => (k1.lt g e).1)

/-- The first of a list of one's own. -/
theorem own_pre {w : World} {B e g m n c : Nat} {zs : List Value} (h : w.ownsRow B e 1 (.slice (some ⟨g, 0, none⟩) m c) m zs) (hn : n ≤ m) : w.ownsRow B e 1 (.slice (some ⟨g, 0, none⟩) n c) n (zs.take n) := by
  obtain ⟨hl, h2⟩ := h
  rcases h2 with ⟨h2, _⟩ | ⟨g', cap, cur, h2, hb, hg, r1, r2, r3, r4⟩
  · cases h2
  · simp only [Value.slice.injEq, Option.some.injEq, Addr.mk.injEq] at h2
    obtain ⟨⟨rfl, -⟩, -, rfl⟩ := h2
    refine ⟨by rw [List.length_take]; omega, .inr ⟨g, c, cur, rfl, hb, hg, by omega, r2, r3, ?_⟩⟩
    rw [← r4, List.take_take]
    congr 1
    omega
def mk (k i : Nat) : Int := 1000003 * ((k : Int) + 7) + i
def mks (k n : Nat) : List Int := (List.range n).map fun i => mk k i
theorem mks_len (k n : Nat) : (mks k n).length = n := by simp [mks]
theorem mks_get (k n i : Nat) (h : i < n) : (mks k n)[i]'(by rw [mks_len]; exact h) = mk k i := by simp [mks]
theorem mks_succ (k n : Nat) : mks k (n + 1) = mks k n ++ [mk k n] := by simp [mks, List.range_succ]
theorem mks_take (k a b : Nat) : (mks k (a + b)).take a = mks k a := by
  unfold mks
  rw [← List.map_take, List.take_range, Nat.min_eq_left (Nat.le_add_right _ _)]
theorem markK_any (k i : Nat) (w : World) (hk : k ≤ 100000) (hi : i ≤ 1000000000) :
    Calls Try.prog 57 #[.int .i64 k, .int .i64 i] w fun e w' => e = .returned (.int .i64 (mk k i)) ∧ w = w' := by
  go_enter Try.func57, Try.ntmps57
  go_wp2
  go_ret
  exact ⟨rfl, rfl⟩
end Go.Proofs.Ytehaoiimhgkckaa
