/-
  Package symbols: binds, where nothing is thrown.
-/
import Derived.Test.YtehaoiimhgkckaaMake6
namespace Go.Proofs.Ytehaoiimhgkckaa
open Go.RowKit Go.MapKept Go.ChangeMaps
set_option maxHeartbeats 400000

theorem bindN_cons {a : Int} {M M' : Mst} {s : ByteArray} {l : List ByteArray} (h : bindN a M (s :: l) = some M') :
    oddG s = false ∧ lvlAt (termN M s nNone).1 (termN M s nNone).2 = some 0 ∧ bindN a (setLv (termN M s nNone).1 (termN M s nNone).2.toNat (termN M s nNone).1.level a) l = some M' := by
  unfold bindN at h
  split at h
  · cases h
  · rename_i h1
    simp only at h
    split at h
    · rename_i h2
      exact ⟨by simpa using h1, h2, h⟩
    · cases h
theorem lvlAt_some {M : Mst} {n v : Int} (h : lvlAt M n = some v) : ∃ m : Nat, n = m ∧ ∃ hm : m < M.syms.length, M.syms[m].level = v := by
  unfold lvlAt at h
  split at h
  · cases h
  · rename_i h1
    obtain ⟨x, hx, rfl⟩ := Option.map_eq_some_iff.1 h
    obtain ⟨hm, rfl⟩ := List.getElem?_eq_some_iff.1 hx
    exact ⟨n.toNat, by omega, hm, rfl⟩
theorem term_level (M : Mst) (s ty : ByteArray) : (termN M s ty).1.level = M.level := by
  unfold termN
  cases findN? M.tm s <;> rfl
theorem flat_level {l : List Sym} {m : Nat} (h : m < l.length) : (l.flatMap symCells)[m * 4 + 2]? = some (.int .i64 l[m].level) ∧ (l.flatMap symCells)[m * 4 + 3]? = some (.int .u8 l[m].assoc) := by
  induction l generalizing m with
  | nil => simp at h
  | cons x l ih =>
    cases m with
    | zero => simp [symCells]
    | succ m =>
      obtain ⟨h1, h2⟩ := ih (m := m) (by simpa using h)
      rw [List.flatMap_cons]
      rw [show (m + 1) * 4 + 2 = (symCells x).length + (m * 4 + 2) by simp [symCells]; omega, show (m + 1) * 4 + 3 = (symCells x).length + (m * 4 + 3) by simp [symCells]; omega]
      rw [List.getElem?_append_right (Nat.le_add_right _ _), List.getElem?_append_right (Nat.le_add_right _ _)]
      simpa using ⟨h1, h2⟩
theorem own_at {w : World} {B e size n : Nat} {v : Value} {xs : List Value} (h : w.ownsRow B e size v n xs) (hn : 0 < n) : ∃ g c, v = .slice (some ⟨g, 0, none⟩) n c ∧ n ≤ c ∧ c ≤ maxLen := by
  rcases h.2 with ⟨_, h2⟩ | ⟨g, cap, cur, rfl, hb, hg, r1, r2, _⟩
  · omega
  · exact ⟨g, cap, rfl, r1, r2⟩
/-- The maker's cells, and its list of symbols, at a place, wherever nothing of what was there has turned. -/
theorem lies_sym {w : World} {B mb tb rb : Nat} {M : Mst} (h : Lies w B mb tb rb M) {m : Nat} (hm : m < M.syms.length) :
    ∃ g c, M.syms.length ≤ c ∧ c ≤ 9223372036854775807 ∧ g ≠ mb ∧ g < w.heap.size ∧ B ≤ g ∧ ∀ W, Fr nothing w W →
      (W.cell? ⟨mb, 1, none⟩ = some (.slice (some ⟨g, 0, none⟩) M.syms.length c) ∧ W.cell? ⟨mb, 6, none⟩ = some (.int .i64 M.level) ∧ W.cell? ⟨g, m * 4 + 2, none⟩ = some (.int .i64 M.syms[m].level) ∧ W.frozen? ⟨g, m * 4 + 2, none⟩ = false ∧ W.frozen? ⟨g, m * 4 + 3, none⟩ = false ∧ (∃ u, W.cell? ⟨g, m * 4 + 3, none⟩ = some u)) ∧
      ∀ (lv a : Int) (w' : World), w' = (W.setCell ⟨g, m * 4 + 2, none⟩ (.int .i64 lv)).setCell ⟨g, m * 4 + 3, none⟩ (.int .u8 a) → Lies w' B mb tb rb (setLv M m lv a) ∧ FM B mb tb rb W w' := by
  obtain ⟨sv, pv, nv, h0⟩ := h
  obtain ⟨g, c, rfl, hc, hcm⟩ := own_at h0.syms (by omega)
  have hg : g < w.heap.size ∧ B ≤ g := by
    have := h0.syms.lt g rfl
    exact ⟨this.2, this.1⟩
  have hgm : g ≠ mb := fun e => own_ne h0.syms h0.obj (by decide) (by rw [e]; rfl)
  refine ⟨g, c, hc, hcm, hgm, hg.1, hg.2, fun W hW => ?_⟩
  have h := h0.new hW
  obtain ⟨f2, f3⟩ := flat_level hm
  have e2 := World.ownsRow.cellAt h.syms (m * 4 + 2) (by omega)
  have e3 := World.ownsRow.cellAt h.syms (m * 4 + 3) (by omega)
  refine ⟨⟨obj_cell h.obj 1 rfl, obj_cell h.obj 6 rfl, by rw [e2, f2], World.ownsRow.frozenAt h.syms _, World.ownsRow.frozenAt h.syms _, ⟨_, by rw [e3, f3]⟩⟩, ?_⟩
  rintro lv a w' rfl
  have k1 : Fr (fun x => (Value.slice (some ⟨g, 0, none⟩) M.syms.length c).ownBlock = some x) W ((W.setCell ⟨g, m * 4 + 2, none⟩ (.int .i64 lv)).setCell ⟨g, m * 4 + 3, none⟩ (.int .u8 a)) :=
    ((Fr.setCell W ⟨g, m * 4 + 2, none⟩ (.int .i64 lv)).trans (Fr.setCell _ ⟨g, m * 4 + 3, none⟩ (.int .u8 a))).mono fun x _ e => by
      have e' : x = g := e
      subst e'
      rfl
  have o1 := (World.ownsRow.stored (World.ownsRow.stored h.syms (m * 4 + 2) (.int .i64 lv)).1 (m * 4 + 3) (.int .u8 a)).1
  rw [flat_modify lv a M.syms m hm] at o1
  refine ⟨⟨_, pv, nv, h.syms' k1 _ (by simpa using o1)⟩, FM.of k1 fun x hx e => ?_⟩
  obtain ⟨q1, cs, fz, q2⟩ := own_kind h.syms x e
  exact .inr (.inr (.inr ⟨q1, cs, _, fz, q2, .inl rfl⟩))
/-- The maker's level turns. -/
theorem lies_level {w : World} {B mb tb rb : Nat} {M : Mst} (h : Lies w B mb tb rb M) (lv : Int) : Lies (w.setCell ⟨mb, 6, none⟩ (.int .i64 lv)) B mb tb rb { M with level := lv } ∧ FM B mb tb rb w (w.setCell ⟨mb, 6, none⟩ (.int .i64 lv)) := by
  obtain ⟨sv, pv, nv, h⟩ := h
  have k : Fr (only mb) w (w.setCell ⟨mb, 6, none⟩ (.int .i64 lv)) := Fr.setCell' _ _ rfl
  refine ⟨⟨sv, pv, nv, h.put k ?_ rfl rfl rfl rfl rfl⟩, FM.of k fun g _ e => .inl e⟩
  have := setCell_obj h.obj (i := 6) (.int .i64 lv)
  simpa [mkO] using this
theorem lies_lt {w : World} {B mb tb rb : Nat} {M : Mst} (h : Lies w B mb tb rb M) : mb < w.heap.size ∧ tb < w.heap.size ∧ rb < w.heap.size ∧ B ≤ mb := by
  obtain ⟨_, _, _, h⟩ := h
  exact ⟨(Array.getElem?_eq_some_iff.1 h.obj).1, h.tm.lt, h.rm.lt, h.far.1⟩
set_option maxRecDepth 100000 in
set_option maxHeartbeats 2000000 in
theorem binds_ok (M M' : Mst) (D : Dcl) (a : Int) (v : Value) (w0 w : World) (mb tb rb : Nat) (hd : IsDcl w0 v D) (h0 : Below w0.heap.size w0 w) (h : Lies w w0.heap.size mb tb rb M) (hl : M.syms.length + D.names.length ≤ 100000) (hu : Uq M.tm)
    (hlv : 0 ≤ M.level ∧ M.level ≤ 100000) (hty : D.type = nNone) (hok : bindN a { M with level := M.level + 1 } D.names = some M') :
    Calls Try.prog 83 #[.pointer (some ⟨mb, 0, none⟩), v, .int .u8 a] w (Res w0.heap.size mb tb rb w (.tuple #[]) M') := by
  obtain ⟨kind, type, names, at_⟩ := D
  obtain ⟨hat, nv, hn, rfl⟩ := hd
  simp only at hat hn hl hok hty ⊢
  obtain ⟨hnl, na, nc, rfl, _, _, hx⟩ := hn
  have hB := h0.size
  have hm := lies_lt h
  have HN := fun k b L w hb hl hL => Lib.hid (throw_none k at_ b L w hb hl hL)
  have HX := Lib.hid hx
  have HK := Lib.hid hok
  subst hty
  have c6 : w.cell? ⟨mb, 6, none⟩ = some (.int .i64 M.level) := by
    obtain ⟨_, _, _, h⟩ := h
    exact obj_cell h.obj 6 rfl
  have f6 : w.frozen? ⟨mb, 6, none⟩ = false := by
    obtain ⟨_, _, _, h⟩ := h
    exact obj_frozen h.obj 6
  have HL := Lib.hid h
  clear h hx hok
  unfold nNone
  go_enter Try.func83, Try.ntmps83
  go_upto_region 3 with (first | (go_at_call 72; refine Calls.mono (HN 112 _ [false] _ ?_ (by simp) (by simp)).out ?_; exact laid_at (by simp); rintro e w' ⟨rfl, rfl⟩))
  have hLl := lies_level HL.out (M.level + 1)
  have hfa : Fr nothing (w.setCell ⟨mb, 6, none⟩ (.int .i64 (M.level + 1))) (((w.setCell ⟨mb, 6, none⟩ (.int .i64 (M.level + 1))).alloc (dclO kind ⟨#[]⟩ (.slice na names.length nc) at_)).alloc (boolsObj [false])) := (Fr.alloc _ _).trans (Fr.alloc _ _)
  have hbx : (((w.setCell ⟨mb, 6, none⟩ (.int .i64 (M.level + 1))).alloc (dclO kind ⟨#[]⟩ (.slice na names.length nc) at_)).alloc (boolsObj [false])).heap[w.heap.size]? = some (dclO kind ⟨#[]⟩ (.slice na names.length nc) at_) := alloc_older (laid_at (by simp))
  refine wp_atW (F := fun W => Lies W w0.heap.size mb tb rb { M with level := M.level + 1 } ∧ FM w0.heap.size mb tb rb w W ∧ W.heap[w.heap.size]? = some (dclO kind ⟨#[]⟩ (.slice na names.length nc) at_)) ?_ ?_
  · exact ⟨hLl.1.new hfa, hLl.2.trans (FM.new hfa), hbx⟩
  rintro W ⟨q1, q2, q3⟩
  have HQ := Lib.hid (And.intro q1 (And.intro q2 q3))
  have hb2 : W.cell? ⟨w.heap.size, 2, none⟩ = some (.slice na names.length nc) := obj_cell q3 2 rfl
  clear hLl hfa hbx q1 q2 q3 c6 f6
  go_wp2
  go_loopw [27] (fun i wr => ∃ (k : Nat) (Mk : Mst), k ≤ names.length ∧ i = .int .i64 k ∧ Lies wr w0.heap.size mb tb rb Mk ∧ FM w0.heap.size mb tb rb w wr ∧ wr.heap[w.heap.size]? = some (dclO kind ⟨#[]⟩ (.slice na names.length nc) at_) ∧ bindN a Mk (names.drop k) = some M' ∧ Uq Mk.tm ∧ Mk.level = M.level + 1 ∧ Mk.syms.length + (names.length - k) ≤ 100000) (fun i _ => names.length - (intOf i).toNat)
  case atStart => exact ⟨0, _, Nat.zero_le _, rfl, HQ.out.1, HQ.out.2.1, HQ.out.2.2, HK.out, hu, rfl, hl⟩
  case round =>
    obtain ⟨k, Mk, hk, rfl, hLk, hFk, hbk, hok, huk, hlvk, hlk⟩ := hrel
    clear HQ hb2
    have hsz := Fr.size hFk
    have hb0 := sees HL.out hFk h0
    have hmk := lies_lt hLk
    by_cases hlt : k < names.length
    · rw [List.drop_eq_getElem_cons hlt] at hok
      obtain ⟨b, o, rfl, hcs⟩ := HX.out.resolve_left (fun e => by rw [e] at hlt; simp at hlt)
      have c0 : wr.cell? ⟨b, o + k, none⟩ = some (.string names[k]) := (Fr.new hb0).cell (by simpa using hcs k hlt) fun e => e
      generalize names[k] = s at *
      obtain ⟨ho, hlv0, hok⟩ := bindN_cons hok
      have hb3 : wr.cell? ⟨w.heap.size, 3, none⟩ = some (.int .i64 at_) := obj_cell hbk 3 rfl
      have hb3a : ∀ o', (wr.alloc o').cell? ⟨w.heap.size, 3, none⟩ = some (.int .i64 at_) := fun o' => obj_cell (alloc_older hbk) 3 rfl
      have HO1 := fun w => Lib.hid (ho ▸ odd_any s w)
      have HLk := Lib.hid (And.intro hLk (And.intro hFk hbk))
      have HOK := Lib.hid hok
      have hlen2 := term_len Mk s nNone
      have huq2 := term_uq Mk s nNone huk
      have hlvl2 := term_level Mk s nNone
      clear hLk hFk hbk HX hcs ho hok
      go_upto_region 6 with fail
      go_cut [] (fun wx => Fr nothing wr wx)
      case first =>
        go_region_with (first | (go_at_call 84; refine (HO1 _).out.mono ?_; rintro e w' ⟨rfl, rfl⟩) | (go_at_call 72; refine Calls.mono (HN 302 _ [false] _ ?_ (by simp) (by simp)).out ?_; exact laid_at (by simp); rintro e w' ⟨rfl, rfl⟩))
        all_goals
          try go_wp2
          go_meet
          exact (Fr.alloc _ _).trans (Fr.drew _)
      case rest =>
      have HTM := Lib.hid (term_any Mk s nNone wc w0.heap.size mb tb rb (HLk.out.1.new hcut) huk (by omega) (by have := hcut.size; omega))
      have HC := Lib.hid hcut
      clear hcut hb3 hb3a c0
      obtain ⟨m, hnm, hm2, hl0⟩ := lvlAt_some hlv0
      rw [hnm] at HTM HOK
      simp only [Int.toNat_natCast] at HOK
      generalize (termN Mk s nNone).1 = M2 at *
      clear hnm hlv0
      unfold nNone at HTM
      go_upto_region 8 with (go_at_call 87; refine HTM.out.mono ?_; rintro e w2 ⟨rfl, hL2, hF2⟩)
      have hbk2 := hF2.keep (HC.out.obj HLk.out.2.2 fun e => e) (by omega) (by omega) (by omega) (by decide) (by decide)
      have hszw : w.heap.size < w2.heap.size := (Array.getElem?_eq_some_iff.1 hbk2).1
      have b3 : w2.cell? ⟨w.heap.size, 3, none⟩ = some (.int .i64 at_) := obj_cell hbk2 3 rfl
      have b3a : ∀ o', (w2.alloc o').cell? ⟨w.heap.size, 3, none⟩ = some (.int .i64 at_) := fun o' => obj_cell (alloc_older hbk2) 3 rfl
      obtain ⟨g, c, hc1, hc2, hgm, hgs, hgB, hset⟩ := lies_sym hL2 hm2
      obtain ⟨⟨d1, d6, d2, fz2, fz3, u3, d3⟩, _⟩ := hset w2 (Fr.refl _ _)
      rw [hl0] at d2
      have d2a : ∀ o', (w2.alloc o').cell? ⟨g, m * 4 + 2, none⟩ = some (.int .i64 0) := fun o' => (Fr.alloc (ch := nothing) w2 o').cell d2 fun e => e
      have HS2 := Lib.hid (And.intro hL2 (And.intro hF2 hbk2))
      have HSET := Lib.hid hset
      clear hL2 hF2 hbk2 hset HTM d6 fz2 fz3 d3
      generalize wc = wa at *
      go_upto_region 9 with fail
      go_cut [] (fun wx => Fr nothing w2 wx)
      case first =>
        go_region_with (first | (go_at_call 72; refine Calls.mono (HN 110 _ [false] _ ?_ (by simp) (by simp)).out ?_; exact laid_at (by simp); rintro e w' ⟨rfl, rfl⟩))
        all_goals
          try go_wp2
          go_meet
          exact (Fr.alloc _ _).trans (Fr.drew _)
      case rest =>
      obtain ⟨⟨z1, z6, z2, zf2, zf3, u4, z3⟩, hput⟩ := HSET.out wc hcut
      have HPUT := Lib.hid hput
      have HCUT := Lib.hid hcut
      clear hput hcut d1 d2 d2a b3 b3a
      go_wp2
      go_roundw
      case rel =>
        obtain ⟨hLp, hFp⟩ := HPUT.out (M.level + 1) a _ rfl
        have hML : M2.level = M.level + 1 := by rw [hlvl2, hlvk]
        have hOK := HOK.out
        rw [hML] at hOK
        have hFall := HS2.out.2.1.trans ((FM.new HCUT.out).trans hFp)
        refine ⟨k + 1, setLv M2 m (M.level + 1) a, by omega, by simp, hLp, HLk.out.2.1.trans ((FM.new HC.out).trans hFall), ((FM.new HCUT.out).trans hFp).keep HS2.out.2.2 (by omega) (by omega) (by omega) (by decide) (by decide), hOK, huq2, hML, ?_⟩
        have : (setLv M2 m (M.level + 1) a).syms.length = M2.syms.length := by simp [setLv]
        omega
      case measure => simp [intOf]; omega
    · obtain rfl : k = names.length := by omega
      rw [List.drop_length] at hok
      simp only [bindN, Option.some.injEq] at hok
      subst hok
      have HR := Lib.hid (And.intro hFk hLk)
      clear hlt hLk hFk hbk HX
      go_wp2
      go_end0
      exact ⟨HR.out.1, rfl, HR.out.2⟩
end Go.Proofs.Ytehaoiimhgkckaa
