/-
  Package symbols: alt, where nothing is thrown, of an alternative without an action and without a precedence of its own.
-/
import Derived.Test.YtehaoiimhgkckaaMake9
import Derived.Test.YtehaoiimhgkckaaMakeC
namespace Go.Proofs.Ytehaoiimhgkckaa
open Go.RowKit Go.MapKept Go.ChangeMaps
set_option maxHeartbeats 400000

theorem wordsN_cons {M : Mst} {x : Wrd} {l : List Wrd} {p : Int} {r : List Int} {z : Int × List Int} (h : wordsN M (x :: l) p r = some z) : ∃ n, symN M x.name = some n ∧ 0 ≤ n ∧
    ((¬ n < M.terms ∧ wordsN M l p (r ++ [n]) = some z) ∨ (n < M.terms ∧ ∃ v, lvlAt M n = some v ∧ 0 < v ∧ wordsN M l n (r ++ [n]) = some z) ∨ (n < M.terms ∧ ∃ v, lvlAt M n = some v ∧ ¬ 0 < v ∧ wordsN M l p (r ++ [n]) = some z)) := by
  unfold wordsN at h
  split at h
  · cases h
  · rename_i n hn
    split at h
    · cases h
    · rename_i h0
      refine ⟨n, hn, by omega, ?_⟩
      split at h
      · rename_i h1
        split at h
        · cases h
        · rename_i v hv
          by_cases hv0 : 0 < v
          · rw [if_pos hv0] at h
            exact .inr (.inl ⟨h1, v, hv, hv0, h⟩)
          · rw [if_neg hv0] at h
            exact .inr (.inr ⟨h1, v, hv, hv0, h⟩)
      · rename_i h1
        exact .inl ⟨h1, h⟩
theorem Mem.prods' {w w2 : World} {B mb : Nat} {M : Mst} {sv pv nv v2 : Value} {tb rb : Nat} (h : Mem w B mb M sv pv nv tb rb) (k : Fr (fun g => pv.ownBlock = some g) w w2) {xs : List (Prd × Value)} (hx : xs.map Prod.fst = M.prods) (hown : w.ownsRow B 62 6 pv xs.length (xs.flatMap cellsP))
    (hr : ∀ x ∈ xs, w.ownsRow B 3 1 x.2 x.1.right.length (x.1.right.map (Value.int .i64))) {P : Prd} {rv : Value} (hrv : w2.ownsRow B 3 1 rv P.right.length (P.right.map (Value.int .i64))) (ho : w2.ownsRow B 62 6 v2 (xs.length + 1) (xs.flatMap cellsP ++ cellsP (P, rv))) :
    Mem (w2.setCell ⟨mb, 2, none⟩ v2) B mb { M with prods := M.prods ++ [P] } sv v2 nv tb rb ∧ FM B mb tb rb w (w2.setCell ⟨mb, 2, none⟩ v2) := by
  obtain ⟨h1, h2, h3, _, h7, h8, h9, h10⟩ := h
  have hobj2 := k.obj h1 fun e => own_ne hown h1 (by decide) e
  have kp : Fr (only mb) w2 (w2.setCell ⟨mb, 2, none⟩ v2) := Fr.setCell w2 ⟨mb, 2, none⟩ v2
  have hne : ∀ {e size n : Nat} {u : Value} {ys : List Value}, w2.ownsRow B e size u n ys → e ≠ 106 → (w2.setCell ⟨mb, 2, none⟩ v2).ownsRow B e size u n ys := fun ho' he => own_fr ho' kp fun g hg e => own_ne ho' hobj2 he (by rw [hg]; exact congrArg some e)
  have h7' := h7.fr k fun e => map_own h7 hown e
  have h8' := h8.fr k fun e => map_own h8 hown e
  refine ⟨⟨?_, hne (own_fr h2 k fun g hg e => own_apart hown h2 (by decide) g e hg) (by decide), hne (own_fr h3 k fun g hg e => own_apart hown h3 (by decide) g e hg) (by decide), ⟨xs ++ [(P, rv)], by simp [hx], ?_, fun x hxm => ?_⟩, h7'.fr kp fun e => map_ne h7' hobj2 (show mb = tb from (show tb = mb from e).symm), h8'.fr kp fun e => map_ne h8' hobj2 (show mb = rb from (show rb = mb from e).symm), h9, h10⟩, ?_⟩
  · have := setCell_obj hobj2 (i := 2) v2
    simpa [mkO] using this
  · have := hne ho (by decide)
    simpa using this
  · rcases List.mem_append.1 hxm with hxm | hxm
    · exact hne (own_fr (hr x hxm) k fun g hg e => own_apart hown (hr x hxm) (by decide) g e hg) (by decide)
    · rw [List.mem_singleton.1 hxm]
      exact hne hrv (by decide)
  · refine FM.trans (FM.of k fun g hg e => ?_) (FM.of kp fun g hg e => .inl e)
    obtain ⟨q1, c, fz, q2⟩ := own_kind hown g e
    exact .inr (.inr (.inr ⟨q1, c, _, fz, q2, .inr rfl⟩))
def altO (wv : Value) (action : ByteArray) (whr at_ : Int) : Obj := .cells #[wv, .string ⟨#[]⟩, .bool false, .string action, .int .i64 whr, .int .i64 at_] 60 (0, 0)
def prdO (left : Int) (rv : Value) (p : Int) : Obj := .cells #[.int .i64 left, rv, .int .i64 p, .bool false, .string ⟨#[]⟩, .int .i64 0] 62 (0, 0)
set_option maxRecDepth 100000 in
set_option maxHeartbeats 4000000 in
theorem alt_ok (M : Mst) (left : Int) (words : List Wrd) (wv : Value) (action : ByteArray) (whr at_ : Int) (p : Int) (r : List Int) (w0 w : World) (mb tb rb : Nat) (hw : IsWrds w0 wv words) (h0 : Below w0.heap.size w0 w) (h : Lies w w0.heap.size mb tb rb M) (hu : Uq M.tm) (hr : Uq M.rm)
    (ht : 0 ≤ M.terms ∧ M.terms ≤ 100000) (hb : ∀ x ∈ M.rm, 0 ≤ x.2 ∧ x.2 ≤ 100000) (hl : words.length ≤ 10) (hpl : M.prods.length ≤ 100000) (hok : wordsN M words (-1) [] = some (p, r)) :
    Calls Try.prog 74 #[.pointer (some ⟨mb, 0, none⟩), .int .i64 left, .agg #[wv, .string ⟨#[]⟩, .bool false, .string action, .int .i64 whr, .int .i64 at_]] w (Res w0.heap.size mb tb rb w (.tuple #[]) { M with prods := M.prods ++ [⟨left, r, p, false, nNone, 0⟩] }) := by
  obtain ⟨i0, hi, hz0, hz1, hz2⟩ := info_parts Try.infoInt'
  obtain ⟨wa, wc', rfl, hwc, hwcm, _⟩ := Rows'.parts hw
  have HN := fun at_ k b L w hb hl hL => Lib.hid (throw_none k at_ b L w hb hl hL)
  have hB := h0.size
  obtain ⟨N, hN⟩ : ∃ N, N = words.length := ⟨_, rfl⟩
  rw [← hN] at hl hwc ⊢
  have HNN := Lib.hid hN
  have HW := Lib.hid hw
  have HL := Lib.hid h
  have HK := Lib.hid hok
  have HSY := Lib.hid fun (s : ByteArray) (n : Int) (W : World) (hW : Fr nothing w W) (hn : symN M s = some n) => symbol_any M s n W w0.heap.size mb tb rb (h.new hW) hu hr hn ht hb
  have hdec : decide ((10 : Int) < (N : Int)) = false := decide_eq_false (by omega)
  clear hw h hok hN
  go_enter Try.func74, Try.ntmps74
  go_upto_region 5 with (go_at_call 72; refine Calls.mono (HN _ 104 _ [false] _ ?_ (by simp) (by simp)).out ?_; exact laid_at (by simp); rintro e w' ⟨rfl, rfl⟩)
  refine wp_atW (F := fun W => W.heap[w.heap.size]? = some (altO (.slice wa N wc') action whr at_) ∧ W.heap[w.heap.size + 1 + 1]? = some (prdO left (.slice none 0 0) (-1)) ∧ Fr nothing w W) ?_ ?_
  · refine ⟨?_, ?_, ?_⟩
    · exact alloc_older (alloc_older (alloc_obj _ _))
    · exact laid_at (by simp)
    · exact ((Fr.alloc _ _).trans (Fr.alloc _ _)).trans (Fr.alloc _ _)
  rintro W1 ⟨o0, o2, hW1⟩
  have b0 : W1.cell? ⟨w.heap.size, 0, none⟩ = some (.slice wa N wc') := obj_cell o0 0 rfl
  have HO := Lib.hid (And.intro o0 (And.intro o2 hW1))
  obtain ⟨pb, hpb⟩ : ∃ pb, pb = w.heap.size + 1 + 1 := ⟨_, rfl⟩
  have hsp : w.heap.size + 2 < W1.heap.size := (Array.getElem?_eq_some_iff.1 o2).1
  rw [← hpb] at HO ⊢
  have hpbg : w.heap.size < pb ∧ pb < W1.heap.size := by omega
  clear o0 o2 hW1 hsp hpb
  go_wp2
  go_loopw [36] (fun i wr => ∃ (k : Nat) (p' : Int) (r' : List Int) (rv : Value), k ≤ N ∧ i = .int .i64 k ∧ Fr (fun g => W1.heap.size ≤ g ∨ g = pb) W1 wr ∧ wr.heap[pb]? = some (prdO left rv p') ∧ wr.ownsRow W1.heap.size 3 1 rv r'.length (r'.map (Value.int .i64)) ∧ r'.length = k ∧ wordsN M (words.drop k) p' r' = some (p, r)) (fun i _ => N - (intOf i).toNat)
  case atStart => exact ⟨0, -1, [], _, Nat.zero_le _, rfl, Fr.refl _ _, HO.out.2.1, World.ownsRow_nil _ _ _ _, rfl, HK.out⟩
  case round =>
    obtain ⟨k, p', r', rv, hk, rfl, hF, hpo, hown, hrl, hok⟩ := hrel
    rw [hrl] at hown
    have HRL := Lib.hid hrl
    clear hrl
    have hFw : Fr nothing w wr := (HO.out.2.2.wide.trans (hF.mono (ch' := fun g => w.heap.size ≤ g) fun g _ e => by rcases e with e | e <;> omega)).mono fun g hg e => absurd hg (Nat.not_lt.2 e)
    by_cases hlt : k < N
    · have hk' : k < words.length := by rw [← HNN.out]; exact hlt
      obtain ⟨b, o, rfl, _, hat, a2, c2, h5⟩ := Rows'.at (n := N) (by have := HW.out; rw [← HNN.out] at this; rw [HNN.out] at this ⊢; exact this) hk'
      rw [List.drop_eq_getElem_cons hk'] at hok
      have hW0 : Fr nothing w0 wr := (Fr.new h0).trans hFw
      have y0 := hW0.cell (h5 0 (by simp)) fun e => e
      have y1 := hW0.cell (h5 1 (by simp)) fun e => e
      have y2 := hW0.cell (h5 2 (by simp)) fun e => e
      simp only [List.getElem_cons_zero, List.getElem_cons_succ, Nat.add_zero] at y0 y1 y2
      generalize words[k] = x at *
      obtain ⟨xn, xa, xt⟩ := x
      simp only at y0 y1 y2 hat
      obtain ⟨n, hn, hn0, hcase⟩ := wordsN_cons hok
      simp only at hn
      have HC := Lib.hid hcase
      have HS := Lib.hid fun o => HSY.out xn n (wr.alloc o) (hFw.trans (Fr.alloc _ _)) hn
      have HR := Lib.hid (And.intro hF (And.intro hpo (And.intro hown hFw)))
      clear hok hcase h5 hF hpo hown hW0
      go_upto_region 10 with (first | (go_at_call 85; refine (HS.out _).mono ?_; rintro e w' ⟨rfl, rfl⟩) | (go_at_call 72; refine Calls.mono (HN _ 302 _ [false] _ ?_ (by simp) (by simp)).out ?_; exact laid_at (by simp); rintro e w' ⟨rfl, rfl⟩))
      refine wp_atW (F := fun W => Fr nothing wr W) ((Fr.alloc _ _).trans (Fr.alloc _ _)) ?_
      intro W hW
      have hLW := HL.out.new (hFw.trans hW)
      obtain ⟨c0, _, _, _, _⟩ := lies_cells hLW
      have hpW : W.heap[pb]? = some (prdO left rv p') := hW.obj HR.out.2.1 fun e => e
      have hoW : W.ownsRow W1.heap.size 3 1 rv k (r'.map (Value.int .i64)) := own_fr HR.out.2.2.1 hW fun _ _ e => e
      have p1 : W.cell? ⟨pb, 1, none⟩ = some rv := obj_cell hpW 1 rfl
      have p2 : W.cell? ⟨pb, 2, none⟩ = some (.int .i64 p') := obj_cell hpW 2 rfl
      have pf1 := obj_frozen hpW 1
      have pf2 := obj_frozen hpW 2
      have hpw : pb < W.heap.size := (Array.getElem?_eq_some_iff.1 hpW).1
      have HPW := Lib.hid (And.intro hpW (And.intro hoW hW))
      obtain ⟨V0, hV0⟩ : ∃ V0 : Int → World → Prop, V0 = fun p2 V => V.heap[pb]? = some (prdO left rv p2) ∧ Fr (only pb) W V := ⟨_, rfl⟩
      clear hpW hoW hW
      have key : (∃ p2 : Int, wordsN M (words.drop (k + 1)) p2 (r' ++ [n]) = some (p, r) ∧ True) := by
        rcases HC.out with ⟨_, h⟩ | ⟨_, v, _, _, h⟩ | ⟨_, v, _, _, h⟩
        · exact ⟨_, h, trivial⟩
        · exact ⟨_, h, trivial⟩
        · exact ⟨_, h, trivial⟩
      clear key
      rcases HC.out with ⟨q1, hnext⟩ | ⟨q1, v, q2, q3, hnext⟩ | ⟨q1, v, q2, q3, hnext⟩
      · have d1 : decide (n < M.terms) = false := decide_eq_false (by omega)
        have HX := Lib.hid hnext
        clear hnext q1
        go_upto_region 12 with fail
        refine wp_atW (F := fun V => V0 p' V) (by rw [hV0]; exact ⟨HPW.out.1, Fr.refl _ _⟩) ?_
        rw [hV0]
        rintro V ⟨v1, v2⟩
        have HV := Lib.hid (And.intro v1 v2)
        have e1 : V.cell? ⟨pb, 1, none⟩ = some rv := obj_cell v1 1 rfl
        have hownV : V.ownsRow W1.heap.size 3 1 rv k (r'.map (Value.int .i64)) := own_fr HPW.out.2.1 v2 fun g hg e => own_ne HPW.out.2.1 HPW.out.1 (by decide) (by rw [hg]; exact congrArg some e)
        obtain ⟨rva, rvc, rfl, _⟩ := own_cells hownV
        have hsV : W1.heap.size ≤ V.heap.size := Nat.le_trans (Nat.le_trans HR.out.1.size HPW.out.2.2.size) v2.size
        clear v1 v2 p1 p2 pf1 pf2
        have HOV := Lib.hid hownV
        go_wp2_with (at_builtin; refine wpList_append_keep rfl _ _ 22 rfl W1.heap.size 3 i0 (.int .i64 0) 1 8 Try.underlying22 hi hz0 hz1 hz2 rfl (by decide) _ _ _ rfl (HOV.out.alloc _) _ 1 1 [.int .i64 n] rfl rfl (cells_add (cells_new_at (by simp) _ _ rfl _ _)) (by simp [Value.oneCell']) (by omega) (by unfold maxLen; omega) (by omega) (by simp; omega) ?_; intro v3 w3 hown3 hold3 hfr3 hwh3; obtain ⟨a3, c3, rfl, _⟩ := own_cells hown3; have hF3 : Fr (fun g => (Value.slice rva k rvc).ownBlock = some g) V w3 := (Fr.alloc _ _).trans hfr3; have ho3 := hF3.obj HV.out.1 (fun e => own_ne HOV.out HV.out.1 (by decide) e); have e3 : w3.cell? ⟨pb, 1, none⟩ = some (.slice rva k rvc) := obj_cell ho3 1 rfl; have f3 := obj_frozen ho3 1)
        go_roundw
        case rel =>
          have kp : Fr (only pb) w3 (w3.setCell ⟨pb, 1, none⟩ (.slice a3 (k + 1) c3)) := Fr.setCell w3 ⟨pb, 1, none⟩ _
          refine ⟨k + 1, _, r' ++ [n], .slice a3 (k + 1) c3, by omega, by simp, (((HR.out.1.trans HPW.out.2.2.wide).trans (HV.out.2.mono fun g _ e => .inr e)).trans (hF3.mono fun g _ e => .inl (HOV.out.lt g e).1)).trans (kp.mono fun g _ e => .inr e), by simpa [prdO] using setCell_obj ho3 (i := 1) (.slice a3 (k + 1) c3), ?_, by simp [HRL.out], HX.out⟩
          have := own_fr hown3 kp fun g hg e => own_ne hown3 ho3 (by decide) (by rw [hg]; exact congrArg some e)
          simpa [HRL.out] using this
        case measure => simp [intOf]; omega
      · have d1 : decide (n < M.terms) = true := decide_eq_true q1
        obtain ⟨m, rfl, hm, hv⟩ := lvlAt_some q2
        obtain ⟨g, c, hc1, hc2, hgm, hgs, hgB, hset⟩ := lies_sym hLW hm
        obtain ⟨⟨z1, _, z2, _⟩, _⟩ := hset W (Fr.refl _ _)
        rw [hv] at z2
        have d2 : decide (0 < v) = true := decide_eq_true q3
        have HX := Lib.hid hnext
        clear hnext q1 hset q2 q3 hv
        go_upto_region 12 with fail
        refine wp_atW (F := fun V => V0 m V) (by rw [hV0]; exact ⟨by simpa [prdO] using setCell_obj HPW.out.1 (i := 2) (.int .i64 (m : Int)), Fr.setCell _ ⟨pb, 2, none⟩ _⟩) ?_
        rw [hV0]
        rintro V ⟨v1, v2⟩
        have HV := Lib.hid (And.intro v1 v2)
        have e1 : V.cell? ⟨pb, 1, none⟩ = some rv := obj_cell v1 1 rfl
        have hownV : V.ownsRow W1.heap.size 3 1 rv k (r'.map (Value.int .i64)) := own_fr HPW.out.2.1 v2 fun g hg e => own_ne HPW.out.2.1 HPW.out.1 (by decide) (by rw [hg]; exact congrArg some e)
        obtain ⟨rva, rvc, rfl, _⟩ := own_cells hownV
        have hsV : W1.heap.size ≤ V.heap.size := Nat.le_trans (Nat.le_trans HR.out.1.size HPW.out.2.2.size) v2.size
        clear v1 v2 p1 p2 pf1 pf2
        have HOV := Lib.hid hownV
        go_wp2_with (at_builtin; refine wpList_append_keep rfl _ _ 22 rfl W1.heap.size 3 i0 (.int .i64 0) 1 8 Try.underlying22 hi hz0 hz1 hz2 rfl (by decide) _ _ _ rfl (HOV.out.alloc _) _ 1 1 [.int .i64 (m : Int)] rfl rfl (cells_add (cells_new_at (by simp) _ _ rfl _ _)) (by simp [Value.oneCell']) (by omega) (by unfold maxLen; omega) (by omega) (by simp; omega) ?_; intro v3 w3 hown3 hold3 hfr3 hwh3; obtain ⟨a3, c3, rfl, _⟩ := own_cells hown3; have hF3 : Fr (fun g => (Value.slice rva k rvc).ownBlock = some g) V w3 := (Fr.alloc _ _).trans hfr3; have ho3 := hF3.obj HV.out.1 (fun e => own_ne HOV.out HV.out.1 (by decide) e); have e3 : w3.cell? ⟨pb, 1, none⟩ = some (.slice rva k rvc) := obj_cell ho3 1 rfl; have f3 := obj_frozen ho3 1)
        go_roundw
        case rel =>
          have kp : Fr (only pb) w3 (w3.setCell ⟨pb, 1, none⟩ (.slice a3 (k + 1) c3)) := Fr.setCell w3 ⟨pb, 1, none⟩ _
          refine ⟨k + 1, _, r' ++ [(m : Int)], .slice a3 (k + 1) c3, by omega, by simp, (((HR.out.1.trans HPW.out.2.2.wide).trans (HV.out.2.mono fun g _ e => .inr e)).trans (hF3.mono fun g _ e => .inl (HOV.out.lt g e).1)).trans (kp.mono fun g _ e => .inr e), by simpa [prdO] using setCell_obj ho3 (i := 1) (.slice a3 (k + 1) c3), ?_, by simp [HRL.out], HX.out⟩
          have := own_fr hown3 kp fun g hg e => own_ne hown3 ho3 (by decide) (by rw [hg]; exact congrArg some e)
          simpa [HRL.out] using this
        case measure => simp [intOf]; omega
      · have d1 : decide (n < M.terms) = true := decide_eq_true q1
        obtain ⟨m, rfl, hm, hv⟩ := lvlAt_some q2
        obtain ⟨g, c, hc1, hc2, hgm, hgs, hgB, hset⟩ := lies_sym hLW hm
        obtain ⟨⟨z1, _, z2, _⟩, _⟩ := hset W (Fr.refl _ _)
        rw [hv] at z2
        have d2 : decide (0 < v) = false := decide_eq_false (by omega)
        have HX := Lib.hid hnext
        clear hnext q1 hset q2 q3 hv
        go_upto_region 12 with fail
        refine wp_atW (F := fun V => V0 p' V) (by rw [hV0]; exact ⟨HPW.out.1, Fr.refl _ _⟩) ?_
        rw [hV0]
        rintro V ⟨v1, v2⟩
        have HV := Lib.hid (And.intro v1 v2)
        have e1 : V.cell? ⟨pb, 1, none⟩ = some rv := obj_cell v1 1 rfl
        have hownV : V.ownsRow W1.heap.size 3 1 rv k (r'.map (Value.int .i64)) := own_fr HPW.out.2.1 v2 fun g hg e => own_ne HPW.out.2.1 HPW.out.1 (by decide) (by rw [hg]; exact congrArg some e)
        obtain ⟨rva, rvc, rfl, _⟩ := own_cells hownV
        have hsV : W1.heap.size ≤ V.heap.size := Nat.le_trans (Nat.le_trans HR.out.1.size HPW.out.2.2.size) v2.size
        clear v1 v2 p1 p2 pf1 pf2
        have HOV := Lib.hid hownV
        go_wp2_with (at_builtin; refine wpList_append_keep rfl _ _ 22 rfl W1.heap.size 3 i0 (.int .i64 0) 1 8 Try.underlying22 hi hz0 hz1 hz2 rfl (by decide) _ _ _ rfl (HOV.out.alloc _) _ 1 1 [.int .i64 (m : Int)] rfl rfl (cells_add (cells_new_at (by simp) _ _ rfl _ _)) (by simp [Value.oneCell']) (by omega) (by unfold maxLen; omega) (by omega) (by simp; omega) ?_; intro v3 w3 hown3 hold3 hfr3 hwh3; obtain ⟨a3, c3, rfl, _⟩ := own_cells hown3; have hF3 : Fr (fun g => (Value.slice rva k rvc).ownBlock = some g) V w3 := (Fr.alloc _ _).trans hfr3; have ho3 := hF3.obj HV.out.1 (fun e => own_ne HOV.out HV.out.1 (by decide) e); have e3 : w3.cell? ⟨pb, 1, none⟩ = some (.slice rva k rvc) := obj_cell ho3 1 rfl; have f3 := obj_frozen ho3 1)
        go_roundw
        case rel =>
          have kp : Fr (only pb) w3 (w3.setCell ⟨pb, 1, none⟩ (.slice a3 (k + 1) c3)) := Fr.setCell w3 ⟨pb, 1, none⟩ _
          refine ⟨k + 1, _, r' ++ [(m : Int)], .slice a3 (k + 1) c3, by omega, by simp, (((HR.out.1.trans HPW.out.2.2.wide).trans (HV.out.2.mono fun g _ e => .inr e)).trans (hF3.mono fun g _ e => .inl (HOV.out.lt g e).1)).trans (kp.mono fun g _ e => .inr e), by simpa [prdO] using setCell_obj ho3 (i := 1) (.slice a3 (k + 1) c3), ?_, by simp [HRL.out], HX.out⟩
          have := own_fr hown3 kp fun g hg e => own_ne hown3 ho3 (by decide) (by rw [hg]; exact congrArg some e)
          simpa [HRL.out] using this
        case measure => simp [intOf]; omega
    · obtain rfl : k = N := by omega
      rw [HNN.out, List.drop_length] at hok
      simp only [wordsN, Option.some.injEq, Prod.mk.injEq] at hok
      obtain ⟨rfl, rfl⟩ := hok
      obtain ⟨sv, pv, nv, hM⟩ := HL.out
      have hMw := hM.new hFw
      obtain ⟨xs, hxs, hxo, hxr⟩ := hMw.prods
      obtain ⟨pa, pc, rfl, _⟩ := own_cells hxo
      obtain ⟨rva, rvc, rfl, _⟩ := own_cells hown
      obtain ⟨j0, hj, jz0, jz1, jz2⟩ := info_parts Try.infoPrd
      have hxl : xs.length = M.prods.length := by rw [← hxs, List.length_map]
      have e0 : wr.cell? ⟨pb, 0, none⟩ = some (.int .i64 left) := obj_cell hpo 0 rfl
      have e1 : wr.cell? ⟨pb, 1, none⟩ = some (.slice rva k rvc) := obj_cell hpo 1 rfl
      have e2 : wr.cell? ⟨pb, 2, none⟩ = some (.int .i64 p') := obj_cell hpo 2 rfl
      have e3 : wr.cell? ⟨pb, 3, none⟩ = some (.bool false) := obj_cell hpo 3 rfl
      have e4 : wr.cell? ⟨pb, 4, none⟩ = some (.string ⟨#[]⟩) := obj_cell hpo 4 rfl
      have e5 : wr.cell? ⟨pb, 5, none⟩ = some (.int .i64 0) := obj_cell hpo 5 rfl
      have m2 : wr.cell? ⟨mb, 2, none⟩ = some (.slice pa xs.length pc) := obj_cell hMw.obj 2 rfl
      have ao : wr.heap[w.heap.size]? = some (altO (.slice wa k wc') action whr at_) := hF.obj HO.out.1 fun e => by rcases e with e | e <;> omega
      have a1 : wr.cell? ⟨w.heap.size, 1, none⟩ = some (.string ⟨#[]⟩) := obj_cell ao 1 rfl
      have l1 : pb < wr.heap.size := World.block_lt_of_cell? wr _ e0
      have l2 : mb < wr.heap.size := World.block_lt_of_cell? wr _ m2
      have hBw : w0.heap.size ≤ wr.heap.size := Nat.le_trans hB hFw.size
      have HOW := Lib.hid hxo
      have HOB := Lib.hid (And.intro hMw.obj fun e => own_ne hxo hMw.obj (by decide) e)
      have HM := Lib.hid hMw
      have HX := Lib.hid (And.intro hxs hxr)
      have HOWN := Lib.hid hown
      have hlx : xs.length ≤ 100000 := by omega
      clear hlt hM hMw hxs hxo hxr hown ao hpo hF hxl HNN HW HK hwc hk hl
      go_upto_region 18 with fail
      go_region_law
        ((refine step_append_lies _ (by rfl) _ _ _ (by rfl) w0.heap.size 62 j0 _ 6 72 Try.underlying37 hj jz0 jz1 jz2 rfl (by omega) (.slice pa xs.length pc) xs.length _ (by rfl) ((HOW.out.alloc _).drew)
            ⟨wr.heap.size, 0, none⟩ 1 1 (cellsP (⟨left, r', p', false, nNone, 0⟩, .slice rva k rvc)) (by rfl) (by rfl) (World.news_of_block (cs := #[.int .i64 left, .slice rva k rvc, .int .i64 p', .bool false, .string ⟨#[]⟩, .int .i64 0]) (t := 62) (fr := (0, 0)) (heap_alloc_new wr _)) (by simp [cellsP, prdCells, Value.oneCell'])
            (by omega) (by unfold maxLen; omega) (by omega) (by simp; omega) (wr.heap.size + 1) (by simp) ?_; intro gg cap1 w2 hown2 hgrow hat hlt'; have hF2 : Fr (fun g => (Value.slice pa xs.length pc).ownBlock = some g) wr w2 := ((Fr.alloc _ _).trans (Fr.drew _)).trans (Fr.grown hgrow); have hg2 := hF2.obj HOB.out.1 HOB.out.2; have c2' : w2.cell? ⟨mb, 2, none⟩ = some (.slice pa xs.length pc) := obj_cell hg2 2 rfl; have f2 := obj_frozen hg2 2))
      all_goals
        try go_wp2
        go_end0
        obtain ⟨hLf, hFf⟩ := HM.out.prods' (v2 := .slice (some ⟨gg, 0, none⟩) (xs.length + 1) cap1) (P := ⟨left, r', p', false, nNone, 0⟩) hF2 HX.out.1 HOW.out HX.out.2 (by show w2.ownsRow _ _ _ _ r'.length _; rw [HRL.out]; exact own_base (own_fr HOWN.out hF2 fun g hg e => own_apart HOW.out HOWN.out (by decide) g e hg) (by have := HO.out.2.2.size; omega)) hown2
        exact ⟨(FM.new hFw).trans hFf, rfl, ⟨_, _, _, hLf⟩⟩
end Go.Proofs.Ytehaoiimhgkckaa
