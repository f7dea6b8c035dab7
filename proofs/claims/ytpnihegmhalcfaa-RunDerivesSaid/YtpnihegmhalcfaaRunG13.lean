/-
  gristmillref19: put.
-/
import Derived.Test.YtpnihegmhalcfaaRunG11
namespace Go.Proofs.Ytpnihegmhalcfaa
open Go.RowKit Go.MapKept Go.ChangeMaps
set_option maxHeartbeats 400000

theorem IsItems.small {w : World} {v : Value} {l : List It} (h : IsItems w v l) : ∀ x ∈ l, i64 x.1 ∧ i64 x.2 := fun x hx => by
  obtain ⟨i, hi, rfl⟩ := List.getElem_of_mem hx
  obtain ⟨a, c, rfl, -, -, -⟩ := id h.parts
  obtain ⟨_, _, _, _, _, h1, h2⟩ := h.at hi
  exact ⟨h1, h2⟩
theorem putI_new {x : It} {l : List It} (h : newB x l = true) : putI x l = l.take (lessN x l) ++ x :: l.drop (lessN x l) := putI_miss fun h1 e => by
  unfold newB at h
  exact of_decide_eq_true h (by rw [List.getElem?_eq_getElem h1, e])
set_option maxRecDepth 100000 in
set_option maxHeartbeats 8000000 in
theorem put19_any (lv : Value) (l : List It) (x : It) (w : World) (h : IsItems w lv l) (hx : i64 x.1 ∧ i64 x.2) (hl : l.length ≤ 100000) :
    Calls Try.prog 86 #[lv, itVal x] w fun e w' => ∃ v, e = .returned (.tuple #[v, .bool (newB x l)]) ∧ IsItems w' v (putI x l) ∧ (newB x l = false → v = lv) ∧ (newB x l = true → OwnI w' w.heap.size v (putI x l)) ∧ Below w.heap.size w w' := by
  have HL := Lib.hid h
  obtain ⟨la, lc, rfl, hlc, hlm, -⟩ := id h.parts
  obtain ⟨xa, xb⟩ := x
  obtain ⟨xa0, xa1⟩ := hx.1
  obtain ⟨xb0, xb1⟩ := hx.2
  simp only at xa0 xa1 xb0 xb1
  have hob := alloc_obj w (Obj.cells #[.int .i64 xa, .int .i64 xb] 102 (0, 0))
  have hk := Fr.alloc (ch := nothing) w (Obj.cells #[.int .i64 xa, .int .i64 xb] 102 (0, 0))
  have x0 := obj_cell hob 0 (v := .int .i64 xa) rfl
  have x1 := obj_cell hob 1 (v := .int .i64 xb) rfl
  have HX := Lib.hid hx
  have HK := Lib.hid (And.intro hk hob)
  clear h hx hk hob
  obtain ⟨n, hn⟩ : ∃ n, l.length = n := ⟨_, rfl⟩
  rw [hn] at HL hlc hl ⊢
  have HN := Lib.hid hn
  clear hn
  unfold itVal
  go_enter Try.func86, Try.ntmps86
  go_upto_region 1 with fail
  generalize hw1 : w.alloc (Obj.cells #[.int .i64 xa, .int .i64 xb] 102 (0, 0)) = w1 at *
  have HW := Lib.hid hw1
  clear hw1
  go_wp2
  go_loopw [6] (fun i wr => ∃ k : Nat, k ≤ n ∧ i = .int .i64 k ∧ (∀ j (h : j < l.length), j < k → ltI l[j] (xa, xb)) ∧ ∃ m, wr = w1.drewN m) (fun i _ => n - (intOf i).toNat)
  case atStart => exact ⟨0, Nat.zero_le _, rfl, fun j _ h => absurd h (by omega), 0, rfl⟩
  case round =>
    obtain ⟨k, hkn, rfl, hall, m, hwm⟩ := hrel
    have hfr : Fr nothing w1 wr := by rw [hwm]; exact Fr.drewN _ _
    have x0 := hfr.cell x0 id
    have x1 := hfr.cell x1 id
    have HA := Lib.hid hall
    have HWM := Lib.hid (And.intro hwm hfr)
    clear hall hwm hfr
    by_cases hlt : k < n
    · have hkl : k < l.length := by rw [HN.out]; exact hlt
      obtain ⟨lb, lo, rfl, c0, c1, ⟨y0, y1⟩, ⟨y2, y3⟩⟩ := (HL.out.fr (HK.out.1.trans HWM.out.2)).at hkl
      have hlk : ∀ y, l[k] = y → ltI y (xa, xb) → ∀ j (h : j < l.length), j < k + 1 → ltI l[j] (xa, xb) := fun y hy hly j hj hjk => by
        by_cases e : j = k
        · subst e; rw [hy]; exact hly
        · exact HA.out j hj (by omega)
      have hlk := hlk _ rfl
      have hex : ∀ y, l[k] = y → ¬ ltI y (xa, xb) → lessN (xa, xb) l = k := fun y hy hly => lessN_is (by omega) HA.out fun _ => by rw [hy]; exact hly
      have hex := hex _ rfl
      have hget := List.getElem?_eq_getElem hkl
      have HB := Lib.hid (And.intro hlk (And.intro hex hget))
      clear hlk hex hget
      generalize l[k] = y at *
      obtain ⟨ya, yb⟩ := y
      simp only at c0 c1 y0 y1 y2 y3
      have ht : decide (k < n) = true := decide_eq_true hlt
      by_cases t1 : ya < xa
      · have t1' : decide (ya < xa) = true := decide_eq_true t1
        have HC := Lib.hid (HB.out.1 (by unfold ltI; simp only; omega))
        clear t1
        go_upto_region 2 with fail
        go_quiet (fail)
        go_wp2
        go_roundw
        case rel => exact ⟨k + 1, by omega, by simp, HC.out, _, by rw [HWM.out.1, World.drewN_drewN]⟩
        case measure => simp [intOf]; omega
      · have t1' : decide (ya < xa) = false := decide_eq_false t1
        by_cases t2 : ya = xa
        · have t2' : (ya == xa) = true := by simp [t2]
          by_cases t3 : yb < xb
          · have t3' : decide (yb < xb) = true := decide_eq_true t3
            have HC := Lib.hid (HB.out.1 (by unfold ltI; simp only; omega))
            clear t1 t2 t3
            go_upto_region 2 with fail
            go_quiet (fail)
            go_wp2
            go_roundw
            case rel => exact ⟨k + 1, by omega, by simp, HC.out, _, by rw [HWM.out.1, World.drewN_drewN]⟩
            case measure => simp [intOf]; omega
          · have t3' : decide (yb < xb) = false := decide_eq_false t3
            have HC := Lib.hid (HB.out.2.1 (by unfold ltI; simp only; omega))
            by_cases t4 : yb = xb
            · clear t1 t3
              subst t2 t4
              have hq := fun w => eqItem (ya, yb) (ya, yb) w
              rw [decide_eq_true rfl] at hq
              unfold itVal at hq
              simp only at hq
              have hnb : newB (ya, yb) l = false := by unfold newB; rw [HC.out, HB.out.2.2]; exact decide_eq_false fun h => h rfl
              have HNB := Lib.hid hnb
              clear hnb
              go_upto_region 2 with fail
              go_quiet (fail)
              go_upto_region 4 with fail
              go_quiet (fail)
              go_wp2
              go_ret2
              refine ⟨_, by rw [HNB.out]; rfl, ?_, fun _ => rfl, fun h => (by rw [HNB.out] at h; cases h), ?_⟩
              · rw [putI_old HNB.out]
                exact (HL.out.fr (HK.out.1.trans HWM.out.2)).fr ((Fr.drewN _ _).trans (Fr.drewN _ _))
              · exact (HK.out.1.trans (HWM.out.2.trans ((Fr.drewN _ _).trans (Fr.drewN _ _)))).below_new
            · have hne : ¬ ((ya, yb) : It) = (xa, xb) := fun e => t4 (congrArg Prod.snd e)
              have hq := fun w => eqItem (ya, yb) (xa, xb) w
              rw [decide_eq_false hne] at hq
              unfold itVal at hq
              simp only at hq
              have hnb : newB (xa, xb) l = true := by unfold newB; rw [HC.out, HB.out.2.2]; exact decide_eq_true fun h => hne (Option.some.inj h)
              have hpi := putI_new hnb
              rw [HC.out] at hpi
              have HNB := Lib.hid (And.intro hnb hpi)
              clear t1 t2 t3 t4 hne hnb hpi
              go_upto_region 2 with fail
              go_quiet (fail)
              go_upto_region 4 with fail
              go_quiet (fail)
              go_upto_region 6 with fail
              refine wp_at (F := fun W => Fr nothing w1 W) (HWM.out.2.trans ((Fr.drewN _ _).trans (Fr.drewN _ _))) ?_
              intro W2 hF2
              have hkW := HK.out.1.trans hF2
              have hIt := HL.out.fr hkW
              obtain ⟨h1, h2⟩ | ⟨ad, h1, hcl⟩ := hIt.cells
              · cases h1
              simp only [Option.some.injEq] at h1
              subst h1
              have HT := Lib.hid (And.intro hkW hcl)
              have hob2 := hF2.obj HK.out.2 id
              have hsz : w.heap.size < W2.heap.size := (Array.getElem?_eq_some_iff.1 hob2).1
              obtain ⟨B, hB⟩ : ∃ B, B = W2.heap.size := ⟨_, rfl⟩
              have hEm := own_laid0 (e := 102) (size := 2) (B := B) (n := 0) (alloc_obj W2 (Obj.cells #[] 102 (0, 0))) (by omega) rfl (by unfold maxLen; omega)
              have HEM := Lib.hid hEm
              have HOB := Lib.hid hob2
              have HB := Lib.hid hB
              have hF3 : Fr (from_ B) W2 (W2.alloc (Obj.cells #[] 102 (0, 0))) := Fr.alloc _ _
              have HF3 := Lib.hid hF3
              have hold : ∀ W, Fr (from_ B) W2 W → ∀ j u, (l.flatMap encI)[j]? = some u → W.cell? ((⟨lb, lo, none⟩ : Addr).add j) = some u := fun W kk j u hj => by
                have h1 := HT.out.2 j u hj
                exact kk.cell h1 fun e => by have h2 := World.block_lt_of_cell? _ _ h1; have e' : B ≤ ((⟨lb, lo, none⟩ : Addr).add j).block := e; rw [HB.out] at e'; omega
              have htd : ∀ j u, ((l.take k).flatMap encI)[j]? = some u → (l.flatMap encI)[j]? = some u := fun j u hj => by
                have h1 : l.flatMap encI = (l.take k).flatMap encI ++ (l.drop k).flatMap encI := by rw [← List.flatMap_append, List.take_append_drop]
                rw [h1]
                exact (List.getElem?_append_left (List.getElem?_eq_some_iff.1 hj).1).trans hj
              have hdd : ∀ W, Fr (from_ B) W2 W → ∀ j u, ((l.drop k).flatMap encI)[j]? = some u → W.cell? ((⟨lb, lo + k * 2, none⟩ : Addr).add j) = some u := fun W kk j u hj => by
                have h1 : l.flatMap encI = (l.take k).flatMap encI ++ (l.drop k).flatMap encI := by rw [← List.flatMap_append, List.take_append_drop]
                have h2 : ((l.take k).flatMap encI).length = k * 2 := by rw [enc_len, List.length_take, HN.out, Nat.min_eq_left hkn]
                have h3 := hold W kk (k * 2 + j) u (by rw [h1, List.getElem?_append_right (by omega), h2, show k * 2 + j - k * 2 = j by omega]; exact hj)
                have h4 : (⟨lb, lo, none⟩ : Addr).add (k * 2 + j) = (⟨lb, lo + k * 2, none⟩ : Addr).add j := by
                  by_cases a : k = 0 <;> by_cases b : j = 0 <;> simp [Addr.add, Nat.add_assoc, a, b] <;> omega
                rw [← h4]
                exact h3
              have HOLD := Lib.hid (show (∀ W, Fr (from_ B) W2 W → ∀ j u, ((l.take k).flatMap encI)[j]? = some u → W.cell? ((⟨lb, lo, none⟩ : Addr).add j) = some u) ∧ _ from And.intro (fun W kk j u hj => hold W kk j u (htd j u hj)) hdd)
              clear htd hdd c0 c1 hq x0 x1 hF2 hkW hIt hcl hob2 hEm hF3 hold hB
              have hlkn : (l.take k).length = k := by rw [List.length_take, HN.out]; omega
              have hldn : (l.drop k).length = n - k := by rw [List.length_drop, HN.out]
              have HLN := Lib.hid (And.intro hlkn hldn)
              clear hlkn hldn
              have hkm : k ≤ 100000 := by omega
              obtain ⟨i0, hi, hz0, hz1, hz2⟩ := info_parts Try.infoItem
              go_wp2_with (first
                | (at_builtin; refine wpList_append_any rfl _ _ 103 rfl B 102 i0 _ 2 16 Try.underlying103 hi hz0 hz1 hz2 (by rfl) (by decide) (.slice (some ⟨W2.heap.size, 0, none⟩) 0 0) 0 [] (by rfl) HEM.out (some ⟨lb, lo, none⟩) k lc ((l.take k).flatMap encI) (by rfl) (by rw [enc_len, HLN.out.1]) (.inr ⟨_, rfl, HOLD.out.1 _ HF3.out⟩) (enc_one _) (by unfold maxLen; omega) (by omega) (by rw [HB.out]; simp) ?_
                   intro v3 w3 hown3 hgr3
                   have hf3 : Fr (from_ B) W2 w3 := HF3.out.trans ((Fr.grown hgr3).mono fun g _ (e : some W2.heap.size = some g) => by have e' := Option.some.inj e; show B ≤ g; rw [HB.out]; omega)
                   have x0 := obj_cell (hf3.obj HOB.out fun (e : B ≤ w.heap.size) => by rw [HB.out] at e; omega) 0 (v := .int .i64 xa) rfl
                   have x1 := obj_cell (hf3.obj HOB.out fun (e : B ≤ w.heap.size) => by rw [HB.out] at e; omega) 1 (v := .int .i64 xb) rfl
                   have hnw := two_news (alloc_obj w3 (Obj.cells #[.int .i64 xa, .int .i64 xb] 102 (0, 0)))
                   have hown3 := hown3.alloc (Obj.cells #[.int .i64 xa, .int .i64 xb] 102 (0, 0))
                   have HF4 := Lib.hid (And.intro hf3 (hf3.trans (Fr.alloc w3 (Obj.cells #[.int .i64 xa, .int .i64 xb] 102 (0, 0)))))
                   clear hf3 hgr3)
                | (at_builtin; refine wpList_append_any rfl _ _ 103 rfl B 102 i0 _ 2 16 Try.underlying103 hi hz0 hz1 hz2 (by rfl) (by decide) v3 (0 + k) _ (by rfl) hown3 (some ⟨w3.heap.size, 0, none⟩) 1 1 [.int .i64 xa, .int .i64 xb] (by rfl) (by rfl) (.inr ⟨_, rfl, hnw⟩) (by simp [Value.oneCell']) (by unfold maxLen; omega) (by omega) (by have := HF4.out.2.size; rw [HB.out]; exact this) ?_
                   intro v5 w5 hown5 hgr5
                   have hf5 : Fr (from_ B) W2 w5 := HF4.out.2.trans ((Fr.grown hgr5).mono fun g _ e => (ownObj hown3 g e).1)
                   have HF5 := Lib.hid hf5
                   clear hf5)
                | (at_builtin; refine wpList_append_any rfl _ _ 103 rfl B 102 i0 _ 2 16 Try.underlying103 hi hz0 hz1 hz2 (by rfl) (by decide) v5 (0 + k + 1) _ (by rfl) hown5 (some ⟨lb, lo + k * 2, none⟩) (n - k) (lc - k) ((l.drop k).flatMap encI) (by rfl) (by rw [enc_len, HLN.out.2]) (.inr ⟨_, rfl, HOLD.out.2 _ HF5.out⟩) (enc_one _) (by unfold maxLen; omega) (by omega) (by have := HF5.out.size; rw [HB.out]; exact this) ?_
                   intro v7 w7 hown7 hgr7))
              go_ret2
              have hf7 : Fr (from_ B) W2 w7 := HF5.out.trans ((Fr.grown hgr7).mono fun g _ e => (ownObj hown5 g e).1)
              have hOW : OwnI w7 B v7 (putI (xa, xb) l) := by
                rw [HNB.out.2]
                unfold OwnI
                have e1 : (l.take k ++ (xa, xb) :: l.drop k).length = 0 + k + 1 + (n - k) := by rw [List.length_append, List.length_cons, HLN.out.1, HLN.out.2]; omega
                have e2 : (l.take k ++ (xa, xb) :: l.drop k).flatMap encI = [] ++ (l.take k).flatMap encI ++ [.int .i64 xa, .int .i64 xb] ++ (l.drop k).flatMap encI := by simp [encI]
                rw [e1, e2]
                exact hown7
              refine ⟨v7, by rw [HNB.out.1]; rfl, ?_, fun h => (by rw [HNB.out.1] at h; cases h), fun _ => hOW.down (by rw [HB.out]; omega), ?_⟩
              · rw [HNB.out.2] at hOW ⊢
                refine hOW.items (fun z hz => ?_) ?_
                · rcases List.mem_append.1 hz with hz | hz
                  · exact HL.out.small z (List.mem_of_mem_take hz)
                  · rcases List.mem_cons.1 hz with rfl | hz
                    · exact HX.out
                    · exact HL.out.small z (List.mem_of_mem_drop hz)
                · rw [List.length_append, List.length_cons, HLN.out.1, HLN.out.2]; omega
              · have hb7 : Below W2.heap.size W2 w7 := by
                  refine ⟨hf7.os, hf7.tape, hf7.output, hf7.size, fun g hg => hf7.block g hg fun e => ?_⟩
                  have e' : B ≤ g := e
                  rw [HB.out] at e'
                  omega
                exact (HT.out.1.trans (Fr.new hb7)).below_new
        · have t2' : (ya == xa) = false := by simp [t2]
          have HC := Lib.hid (HB.out.2.1 (by unfold ltI; simp only; omega))
          have hne : ¬ ((ya, yb) : It) = (xa, xb) := fun e => t2 (congrArg Prod.fst e)
          have hq := fun w => eqItem (ya, yb) (xa, xb) w
          rw [decide_eq_false hne] at hq
          unfold itVal at hq
          simp only at hq
          have hnb : newB (xa, xb) l = true := by unfold newB; rw [HC.out, HB.out.2.2]; exact decide_eq_true fun h => hne (Option.some.inj h)
          have hpi := putI_new hnb
          rw [HC.out] at hpi
          have HNB := Lib.hid (And.intro hnb hpi)
          clear t1 t2 hne hnb hpi
          go_upto_region 2 with fail
          go_quiet (fail)
          go_upto_region 4 with fail
          go_quiet (fail)
          go_upto_region 6 with fail
          refine wp_at (F := fun W => Fr nothing w1 W) (HWM.out.2.trans ((Fr.drewN _ _).trans (Fr.drewN _ _))) ?_
          intro W2 hF2
          have hkW := HK.out.1.trans hF2
          have hIt := HL.out.fr hkW
          obtain ⟨h1, h2⟩ | ⟨ad, h1, hcl⟩ := hIt.cells
          · cases h1
          simp only [Option.some.injEq] at h1
          subst h1
          have HT := Lib.hid (And.intro hkW hcl)
          have hob2 := hF2.obj HK.out.2 id
          have hsz : w.heap.size < W2.heap.size := (Array.getElem?_eq_some_iff.1 hob2).1
          obtain ⟨B, hB⟩ : ∃ B, B = W2.heap.size := ⟨_, rfl⟩
          have hEm := own_laid0 (e := 102) (size := 2) (B := B) (n := 0) (alloc_obj W2 (Obj.cells #[] 102 (0, 0))) (by omega) rfl (by unfold maxLen; omega)
          have HEM := Lib.hid hEm
          have HOB := Lib.hid hob2
          have HB := Lib.hid hB
          have hF3 : Fr (from_ B) W2 (W2.alloc (Obj.cells #[] 102 (0, 0))) := Fr.alloc _ _
          have HF3 := Lib.hid hF3
          have hold : ∀ W, Fr (from_ B) W2 W → ∀ j u, (l.flatMap encI)[j]? = some u → W.cell? ((⟨lb, lo, none⟩ : Addr).add j) = some u := fun W kk j u hj => by
            have h1 := HT.out.2 j u hj
            exact kk.cell h1 fun e => by have h2 := World.block_lt_of_cell? _ _ h1; have e' : B ≤ ((⟨lb, lo, none⟩ : Addr).add j).block := e; rw [HB.out] at e'; omega
          have htd : ∀ j u, ((l.take k).flatMap encI)[j]? = some u → (l.flatMap encI)[j]? = some u := fun j u hj => by
            have h1 : l.flatMap encI = (l.take k).flatMap encI ++ (l.drop k).flatMap encI := by rw [← List.flatMap_append, List.take_append_drop]
            rw [h1]
            exact (List.getElem?_append_left (List.getElem?_eq_some_iff.1 hj).1).trans hj
          have hdd : ∀ W, Fr (from_ B) W2 W → ∀ j u, ((l.drop k).flatMap encI)[j]? = some u → W.cell? ((⟨lb, lo + k * 2, none⟩ : Addr).add j) = some u := fun W kk j u hj => by
            have h1 : l.flatMap encI = (l.take k).flatMap encI ++ (l.drop k).flatMap encI := by rw [← List.flatMap_append, List.take_append_drop]
            have h2 : ((l.take k).flatMap encI).length = k * 2 := by rw [enc_len, List.length_take, HN.out, Nat.min_eq_left hkn]
            have h3 := hold W kk (k * 2 + j) u (by rw [h1, List.getElem?_append_right (by omega), h2, show k * 2 + j - k * 2 = j by omega]; exact hj)
            have h4 : (⟨lb, lo, none⟩ : Addr).add (k * 2 + j) = (⟨lb, lo + k * 2, none⟩ : Addr).add j := by
              by_cases a : k = 0 <;> by_cases b : j = 0 <;> simp [Addr.add, Nat.add_assoc, a, b] <;> omega
            rw [← h4]
            exact h3
          have HOLD := Lib.hid (show (∀ W, Fr (from_ B) W2 W → ∀ j u, ((l.take k).flatMap encI)[j]? = some u → W.cell? ((⟨lb, lo, none⟩ : Addr).add j) = some u) ∧ _ from And.intro (fun W kk j u hj => hold W kk j u (htd j u hj)) hdd)
          clear htd hdd c0 c1 hq x0 x1 hF2 hkW hIt hcl hob2 hEm hF3 hold hB
          have hlkn : (l.take k).length = k := by rw [List.length_take, HN.out]; omega
          have hldn : (l.drop k).length = n - k := by rw [List.length_drop, HN.out]
          have HLN := Lib.hid (And.intro hlkn hldn)
          clear hlkn hldn
          have hkm : k ≤ 100000 := by omega
          obtain ⟨i0, hi, hz0, hz1, hz2⟩ := info_parts Try.infoItem
          go_wp2_with (first
            | (at_builtin; refine wpList_append_any rfl _ _ 103 rfl B 102 i0 _ 2 16 Try.underlying103 hi hz0 hz1 hz2 (by rfl) (by decide) (.slice (some ⟨W2.heap.size, 0, none⟩) 0 0) 0 [] (by rfl) HEM.out (some ⟨lb, lo, none⟩) k lc ((l.take k).flatMap encI) (by rfl) (by rw [enc_len, HLN.out.1]) (.inr ⟨_, rfl, HOLD.out.1 _ HF3.out⟩) (enc_one _) (by unfold maxLen; omega) (by omega) (by rw [HB.out]; simp) ?_
               intro v3 w3 hown3 hgr3
               have hf3 : Fr (from_ B) W2 w3 := HF3.out.trans ((Fr.grown hgr3).mono fun g _ (e : some W2.heap.size = some g) => by have e' := Option.some.inj e; show B ≤ g; rw [HB.out]; omega)
               have x0 := obj_cell (hf3.obj HOB.out fun (e : B ≤ w.heap.size) => by rw [HB.out] at e; omega) 0 (v := .int .i64 xa) rfl
               have x1 := obj_cell (hf3.obj HOB.out fun (e : B ≤ w.heap.size) => by rw [HB.out] at e; omega) 1 (v := .int .i64 xb) rfl
               have hnw := two_news (alloc_obj w3 (Obj.cells #[.int .i64 xa, .int .i64 xb] 102 (0, 0)))
               have hown3 := hown3.alloc (Obj.cells #[.int .i64 xa, .int .i64 xb] 102 (0, 0))
               have HF4 := Lib.hid (And.intro hf3 (hf3.trans (Fr.alloc w3 (Obj.cells #[.int .i64 xa, .int .i64 xb] 102 (0, 0)))))
               clear hf3 hgr3)
            | (at_builtin; refine wpList_append_any rfl _ _ 103 rfl B 102 i0 _ 2 16 Try.underlying103 hi hz0 hz1 hz2 (by rfl) (by decide) v3 (0 + k) _ (by rfl) hown3 (some ⟨w3.heap.size, 0, none⟩) 1 1 [.int .i64 xa, .int .i64 xb] (by rfl) (by rfl) (.inr ⟨_, rfl, hnw⟩) (by simp [Value.oneCell']) (by unfold maxLen; omega) (by omega) (by have := HF4.out.2.size; rw [HB.out]; exact this) ?_
               intro v5 w5 hown5 hgr5
               have hf5 : Fr (from_ B) W2 w5 := HF4.out.2.trans ((Fr.grown hgr5).mono fun g _ e => (ownObj hown3 g e).1)
               have HF5 := Lib.hid hf5
               clear hf5)
            | (at_builtin; refine wpList_append_any rfl _ _ 103 rfl B 102 i0 _ 2 16 Try.underlying103 hi hz0 hz1 hz2 (by rfl) (by decide) v5 (0 + k + 1) _ (by rfl) hown5 (some ⟨lb, lo + k * 2, none⟩) (n - k) (lc - k) ((l.drop k).flatMap encI) (by rfl) (by rw [enc_len, HLN.out.2]) (.inr ⟨_, rfl, HOLD.out.2 _ HF5.out⟩) (enc_one _) (by unfold maxLen; omega) (by omega) (by have := HF5.out.size; rw [HB.out]; exact this) ?_
               intro v7 w7 hown7 hgr7))
          go_ret2
          have hf7 : Fr (from_ B) W2 w7 := HF5.out.trans ((Fr.grown hgr7).mono fun g _ e => (ownObj hown5 g e).1)
          have hOW : OwnI w7 B v7 (putI (xa, xb) l) := by
            rw [HNB.out.2]
            unfold OwnI
            have e1 : (l.take k ++ (xa, xb) :: l.drop k).length = 0 + k + 1 + (n - k) := by rw [List.length_append, List.length_cons, HLN.out.1, HLN.out.2]; omega
            have e2 : (l.take k ++ (xa, xb) :: l.drop k).flatMap encI = [] ++ (l.take k).flatMap encI ++ [.int .i64 xa, .int .i64 xb] ++ (l.drop k).flatMap encI := by simp [encI]
            rw [e1, e2]
            exact hown7
          refine ⟨v7, by rw [HNB.out.1]; rfl, ?_, fun h => (by rw [HNB.out.1] at h; cases h), fun _ => hOW.down (by rw [HB.out]; omega), ?_⟩
          · rw [HNB.out.2] at hOW ⊢
            refine hOW.items (fun z hz => ?_) ?_
            · rcases List.mem_append.1 hz with hz | hz
              · exact HL.out.small z (List.mem_of_mem_take hz)
              · rcases List.mem_cons.1 hz with rfl | hz
                · exact HX.out
                · exact HL.out.small z (List.mem_of_mem_drop hz)
            · rw [List.length_append, List.length_cons, HLN.out.1, HLN.out.2]; omega
          · have hb7 : Below W2.heap.size W2 w7 := by
              refine ⟨hf7.os, hf7.tape, hf7.output, hf7.size, fun g hg => hf7.block g hg fun e => ?_⟩
              have e' : B ≤ g := e
              rw [HB.out] at e'
              omega
            exact (HT.out.1.trans (Fr.new hb7)).below_new
    · obtain rfl : k = n := by omega
      have HC := Lib.hid (show lessN (xa, xb) l = k from lessN_is (by rw [HN.out]; omega) HA.out fun hh => absurd hh (by rw [HN.out]; omega))
      have hnb : newB (xa, xb) l = true := by unfold newB; rw [HC.out, List.getElem?_eq_none (by rw [HN.out]; omega)]; exact decide_eq_true fun h => by cases h
      have hpi := putI_new hnb
      rw [HC.out] at hpi
      have HNB := Lib.hid (And.intro hnb hpi)
      have ht : decide (k < k) = false := decide_eq_false (by omega)
      clear hnb hpi hlt
      have hpi2 := HNB.out.2
      rw [List.take_of_length_le (by rw [HN.out]; exact Nat.le_refl _), List.drop_eq_nil_of_le (by rw [HN.out]; exact Nat.le_refl _)] at hpi2
      have HNC := Lib.hid (And.intro HNB.out.1 hpi2)
      clear hpi2 HNB
      have hfst : ∀ W, Fr nothing w W → (la = none ∧ k = 0) ∨ ∃ ad, la = some ad ∧ ∀ j u, (l.flatMap encI)[j]? = some u → W.cell? (ad.add j) = some u := fun W kk => (HL.out.fr kk).cells
      have HFST := Lib.hid hfst
      clear hfst
      by_cases hcap : lc = k
      · subst hcap
        cases la with
        | none =>
          go_upto_region 2 with fail
          go_quiet (fail)
          go_upto_region 4 with fail
          go_quiet (fail)
          go_upto_region 6 with fail
          refine wp_at (F := fun W => Fr nothing w1 W) (HWM.out.2.trans ((Fr.drewN _ _).trans (Fr.drewN _ _))) ?_
          intro W2 hF2
          have hkW := HK.out.1.trans hF2
          have HT := Lib.hid hkW
          have hob2 := hF2.obj HK.out.2 id
          have hsz : w.heap.size < W2.heap.size := (Array.getElem?_eq_some_iff.1 hob2).1
          obtain ⟨B, hB⟩ : ∃ B, B = W2.heap.size := ⟨_, rfl⟩
          have hEm := own_laid0 (e := 102) (size := 2) (B := B) (n := 0) (alloc_obj W2 (Obj.cells #[] 102 (0, 0))) (by omega) rfl (by unfold maxLen; omega)
          have HEM := Lib.hid hEm
          have HOB := Lib.hid hob2
          have HB := Lib.hid hB
          have hF3 : Fr (from_ B) W2 (W2.alloc (Obj.cells #[] 102 (0, 0))) := Fr.alloc _ _
          have HF3 := Lib.hid hF3
          have hfirst := HFST.out _ (hkW.trans (Fr.alloc W2 (Obj.cells #[] 102 (0, 0))))
          have HFS := Lib.hid hfirst
          clear x0 x1 hF2 hkW hob2 hEm hF3 hB hfirst
          obtain ⟨i0, hi, hz0, hz1, hz2⟩ := info_parts Try.infoItem
          go_wp2_with (first
            | (at_builtin; refine wpList_append_any rfl _ _ 103 rfl B 102 i0 _ 2 16 Try.underlying103 hi hz0 hz1 hz2 (by rfl) (by decide) (.slice (some ⟨W2.heap.size, 0, none⟩) 0 0) 0 [] (by rfl) HEM.out (none) lc lc (l.flatMap encI) (by rfl) (by rw [enc_len, HN.out]) HFS.out (enc_one _) (by unfold maxLen; omega) (by omega) (by rw [HB.out]; simp) ?_
               intro v3 w3 hown3 hgr3
               have hf3 : Fr (from_ B) W2 w3 := HF3.out.trans ((Fr.grown hgr3).mono fun g _ (e : some W2.heap.size = some g) => by have e' := Option.some.inj e; show B ≤ g; rw [HB.out]; omega)
               have x0 := obj_cell (hf3.obj HOB.out fun (e : B ≤ w.heap.size) => by rw [HB.out] at e; omega) 0 (v := .int .i64 xa) rfl
               have x1 := obj_cell (hf3.obj HOB.out fun (e : B ≤ w.heap.size) => by rw [HB.out] at e; omega) 1 (v := .int .i64 xb) rfl
               have hnw := two_news (alloc_obj w3 (Obj.cells #[.int .i64 xa, .int .i64 xb] 102 (0, 0)))
               have hown3 := hown3.alloc (Obj.cells #[.int .i64 xa, .int .i64 xb] 102 (0, 0))
               have HF4 := Lib.hid (And.intro hf3 (hf3.trans (Fr.alloc w3 (Obj.cells #[.int .i64 xa, .int .i64 xb] 102 (0, 0)))))
               clear hf3 hgr3)
            | (at_builtin; refine wpList_append_any rfl _ _ 103 rfl B 102 i0 _ 2 16 Try.underlying103 hi hz0 hz1 hz2 (by rfl) (by decide) v3 (0 + lc) _ (by rfl) hown3 (some ⟨w3.heap.size, 0, none⟩) 1 1 [.int .i64 xa, .int .i64 xb] (by rfl) (by rfl) (.inr ⟨_, rfl, hnw⟩) (by simp [Value.oneCell']) (by unfold maxLen; omega) (by omega) (by have := HF4.out.2.size; rw [HB.out]; exact this) ?_
               intro v5 w5 hown5 hgr5
               have hf5 : Fr (from_ B) W2 w5 := HF4.out.2.trans ((Fr.grown hgr5).mono fun g _ e => (ownObj hown3 g e).1)
               have HF5 := Lib.hid hf5
               clear hf5)
            | (at_builtin; refine wpList_append_any rfl _ _ 103 rfl B 102 i0 _ 2 16 Try.underlying103 hi hz0 hz1 hz2 (by rfl) (by decide) v5 (0 + lc + 1) _ (by rfl) hown5 (none) 0 (0) [] (by rfl) (by rfl) (.inl ⟨rfl, rfl⟩) (by simp) (by unfold maxLen; omega) (by omega) (by have := HF5.out.size; rw [HB.out]; exact this) ?_
               intro v7 w7 hown7 hgr7))
          go_ret2
          have hf7 : Fr (from_ B) W2 w7 := HF5.out.trans ((Fr.grown hgr7).mono fun g _ e => (ownObj hown5 g e).1)
          have hOW : OwnI w7 B v7 (putI (xa, xb) l) := by
            rw [HNC.out.2]
            unfold OwnI
            have e1 : (l ++ [(xa, xb)]).length = 0 + lc + 1 + 0 := by rw [List.length_append, HN.out]; simp
            have e2 : (l ++ [(xa, xb)]).flatMap encI = [] ++ l.flatMap encI ++ [.int .i64 xa, .int .i64 xb] ++ [] := by simp [encI]
            rw [e1, e2]
            exact hown7
          refine ⟨v7, by rw [HNC.out.1]; rfl, ?_, fun h => (by rw [HNC.out.1] at h; cases h), fun _ => hOW.down (by rw [HB.out]; omega), ?_⟩
          · rw [HNC.out.2] at hOW ⊢
            refine hOW.items (fun z hz => ?_) ?_
            · rcases List.mem_append.1 hz with hz | hz
              · exact HL.out.small z hz
              · rw [List.mem_singleton.1 hz]
                exact HX.out
            · rw [List.length_append, HN.out]; simp; omega
          · have hb7 : Below W2.heap.size W2 w7 := by
              refine ⟨hf7.os, hf7.tape, hf7.output, hf7.size, fun g hg => hf7.block g hg fun e => ?_⟩
              have e' : B ≤ g := e
              rw [HB.out] at e'
              omega
            exact (HT.out.trans (Fr.new hb7)).below_new
        | some ad =>
          go_upto_region 2 with fail
          go_quiet (fail)
          go_upto_region 4 with fail
          go_quiet (fail)
          go_upto_region 6 with fail
          refine wp_at (F := fun W => Fr nothing w1 W) (HWM.out.2.trans ((Fr.drewN _ _).trans (Fr.drewN _ _))) ?_
          intro W2 hF2
          have hkW := HK.out.1.trans hF2
          have HT := Lib.hid hkW
          have hob2 := hF2.obj HK.out.2 id
          have hsz : w.heap.size < W2.heap.size := (Array.getElem?_eq_some_iff.1 hob2).1
          obtain ⟨B, hB⟩ : ∃ B, B = W2.heap.size := ⟨_, rfl⟩
          have hEm := own_laid0 (e := 102) (size := 2) (B := B) (n := 0) (alloc_obj W2 (Obj.cells #[] 102 (0, 0))) (by omega) rfl (by unfold maxLen; omega)
          have HEM := Lib.hid hEm
          have HOB := Lib.hid hob2
          have HB := Lib.hid hB
          have hF3 : Fr (from_ B) W2 (W2.alloc (Obj.cells #[] 102 (0, 0))) := Fr.alloc _ _
          have HF3 := Lib.hid hF3
          have hfirst := HFST.out _ (hkW.trans (Fr.alloc W2 (Obj.cells #[] 102 (0, 0))))
          have HFS := Lib.hid hfirst
          clear x0 x1 hF2 hkW hob2 hEm hF3 hB hfirst
          obtain ⟨i0, hi, hz0, hz1, hz2⟩ := info_parts Try.infoItem
          go_wp2_with (first
            | (at_builtin; refine wpList_append_any rfl _ _ 103 rfl B 102 i0 _ 2 16 Try.underlying103 hi hz0 hz1 hz2 (by rfl) (by decide) (.slice (some ⟨W2.heap.size, 0, none⟩) 0 0) 0 [] (by rfl) HEM.out (some ad) lc lc (l.flatMap encI) (by rfl) (by rw [enc_len, HN.out]) HFS.out (enc_one _) (by unfold maxLen; omega) (by omega) (by rw [HB.out]; simp) ?_
               intro v3 w3 hown3 hgr3
               have hf3 : Fr (from_ B) W2 w3 := HF3.out.trans ((Fr.grown hgr3).mono fun g _ (e : some W2.heap.size = some g) => by have e' := Option.some.inj e; show B ≤ g; rw [HB.out]; omega)
               have x0 := obj_cell (hf3.obj HOB.out fun (e : B ≤ w.heap.size) => by rw [HB.out] at e; omega) 0 (v := .int .i64 xa) rfl
               have x1 := obj_cell (hf3.obj HOB.out fun (e : B ≤ w.heap.size) => by rw [HB.out] at e; omega) 1 (v := .int .i64 xb) rfl
               have hnw := two_news (alloc_obj w3 (Obj.cells #[.int .i64 xa, .int .i64 xb] 102 (0, 0)))
               have hown3 := hown3.alloc (Obj.cells #[.int .i64 xa, .int .i64 xb] 102 (0, 0))
               have HF4 := Lib.hid (And.intro hf3 (hf3.trans (Fr.alloc w3 (Obj.cells #[.int .i64 xa, .int .i64 xb] 102 (0, 0)))))
               clear hf3 hgr3)
            | (at_builtin; refine wpList_append_any rfl _ _ 103 rfl B 102 i0 _ 2 16 Try.underlying103 hi hz0 hz1 hz2 (by rfl) (by decide) v3 (0 + lc) _ (by rfl) hown3 (some ⟨w3.heap.size, 0, none⟩) 1 1 [.int .i64 xa, .int .i64 xb] (by rfl) (by rfl) (.inr ⟨_, rfl, hnw⟩) (by simp [Value.oneCell']) (by unfold maxLen; omega) (by omega) (by have := HF4.out.2.size; rw [HB.out]; exact this) ?_
               intro v5 w5 hown5 hgr5
               have hf5 : Fr (from_ B) W2 w5 := HF4.out.2.trans ((Fr.grown hgr5).mono fun g _ e => (ownObj hown3 g e).1)
               have HF5 := Lib.hid hf5
               clear hf5)
            | (at_builtin; refine wpList_append_any rfl _ _ 103 rfl B 102 i0 _ 2 16 Try.underlying103 hi hz0 hz1 hz2 (by rfl) (by decide) v5 (0 + lc + 1) _ (by rfl) hown5 (some ad) 0 (0) [] (by rfl) (by rfl) (.inr ⟨_, rfl, fun j u hj => by simp at hj⟩) (by simp) (by unfold maxLen; omega) (by omega) (by have := HF5.out.size; rw [HB.out]; exact this) ?_
               intro v7 w7 hown7 hgr7))
          go_ret2
          have hf7 : Fr (from_ B) W2 w7 := HF5.out.trans ((Fr.grown hgr7).mono fun g _ e => (ownObj hown5 g e).1)
          have hOW : OwnI w7 B v7 (putI (xa, xb) l) := by
            rw [HNC.out.2]
            unfold OwnI
            have e1 : (l ++ [(xa, xb)]).length = 0 + lc + 1 + 0 := by rw [List.length_append, HN.out]; simp
            have e2 : (l ++ [(xa, xb)]).flatMap encI = [] ++ l.flatMap encI ++ [.int .i64 xa, .int .i64 xb] ++ [] := by simp [encI]
            rw [e1, e2]
            exact hown7
          refine ⟨v7, by rw [HNC.out.1]; rfl, ?_, fun h => (by rw [HNC.out.1] at h; cases h), fun _ => hOW.down (by rw [HB.out]; omega), ?_⟩
          · rw [HNC.out.2] at hOW ⊢
            refine hOW.items (fun z hz => ?_) ?_
            · rcases List.mem_append.1 hz with hz | hz
              · exact HL.out.small z hz
              · rw [List.mem_singleton.1 hz]
                exact HX.out
            · rw [List.length_append, HN.out]; simp; omega
          · have hb7 : Below W2.heap.size W2 w7 := by
              refine ⟨hf7.os, hf7.tape, hf7.output, hf7.size, fun g hg => hf7.block g hg fun e => ?_⟩
              have e' : B ≤ g := e
              rw [HB.out] at e'
              omega
            exact (HT.out.trans (Fr.new hb7)).below_new
      · cases la with
        | none =>
          go_upto_region 2 with fail
          go_quiet (fail)
          go_upto_region 4 with fail
          go_quiet (fail)
          go_upto_region 6 with fail
          refine wp_at (F := fun W => Fr nothing w1 W) (HWM.out.2.trans ((Fr.drewN _ _).trans (Fr.drewN _ _))) ?_
          intro W2 hF2
          have hkW := HK.out.1.trans hF2
          have HT := Lib.hid hkW
          have hob2 := hF2.obj HK.out.2 id
          have hsz : w.heap.size < W2.heap.size := (Array.getElem?_eq_some_iff.1 hob2).1
          obtain ⟨B, hB⟩ : ∃ B, B = W2.heap.size := ⟨_, rfl⟩
          have hEm := own_laid0 (e := 102) (size := 2) (B := B) (n := 0) (alloc_obj W2 (Obj.cells #[] 102 (0, 0))) (by omega) rfl (by unfold maxLen; omega)
          have HEM := Lib.hid hEm
          have HOB := Lib.hid hob2
          have HB := Lib.hid hB
          have hF3 : Fr (from_ B) W2 (W2.alloc (Obj.cells #[] 102 (0, 0))) := Fr.alloc _ _
          have HF3 := Lib.hid hF3
          have hfirst := HFST.out _ (hkW.trans (Fr.alloc W2 (Obj.cells #[] 102 (0, 0))))
          have HFS := Lib.hid hfirst
          clear x0 x1 hF2 hkW hob2 hEm hF3 hB hfirst
          obtain ⟨i0, hi, hz0, hz1, hz2⟩ := info_parts Try.infoItem
          go_wp2_with (first
            | (at_builtin; refine wpList_append_any rfl _ _ 103 rfl B 102 i0 _ 2 16 Try.underlying103 hi hz0 hz1 hz2 (by rfl) (by decide) (.slice (some ⟨W2.heap.size, 0, none⟩) 0 0) 0 [] (by rfl) HEM.out (none) k lc (l.flatMap encI) (by rfl) (by rw [enc_len, HN.out]) HFS.out (enc_one _) (by unfold maxLen; omega) (by omega) (by rw [HB.out]; simp) ?_
               intro v3 w3 hown3 hgr3
               have hf3 : Fr (from_ B) W2 w3 := HF3.out.trans ((Fr.grown hgr3).mono fun g _ (e : some W2.heap.size = some g) => by have e' := Option.some.inj e; show B ≤ g; rw [HB.out]; omega)
               have x0 := obj_cell (hf3.obj HOB.out fun (e : B ≤ w.heap.size) => by rw [HB.out] at e; omega) 0 (v := .int .i64 xa) rfl
               have x1 := obj_cell (hf3.obj HOB.out fun (e : B ≤ w.heap.size) => by rw [HB.out] at e; omega) 1 (v := .int .i64 xb) rfl
               have hnw := two_news (alloc_obj w3 (Obj.cells #[.int .i64 xa, .int .i64 xb] 102 (0, 0)))
               have hown3 := hown3.alloc (Obj.cells #[.int .i64 xa, .int .i64 xb] 102 (0, 0))
               have HF4 := Lib.hid (And.intro hf3 (hf3.trans (Fr.alloc w3 (Obj.cells #[.int .i64 xa, .int .i64 xb] 102 (0, 0)))))
               clear hf3 hgr3)
            | (at_builtin; refine wpList_append_any rfl _ _ 103 rfl B 102 i0 _ 2 16 Try.underlying103 hi hz0 hz1 hz2 (by rfl) (by decide) v3 (0 + k) _ (by rfl) hown3 (some ⟨w3.heap.size, 0, none⟩) 1 1 [.int .i64 xa, .int .i64 xb] (by rfl) (by rfl) (.inr ⟨_, rfl, hnw⟩) (by simp [Value.oneCell']) (by unfold maxLen; omega) (by omega) (by have := HF4.out.2.size; rw [HB.out]; exact this) ?_
               intro v5 w5 hown5 hgr5
               have hf5 : Fr (from_ B) W2 w5 := HF4.out.2.trans ((Fr.grown hgr5).mono fun g _ e => (ownObj hown3 g e).1)
               have HF5 := Lib.hid hf5
               clear hf5)
            | (at_builtin; refine wpList_append_any rfl _ _ 103 rfl B 102 i0 _ 2 16 Try.underlying103 hi hz0 hz1 hz2 (by rfl) (by decide) v5 (0 + k + 1) _ (by rfl) hown5 (none) 0 (lc - k) [] (by rfl) (by rfl) (.inl ⟨rfl, rfl⟩) (by simp) (by unfold maxLen; omega) (by omega) (by have := HF5.out.size; rw [HB.out]; exact this) ?_
               intro v7 w7 hown7 hgr7))
          go_ret2
          have hf7 : Fr (from_ B) W2 w7 := HF5.out.trans ((Fr.grown hgr7).mono fun g _ e => (ownObj hown5 g e).1)
          have hOW : OwnI w7 B v7 (putI (xa, xb) l) := by
            rw [HNC.out.2]
            unfold OwnI
            have e1 : (l ++ [(xa, xb)]).length = 0 + k + 1 + 0 := by rw [List.length_append, HN.out]; simp
            have e2 : (l ++ [(xa, xb)]).flatMap encI = [] ++ l.flatMap encI ++ [.int .i64 xa, .int .i64 xb] ++ [] := by simp [encI]
            rw [e1, e2]
            exact hown7
          refine ⟨v7, by rw [HNC.out.1]; rfl, ?_, fun h => (by rw [HNC.out.1] at h; cases h), fun _ => hOW.down (by rw [HB.out]; omega), ?_⟩
          · rw [HNC.out.2] at hOW ⊢
            refine hOW.items (fun z hz => ?_) ?_
            · rcases List.mem_append.1 hz with hz | hz
              · exact HL.out.small z hz
              · rw [List.mem_singleton.1 hz]
                exact HX.out
            · rw [List.length_append, HN.out]; simp; omega
          · have hb7 : Below W2.heap.size W2 w7 := by
              refine ⟨hf7.os, hf7.tape, hf7.output, hf7.size, fun g hg => hf7.block g hg fun e => ?_⟩
              have e' : B ≤ g := e
              rw [HB.out] at e'
              omega
            exact (HT.out.trans (Fr.new hb7)).below_new
        | some ad =>
          go_upto_region 2 with fail
          go_quiet (fail)
          go_upto_region 4 with fail
          go_quiet (fail)
          go_upto_region 6 with fail
          refine wp_at (F := fun W => Fr nothing w1 W) (HWM.out.2.trans ((Fr.drewN _ _).trans (Fr.drewN _ _))) ?_
          intro W2 hF2
          have hkW := HK.out.1.trans hF2
          have HT := Lib.hid hkW
          have hob2 := hF2.obj HK.out.2 id
          have hsz : w.heap.size < W2.heap.size := (Array.getElem?_eq_some_iff.1 hob2).1
          obtain ⟨B, hB⟩ : ∃ B, B = W2.heap.size := ⟨_, rfl⟩
          have hEm := own_laid0 (e := 102) (size := 2) (B := B) (n := 0) (alloc_obj W2 (Obj.cells #[] 102 (0, 0))) (by omega) rfl (by unfold maxLen; omega)
          have HEM := Lib.hid hEm
          have HOB := Lib.hid hob2
          have HB := Lib.hid hB
          have hF3 : Fr (from_ B) W2 (W2.alloc (Obj.cells #[] 102 (0, 0))) := Fr.alloc _ _
          have HF3 := Lib.hid hF3
          have hfirst := HFST.out _ (hkW.trans (Fr.alloc W2 (Obj.cells #[] 102 (0, 0))))
          have HFS := Lib.hid hfirst
          clear x0 x1 hF2 hkW hob2 hEm hF3 hB hfirst
          obtain ⟨i0, hi, hz0, hz1, hz2⟩ := info_parts Try.infoItem
          go_wp2_with (first
            | (at_builtin; refine wpList_append_any rfl _ _ 103 rfl B 102 i0 _ 2 16 Try.underlying103 hi hz0 hz1 hz2 (by rfl) (by decide) (.slice (some ⟨W2.heap.size, 0, none⟩) 0 0) 0 [] (by rfl) HEM.out (some ad) k lc (l.flatMap encI) (by rfl) (by rw [enc_len, HN.out]) HFS.out (enc_one _) (by unfold maxLen; omega) (by omega) (by rw [HB.out]; simp) ?_
               intro v3 w3 hown3 hgr3
               have hf3 : Fr (from_ B) W2 w3 := HF3.out.trans ((Fr.grown hgr3).mono fun g _ (e : some W2.heap.size = some g) => by have e' := Option.some.inj e; show B ≤ g; rw [HB.out]; omega)
               have x0 := obj_cell (hf3.obj HOB.out fun (e : B ≤ w.heap.size) => by rw [HB.out] at e; omega) 0 (v := .int .i64 xa) rfl
               have x1 := obj_cell (hf3.obj HOB.out fun (e : B ≤ w.heap.size) => by rw [HB.out] at e; omega) 1 (v := .int .i64 xb) rfl
               have hnw := two_news (alloc_obj w3 (Obj.cells #[.int .i64 xa, .int .i64 xb] 102 (0, 0)))
               have hown3 := hown3.alloc (Obj.cells #[.int .i64 xa, .int .i64 xb] 102 (0, 0))
               have HF4 := Lib.hid (And.intro hf3 (hf3.trans (Fr.alloc w3 (Obj.cells #[.int .i64 xa, .int .i64 xb] 102 (0, 0)))))
               clear hf3 hgr3)
            | (at_builtin; refine wpList_append_any rfl _ _ 103 rfl B 102 i0 _ 2 16 Try.underlying103 hi hz0 hz1 hz2 (by rfl) (by decide) v3 (0 + k) _ (by rfl) hown3 (some ⟨w3.heap.size, 0, none⟩) 1 1 [.int .i64 xa, .int .i64 xb] (by rfl) (by rfl) (.inr ⟨_, rfl, hnw⟩) (by simp [Value.oneCell']) (by unfold maxLen; omega) (by omega) (by have := HF4.out.2.size; rw [HB.out]; exact this) ?_
               intro v5 w5 hown5 hgr5
               have hf5 : Fr (from_ B) W2 w5 := HF4.out.2.trans ((Fr.grown hgr5).mono fun g _ e => (ownObj hown3 g e).1)
               have HF5 := Lib.hid hf5
               clear hf5)
            | (at_builtin; refine wpList_append_any rfl _ _ 103 rfl B 102 i0 _ 2 16 Try.underlying103 hi hz0 hz1 hz2 (by rfl) (by decide) v5 (0 + k + 1) _ (by rfl) hown5 (some (ad.add (k * 2))) 0 (lc - k) [] (by rfl) (by rfl) (.inr ⟨_, rfl, fun j u hj => by simp at hj⟩) (by simp) (by unfold maxLen; omega) (by omega) (by have := HF5.out.size; rw [HB.out]; exact this) ?_
               intro v7 w7 hown7 hgr7))
          go_ret2
          have hf7 : Fr (from_ B) W2 w7 := HF5.out.trans ((Fr.grown hgr7).mono fun g _ e => (ownObj hown5 g e).1)
          have hOW : OwnI w7 B v7 (putI (xa, xb) l) := by
            rw [HNC.out.2]
            unfold OwnI
            have e1 : (l ++ [(xa, xb)]).length = 0 + k + 1 + 0 := by rw [List.length_append, HN.out]; simp
            have e2 : (l ++ [(xa, xb)]).flatMap encI = [] ++ l.flatMap encI ++ [.int .i64 xa, .int .i64 xb] ++ [] := by simp [encI]
            rw [e1, e2]
            exact hown7
          refine ⟨v7, by rw [HNC.out.1]; rfl, ?_, fun h => (by rw [HNC.out.1] at h; cases h), fun _ => hOW.down (by rw [HB.out]; omega), ?_⟩
          · rw [HNC.out.2] at hOW ⊢
            refine hOW.items (fun z hz => ?_) ?_
            · rcases List.mem_append.1 hz with hz | hz
              · exact HL.out.small z hz
              · rw [List.mem_singleton.1 hz]
                exact HX.out
            · rw [List.length_append, HN.out]; simp; omega
          · have hb7 : Below W2.heap.size W2 w7 := by
              refine ⟨hf7.os, hf7.tape, hf7.output, hf7.size, fun g hg => hf7.block g hg fun e => ?_⟩
              have e' : B ≤ g := e
              rw [HB.out] at e'
              omega
            exact (HT.out.trans (Fr.new hb7)).below_new
end Go.Proofs.Ytpnihegmhalcfaa
