/-
  Package symbols: rule, late, symbol, where nothing is thrown.
-/
import Derived.Test.YtehaoiimhgkckaaMake7
import Derived.Deep.RegionHeld3
import Derived.Deep.RegionLaw
import Derived.Deep.AppendLies
namespace Go.Proofs.Ytehaoiimhgkckaa
open Go.RowKit Go.MapKept Go.ChangeMaps
set_option maxHeartbeats 400000

theorem lies_cells {w : World} {B mb tb rb : Nat} {M : Mst} (h : Lies w B mb tb rb M) : w.cell? ⟨mb, 0, none⟩ = some (.int .i64 M.terms) ∧ w.cell? ⟨mb, 3, none⟩ = some (.map (some tb)) ∧ w.cell? ⟨mb, 4, none⟩ = some (.map (some rb)) ∧ (∃ a c, w.cell? ⟨mb, 5, none⟩ = some (.slice a M.named.length c)) ∧ w.cell? ⟨mb, 7, none⟩ = some (.string M.start) := by
  obtain ⟨_, _, _, h⟩ := h
  obtain ⟨a, c, rfl, _⟩ := own_cells h.named
  exact ⟨obj_cell h.obj 0 rfl, obj_cell h.obj 3 rfl, obj_cell h.obj 4 rfl, ⟨a, c, obj_cell h.obj 5 rfl⟩, obj_cell h.obj 7 rfl⟩
theorem lies_tm {w : World} {B mb tb rb : Nat} {M : Mst} (h : Lies w B mb tb rb M) (hu : Uq M.tm) (s : ByteArray) (c : Bool) :
    (Instr.lookup 104 (.map (some tb)) (.string s) c).run Try.prog w = .ok (if c then .tuple #[.int .i64 ((findN? M.tm s).getD 0), .bool (findN? M.tm s).isSome] else .int .i64 ((findN? M.tm s).getD 0)) w := by
  obtain ⟨_, _, _, h⟩ := h
  cases hf : findN? M.tm s with
  | none => exact look_none' h.tm hf c
  | some n => exact look_some h.tm hu hf c
theorem lies_rm {w : World} {B mb tb rb : Nat} {M : Mst} (h : Lies w B mb tb rb M) (hu : Uq M.rm) (s : ByteArray) (c : Bool) :
    (Instr.lookup 104 (.map (some rb)) (.string s) c).run Try.prog w = .ok (if c then .tuple #[.int .i64 ((findN? M.rm s).getD 0), .bool (findN? M.rm s).isSome] else .int .i64 ((findN? M.rm s).getD 0)) w := by
  obtain ⟨_, _, _, h⟩ := h
  cases hf : findN? M.rm s with
  | none => exact look_none' h.rm hf c
  | some n => exact look_some h.rm hu hf c
set_option maxRecDepth 100000 in
theorem symbol_any (M : Mst) (s : ByteArray) (n : Int) (w : World) (B mb tb rb : Nat) (h : Lies w B mb tb rb M) (hu : Uq M.tm) (hr : Uq M.rm) (hn : symN M s = some n) (ht : 0 ≤ M.terms ∧ M.terms ≤ 100000) (hb : ∀ x ∈ M.rm, 0 ≤ x.2 ∧ x.2 ≤ 100000) :
    Calls Try.prog 85 #[.pointer (some ⟨mb, 0, none⟩), .string s] w fun e w' => e = .returned (.tuple #[.int .i64 n, .bool true]) ∧ w = w' := by
  obtain ⟨c0, c3, c4, _, _⟩ := lies_cells h
  have l1 := lies_tm h hu s true
  have l2 := lies_rm h hr s true
  unfold symN at hn
  clear h
  cases hf : findN? M.tm s with
  | some m =>
    rw [hf] at hn l1
    simp only [Option.some.injEq] at hn
    subst hn
    simp only [if_true, Option.getD_some, Option.isSome_some] at l1
    clear l2 hf
    go_enter Try.func85, Try.ntmps85
    go_wp2
    go_ret2
    exact ⟨rfl, rfl⟩
  | none =>
    rw [hf] at hn l1
    simp only at hn
    obtain ⟨m, hm, rfl⟩ := Option.map_eq_some_iff.1 hn
    rw [hm] at l2
    simp only [if_true, Option.getD_some, Option.getD_none, Option.isSome_some, Option.isSome_none] at l1 l2
    have hmb := hb _ (find_some hm)
    simp only at hmb
    clear hf hn hm hb
    go_enter Try.func85, Try.ntmps85
    go_wp2
    go_ret2
    exact ⟨rfl, rfl⟩
def addR (M : Mst) (s : ByteArray) : Mst := { M with rm := M.rm ++ [(s, (M.named.length : Int))], named := M.named ++ [⟨s, nNone, 0, 0⟩] }
theorem ruleN_some {M M' : Mst} {s : ByteArray} (h : ruleN M s = some M') : oddG s = false ∧ findN? M.tm s = none ∧ findN? M.rm s = none ∧ M' = addR M s := by
  unfold ruleN at h
  split at h
  · cases h
  · rename_i h1
    simp only [Bool.or_eq_true, not_or, Bool.not_eq_true] at h1
    simp only [Option.some.injEq] at h
    exact ⟨h1.1.1, by simpa using h1.1.2, by simpa using h1.2, h.symm⟩
theorem Mem.rm' {w w' : World} {B mb : Nat} {M : Mst} {sv pv nv : Value} {tb rb : Nat} (h : Mem w B mb M sv pv nv tb rb) (k : Fr (only rb) w w') (L : List (ByteArray × Int)) (hm : IsMap w' .string rb (mapKV L)) : Mem w' B mb { M with rm := L } sv pv nv tb rb := by
  obtain ⟨h1, h2, h3, ⟨xs, h4, h5, h6⟩, h7, h8, h9, h10⟩ := h
  have hne : ∀ {e size n : Nat} {u : Value} {ys : List Value}, w.ownsRow B e size u n ys → w'.ownsRow B e size u n ys := fun ho' => own_fr ho' k fun g hg e => map_own h8 ho' (by rw [hg]; exact congrArg some e)
  exact ⟨k.obj h1 fun e => map_ne h8 h1 e, hne h2, hne h3, ⟨xs, h4, hne h5, fun x hx => hne (h6 x hx)⟩, h7.fr k fun e => h10.2.2.2 e, hm, h9, h10⟩
theorem Mem.named' {w w2 : World} {B mb : Nat} {M : Mst} {sv pv nv v2 : Value} {tb rb : Nat} (h : Mem w B mb M sv pv nv tb rb) (k : Fr (fun g => nv.ownBlock = some g) w w2) (L : List Sym) (ho : w2.ownsRow B 65 4 v2 L.length (L.flatMap symCells)) (hv : ∀ g, v2.ownBlock = some g → nv.ownBlock = some g ∨ w.heap.size ≤ g) :
    Mem (w2.setCell ⟨mb, 5, none⟩ v2) B mb { M with named := L } sv pv v2 tb rb ∧ FM B mb tb rb w (w2.setCell ⟨mb, 5, none⟩ v2) := by
  obtain ⟨h1, h2, h3, ⟨xs, h4, h5, h6⟩, h7, h8, h9, h10⟩ := h
  have hobj2 := k.obj h1 fun e => own_ne h3 h1 (by decide) e
  have kp : Fr (only mb) w2 (w2.setCell ⟨mb, 5, none⟩ v2) := Fr.setCell w2 ⟨mb, 5, none⟩ v2
  have hne : ∀ {e size n : Nat} {u : Value} {ys : List Value}, w2.ownsRow B e size u n ys → e ≠ 106 → (w2.setCell ⟨mb, 5, none⟩ v2).ownsRow B e size u n ys := fun ho' he => own_fr ho' kp fun g hg e => own_ne ho' hobj2 he (by rw [hg]; exact congrArg some e)
  have h7' := h7.fr k fun e => map_own h7 h3 e
  have h8' := h8.fr k fun e => map_own h8 h3 e
  refine ⟨⟨?_, hne (own_fr h2 k fun g hg e => h9 g hg e) (by decide), hne ho (by decide), ⟨xs, h4, hne (own_fr h5 k fun g hg e => own_apart h3 h5 (by decide) g e hg) (by decide), fun x hx => hne (own_fr (h6 x hx) k fun g hg e => own_apart h3 (h6 x hx) (by decide) g e hg) (by decide)⟩, h7'.fr kp fun e => map_ne h7' hobj2 (show mb = tb from (show tb = mb from e).symm), h8'.fr kp fun e => map_ne h8' hobj2 (show mb = rb from (show rb = mb from e).symm), fun g hg hn => ?_, h10⟩, ?_⟩
  · have := setCell_obj hobj2 (i := 5) v2
    simpa [mkO] using this
  · rcases hv g hn with e | e
    · exact h9 g hg e
    · have := (h2.lt g hg).2
      omega
  · refine FM.trans (FM.of k fun g hg e => ?_) (FM.of kp fun g hg e => .inl e)
    obtain ⟨q1, c, fz, q2⟩ := own_kind h3 g e
    exact .inr (.inr (.inr ⟨q1, c, _, fz, q2, .inl rfl⟩))
def rulO (name : ByteArray) (pv av : Value) (at_ : Int) : Obj := .cells #[.string name, pv, av, .int .i64 at_] 57 (0, 0)
set_option maxRecDepth 100000 in
set_option maxHeartbeats 2000000 in
theorem rule_ok (M M' : Mst) (s : ByteArray) (pv av : Value) (at_ : Int) (w0 w : World) (mb tb rb : Nat) (h0 : Below w0.heap.size w0 w) (h : Lies w w0.heap.size mb tb rb M) (hl : M.named.length ≤ 100000) (hu : Uq M.tm) (hr : Uq M.rm) (hok : ruleN M s = some M') :
    Calls Try.prog 71 #[.pointer (some ⟨mb, 0, none⟩), .agg #[.string s, pv, av, .int .i64 at_]] w (Res w0.heap.size mb tb rb w (.tuple #[]) M') := by
  obtain ⟨ho, hf1, hf2, rfl⟩ := ruleN_some hok
  have hm := lies_lt h
  have hB := h0.size
  have HN := fun k b L w hb hl hL => Lib.hid (throw_none k at_ b L w hb hl hL)
  obtain ⟨w1, hw1⟩ : ∃ w1, w1 = w.alloc (rulO s pv av at_) := ⟨_, rfl⟩
  have hfr : Fr nothing w w1 := by rw [hw1]; exact Fr.alloc _ _
  have hbx : w1.heap[w.heap.size]? = some (rulO s pv av at_) := by rw [hw1]; exact alloc_obj w _
  have hL1 := h.new hfr
  obtain ⟨_, c3, c4, _, _⟩ := lies_cells hL1
  have l1 := fun n => lies_tm (hL1.new (Fr.drewN w1 n)) hu s true
  have l2 := fun n => lies_rm (hL1.new (Fr.drewN w1 n)) hr s true
  rw [hf1] at l1
  rw [hf2] at l2
  simp only [if_true, Option.getD_none, Option.isSome_none] at l1 l2
  have b0 : w1.cell? ⟨w.heap.size, 0, none⟩ = some (.string s) := obj_cell hbx 0 rfl
  have b3 : w1.cell? ⟨w.heap.size, 3, none⟩ = some (.int .i64 at_) := obj_cell hbx 3 rfl
  have b3a : ∀ o', (w1.alloc o').cell? ⟨w.heap.size, 3, none⟩ = some (.int .i64 at_) := fun o' => obj_cell (alloc_older hbx) 3 rfl
  have b0a : ∀ o', (w1.alloc o').cell? ⟨w.heap.size, 0, none⟩ = some (.string s) := fun o' => obj_cell (alloc_older hbx) 0 rfl
  have HO1 := fun w => Lib.hid (ho ▸ odd_any s w)
  have HW := Lib.hid hw1
  have HL := Lib.hid (And.intro hL1 (And.intro hfr hbx))
  clear h hw1 hL1 hfr hbx ho hok
  unfold rulO at HW
  go_enter Try.func71, Try.ntmps71
  go_upto_region 1 with fail
  rw [← HW.out]
  clear HW
  go_quiet (fail)
  go_wp2
  go_quiet (fail)
  go_upto_region 3 with fail
  refine wp_atW (F := fun W => Fr nothing w1 W) ((Fr.drewN _ _).trans (Fr.drewN _ _)) ?_
  intro W hW
  have e0 := hW.cell b0 fun e => e
  have e3 := hW.cell b3 fun e => e
  have e3a : ∀ o', (W.alloc o').cell? ⟨w.heap.size, 3, none⟩ = some (.int .i64 at_) := fun o' => (Fr.alloc (ch := nothing) W o').cell e3 fun e => e
  have HWf := Lib.hid hW
  clear hW b0 b3 b0a b3a l1 l2 c3 c4
  go_cut [] (fun wx => Fr nothing W wx)
  case first =>
    go_region_with (first | (go_at_call 84; refine (HO1 _).out.mono ?_; rintro e w' ⟨rfl, rfl⟩) | (go_at_call 72; refine Calls.mono (HN 302 _ [false] _ ?_ (by simp) (by simp)).out ?_; exact laid_at (by simp); rintro e w' ⟨rfl, rfl⟩))
    all_goals
      try go_wp2
      go_meet
      exact (Fr.alloc _ _).trans (Fr.drew _)
  case rest =>
  have g0 := hcut.cell e0 fun e => e
  have g3 := hcut.cell e3 fun e => e
  have HCT := Lib.hid (HWf.out.trans hcut)
  clear hcut e0 e3 e3a HWf
  go_upto_region 5 with (go_at_call 72; refine Calls.mono (HN 110 _ [false, false] _ ?_ (by simp) (by simp)).out ?_; exact laid_at (by simp); rintro e w' ⟨rfl, rfl⟩)
  refine wp_atW (F := fun W => Fr nothing w1 W) (HCT.out.trans (Fr.alloc _ _)) ?_
  intro V hV
  obtain ⟨hL1, hF1, hbx⟩ := HL.out
  obtain ⟨sv, pv', nv, hM⟩ := hL1
  have hMd := hM.new (hV.trans (Fr.drew V))
  obtain ⟨w6, hrun6, hm6, hf6⟩ := hMd.rm.store_new (P := Try.prog) (t := 104) (kt := 9) (et := 3) (k := .string s) Try.underlying104 Try.underlying9 trivial (find_none hf2) (.int .i64 M.named.length)
  obtain ⟨i0, hi, hz0, hz1, hz2⟩ := info_parts Try.infoSym
  obtain ⟨na, nc, rfl, hnc, hncm, _⟩ := own_cells hM.named
  have c4 : V.cell? ⟨mb, 4, none⟩ = some (.map (some rb)) := obj_cell (hM.new hV).obj 4 rfl
  have c5 : V.cell? ⟨mb, 5, none⟩ = some (.slice na M.named.length nc) := obj_cell (hM.new hV).obj 5 rfl
  have v0 : V.cell? ⟨w.heap.size, 0, none⟩ = some (.string s) := obj_cell (hV.obj hbx fun e => e) 0 rfl
  have hM6 := hMd.rm' hf6 _ (by rw [mapKV_add]; exact hm6)
  have hbx6 : w6.heap[w.heap.size]? = some (rulO s pv av at_) := hf6.obj ((hV.trans (Fr.drew V)).obj hbx fun e => e) fun e => by have e' : w.heap.size = rb := e; omega
  have HV := Lib.hid (And.intro hM6 (And.intro hbx6 (And.intro hf6 hV)))
  clear hMd hm6 hM hM6 hbx6 hf6 hV g0 g3
  go_cut [] (fun wx => wx = w6)
  case first =>
    go_region
    all_goals
      try go_wp2
      go_meet
      rfl
  case rest =>
  subst hcut
  obtain ⟨hM6, hbx6, hf6, hV⟩ := HV.out
  have HMM := Lib.hid fun W (hW : Fr nothing wc W) => hM6.new hW
  have n5 : wc.cell? ⟨mb, 5, none⟩ = some (.slice na M.named.length nc) := obj_cell hM6.obj 5 rfl
  have n0 : wc.cell? ⟨w.heap.size, 0, none⟩ = some (.string s) := obj_cell hbx6 0 rfl
  have hszc : w0.heap.size ≤ wc.heap.size := Nat.le_trans hB (Nat.le_trans hF1.size (Nat.le_trans hV.size (Nat.le_trans (Fr.drew (ch := nothing) V).size hf6.size)))
  have HBX6 := Lib.hid hbx6
  clear hM6 hbx6 hf6 hV c4 c5 v0
  have l5 : mb < wc.heap.size := World.block_lt_of_cell? wc _ n5
  have l0 : w.heap.size < wc.heap.size := World.block_lt_of_cell? wc _ n0
  have HOW := Lib.hid (HMM.out wc (Fr.refl _ _)).named
  have HOB := Lib.hid (And.intro (HMM.out wc (Fr.refl _ _)).obj fun e => own_ne (HMM.out wc (Fr.refl _ _)).named (HMM.out wc (Fr.refl _ _)).obj (by decide) e)
  go_upto_region 6 with fail
  go_region_law
    ((refine step_append_lies _ (by rfl) _ _ _ (by rfl) w0.heap.size 65 i0 _ 4 48 Try.underlying36 hi hz0 hz1 hz2 rfl (by omega) (.slice na M.named.length nc) M.named.length _ (by rfl) ((HOW.out.alloc _).drew)
        ⟨wc.heap.size, 0, none⟩ 1 1 (symCells ⟨s, nNone, 0, 0⟩) (by rfl) (by rfl) (World.news_of_block (cs := #[.string s, .string ⟨#[]⟩, .int .i64 0, .int .u8 0]) (t := 65) (fr := (0, 0)) (heap_alloc_new wc _)) (by simp [symCells, Value.oneCell'])
        (by omega) (by unfold maxLen; omega) (by omega) (by simp; omega) (wc.heap.size + 1) (by simp) ?_; intro gg cap1 w2 hown2 hgrow hat hlt'; have hF2 : Fr (fun g => (Value.slice na M.named.length nc).ownBlock = some g) wc w2 := ((Fr.alloc _ _).trans (Fr.drew _)).trans (Fr.grown hgrow); have hg2 := hF2.obj HOB.out.1 HOB.out.2; have c5 : w2.cell? ⟨mb, 5, none⟩ = some (.slice na M.named.length nc) := obj_cell hg2 5 rfl; have f5 := obj_frozen hg2 5))
  all_goals
    try go_wp2
    go_end0
    obtain ⟨hM6, hbx6, hf6, hV⟩ := HV.out
    obtain ⟨hLf, hFf⟩ := hM6.named' (v2 := .slice (some ⟨gg, 0, none⟩) (M.named.length + 1) cap1) hF2 (M.named ++ [⟨s, nNone, 0, 0⟩]) (by simpa using hown2) fun g hg => by
      simp only [Value.ownBlock, Option.some.injEq] at hg
      subst hg
      rcases hat with e | e
      · exact .inl e
      · exact .inr (by omega)
    refine ⟨(FM.new hF1).trans ((FM.new hV).trans ((FM.new (Fr.drew V)).trans ((FM.of hf6 fun g _ e => .inr (.inr (.inl e))).trans hFf))), rfl, ⟨_, _, _, hLf⟩⟩
end Go.Proofs.Ytehaoiimhgkckaa
