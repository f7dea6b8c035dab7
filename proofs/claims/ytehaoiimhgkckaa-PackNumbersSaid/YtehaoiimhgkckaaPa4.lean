/-
  Maps whose keys are entries of a table: look-up and count.
  Package pack: usual, of the chapter's row.
  Package pack: usual, of the chapter's row.
  Package pack: unlike, of the chapter's rows.
-/
import Derived.Test.YtehaoiimhgkckaaPk1
import Derived.Test.YtehaoiimhgkckaaMap
import Derived.DeepKeys4
import Derived.Test.YtehaoiimhgkckaaOwn
namespace Go.Proofs.Ytehaoiimhgkckaa
open Go.RowKit Go.MapKept Go.ChangeMaps
set_option maxHeartbeats 400000

theorem actKey : WideMaps.KeyLaw Try.prog 31 := deep_law (m := 3) (by omega) (by kernel_rfl) (by kernel_rfl) (by kernel_rfl)
def aR : Ac := ⟨2, 1⟩
def aZ : Ac := ⟨0, 0⟩
def Good (v : Value) : Prop := ∃ l, keyOf Try.prog 31 v = some l
theorem goodR : Good (acV aR) := ⟨_, (by kernel_rfl : keyOf Try.prog 31 (acV aR) = some ((keyOf Try.prog 31 (acV aR)).getD (.bool true)))⟩
theorem goodZ : Good (acV aZ) := ⟨_, (by kernel_rfl : keyOf Try.prog 31 (acV aZ) = some ((keyOf Try.prog 31 (acV aZ)).getD (.bool true)))⟩

section
variable {w : World} {b clock : Nat} {es : Array MapEntry} {x : Value}
theorem ac_look_miss (hb : w.heap[b]? = some (.map es clock)) (hes : ∀ e ∈ es.toList, Good e.key) (hx : Good x) (hn : ∀ e ∈ es.toList, e.key ≠ x) :
    (Instr.lookup 139 (.map (some b)) x false).run Try.prog w = .ok (.int .i64 0) w := by
  obtain ⟨l, hl⟩ := hx
  have hch := fun em => actKey.check w em hl
  rcases actKey.find w hl es.toList hes with ⟨h1, _⟩ | ⟨j, e, _, h2, h3⟩
  · simp [Instr.lookup, run_underlying Try.underlying139, Go.MapKept.run_getObj_map hb, hch, h1, Result.andThen]
  · exact absurd h3 (hn e (List.mem_of_getElem? h2))
theorem ac_look_hit (hb : w.heap[b]? = some (.map es clock)) (hes : ∀ e ∈ es.toList, Good e.key) (hx : Good x) (v : Value) (hh : ∃ e ∈ es.toList, e.key = x) (hu : ∀ e ∈ es.toList, e.key = x → e.val = v) :
    (Instr.lookup 139 (.map (some b)) x false).run Try.prog w = .ok v w := by
  obtain ⟨l, hl⟩ := hx
  have hch := fun em => actKey.check w em hl
  rcases actKey.find w hl es.toList hes with ⟨_, h1⟩ | ⟨j, e, h1, h2, h3⟩
  · obtain ⟨e, he, h2⟩ := hh
    exact absurd h2 (h1 e he)
  · have hv := hu e (List.mem_of_getElem? h2) h3
    simp [Instr.lookup, run_underlying Try.underlying139, Go.MapKept.run_getObj_map hb, hch, h1, hv, Result.andThen]
theorem ac_entry_miss (hb : w.heap[b]? = some (.map es clock)) (hes : ∀ e ∈ es.toList, Good e.key) (hx : Good x) (hn : ∀ e ∈ es.toList, e.key ≠ x) :
    (Instr.mapEntry 139 (.map (some b)) x).run Try.prog w = .ok (.tuple #[.int .i64 0, .int .i64 clock]) (setBlock w b (.map (es.push ⟨x, .int .i64 0, clock⟩) (clock + 1))) := by
  obtain ⟨l, hl⟩ := hx
  have hch := fun em => actKey.check w em hl
  rcases actKey.find w hl es.toList hes with ⟨h1, _⟩ | ⟨j, e, _, h2, h3⟩
  · simp [Instr.mapEntry, run_underlying Try.underlying139, Go.MapKept.run_getObj_map hb, hch, h1, Go.MapKept.run_setObj_map _ hb, Result.andThen, setBlock, goInt]
  · exact absurd h3 (hn e (List.mem_of_getElem? h2))
/-- An entry that is there, the only one of its key. -/
theorem ac_entry_hit (hb : w.heap[b]? = some (.map es clock)) (hes : ∀ e ∈ es.toList, Good e.key) (hx : Good x) (j : Nat) (v : Value) (born : Nat) (hj : es[j]? = some ⟨x, v, born⟩) (hu : ∀ i e, es.toList[i]? = some e → e.key = x → i = j) :
    (Instr.mapEntry 139 (.map (some b)) x).run Try.prog w = .ok (.tuple #[v, .int .i64 born]) (setBlock w b (.map (es.modify j fun e => { e with key := x }) clock)) := by
  obtain ⟨l, hl⟩ := hx
  have hch := fun em => actKey.check w em hl
  rcases actKey.find w hl es.toList hes with ⟨_, h1⟩ | ⟨i, e, h1, h2, h3⟩
  · exact absurd rfl (h1 _ (List.mem_of_getElem? (l := es.toList) (i := j) (by simpa using hj)))
  · obtain rfl := hu i e h2 h3
    have hst := actKey.stays w hl
    have h2' : es[i]? = some e := by simpa using h2
    rw [hj] at h2'
    obtain rfl := Option.some.inj h2'
    simp [Instr.mapEntry, run_underlying Try.underlying139, Go.MapKept.run_getObj_map hb, hch, h1, hj, hst, Go.MapKept.run_setObj_map _ hb, Result.andThen, setBlock, goInt]
theorem ac_store (hb : w.heap[b]? = some (.map es clock)) (j : Nat) (born : Nat) (v : Value) (hj : es.findIdx? (fun e => (e.born : Int) == (born : Int)) = some j) :
    (Instr.entryStore 139 (.map (some b)) (.int .i64 born) v).run Try.prog w = .ok () (setBlock w b (.map (es.modify j fun e => { e with val := v }) clock)) := by
  simp [Instr.entryStore, Go.MapKept.run_getObj_map hb, asInt, asIntOf, hj, Go.MapKept.run_setObj_map _ hb, Result.andThen, setBlock]
end
end Go.Proofs.Ytehaoiimhgkckaa
namespace Go.Proofs.Ytehaoiimhgkckaa
open Go.RowKit Go.MapKept Go.ChangeMaps
set_option maxHeartbeats 400000

abbrev vR : Value := .agg #[.int .u8 2, .int .i64 1]
abbrev vZ : Value := .agg #[.int .u8 0, .int .i64 0]
theorem gR : Good vR := goodR
theorem gZ : Good vZ := goodZ
theorem vR_ne : vR ≠ vZ := by simp
theorem vZ_ne : vZ ≠ vR := by simp
/-- What is counted of the first k. -/
def E1 : Array MapEntry := #[⟨vR, .int .i64 1, 0⟩]
def E2 : Array MapEntry := #[⟨vR, .int .i64 2, 0⟩]
def E3 : Array MapEntry := #[⟨vR, .int .i64 2, 0⟩, ⟨vZ, .int .i64 1, 1⟩]
/-- One step of a count at block b: a look-up ahead of the entry's making and behind it, the store. -/
structure Step (b : Nat) (x : Value) (v : Value) (born : Int) (es : Array MapEntry) (cl : Nat) (ms : Array MapEntry) (cm : Nat) (u : Value) (es' : Array MapEntry) (cl' : Nat) : Prop where
  look : ∀ w : World, w.heap[b]? = some (.map es cl) → (Instr.lookup 139 (.map (some b)) x false).run Try.prog w = .ok v w
  entry : ∀ w : World, w.heap[b]? = some (.map es cl) → (Instr.mapEntry 139 (.map (some b)) x).run Try.prog w = .ok (.tuple #[v, .int .i64 born]) (setBlock w b (.map ms cm))
  look' : ∀ w : World, w.heap[b]? = some (.map ms cm) → (Instr.lookup 139 (.map (some b)) x false).run Try.prog w = .ok v w
  store : ∀ w : World, w.heap[b]? = some (.map ms cm) → (Instr.entryStore 139 (.map (some b)) (.int .i64 born) u).run Try.prog w = .ok () (setBlock w b (.map es' cl'))
theorem step0 (b : Nat) : Step b vR (.int .i64 0) 0 #[] 0 #[⟨vR, .int .i64 0, 0⟩] 1 (.int .i64 1) E1 1 :=
  ⟨fun w h => ac_look_miss h (by simp) gR (by simp), fun w h => ac_entry_miss h (by simp) gR (by simp),
   fun w h => ac_look_hit h (by simpa using gR) gR _ (by simp) (by simp), fun w h => ac_store h 0 0 _ (by simp)⟩
theorem step1 (b : Nat) : Step b vR (.int .i64 1) 0 E1 1 E1 1 (.int .i64 2) E2 1 :=
  ⟨fun w h => ac_look_hit h (by simpa [E1] using gR) gR _ (by simp [E1]) (by simp [E1]), fun w h => ac_entry_hit h (by simpa [E1] using gR) gR 0 _ 0 (by simp [E1]) (fun i e h _ => by cases i with | zero => rfl | succ i => simp [E1] at h),
   fun w h => ac_look_hit h (by simpa [E1] using gR) gR _ (by simp [E1]) (by simp [E1]), fun w h => ac_store h 0 0 _ (by simp [E1])⟩
theorem step2 (b : Nat) : Step b vZ (.int .i64 0) 1 E2 1 (E2.push ⟨vZ, .int .i64 0, 1⟩) 2 (.int .i64 1) E3 2 :=
  ⟨fun w h => ac_look_miss h (by simpa [E2] using gR) gZ (by simp [E2]), fun w h => ac_entry_miss h (by simpa [E2] using gR) gZ (by simp [E2]),
   fun w h => ac_look_hit h (by simpa [E2] using And.intro gR gZ) gZ _ (by simp [E2]) (by simp [E2]), fun w h => ac_store h 1 1 _ (by kernel_rfl)⟩
theorem e3_good : ∀ e ∈ E3.toList, Good e.key := by simpa [E3] using And.intro gR gZ
theorem look3R (b : Nat) (w : World) (h : w.heap[b]? = some (.map E3 2)) : (Instr.lookup 139 (.map (some b)) vR false).run Try.prog w = .ok (.int .i64 2) w := ac_look_hit h e3_good gR _ (by simp [E3]) (by simp [E3])
theorem look3Z (b : Nat) (w : World) (h : w.heap[b]? = some (.map E3 2)) : (Instr.lookup 139 (.map (some b)) vZ false).run Try.prog w = .ok (.int .i64 1) w := ac_look_hit h e3_good gZ _ (by simp [E3]) (by simp [E3])
end Go.Proofs.Ytehaoiimhgkckaa
namespace Go.Proofs.Ytehaoiimhgkckaa
open Go.RowKit Go.MapKept Go.ChangeMaps
set_option maxHeartbeats 400000

/-- The map behind so many entries. -/
def mapK : Nat → Obj
  | 0 => .map #[] 0
  | 1 => .map E1 1
  | 2 => .map E2 1
  | _ => .map E3 2
/-- The row's three entries in memory. -/
structure Row3 (w : World) (v : Value) : Prop where
  lie : ∃ b c, v = .slice (some ⟨b, 0, none⟩) 3 c ∧ 3 ≤ c ∧ c ≤ maxLen ∧ Cells w b 0 [.int .u8 2, .int .i64 1, .int .u8 2, .int .i64 1, .int .u8 0, .int .i64 0]
theorem Row3.fr {w w' : World} {v : Value} (h : Row3 w v) (k : Fr nothing w w') : Row3 w' v := by
  obtain ⟨b, c, h1, h2, h3, h4⟩ := h.lie
  exact ⟨b, c, h1, h2, h3, h4.fr k fun e => e⟩
theorem set_fr {w : World} {b : Nat} {es : Array MapEntry} {cl : Nat} (h : w.heap[b]? = some (.map es cl)) (o : Obj) : Fr (only b) w (setBlock w b o) ∧ (setBlock w b o).heap[b]? = some o :=
  ⟨⟨rfl, rfl, rfl, by simp [setBlock], fun i _ hi => heap_setBlock_other h _ (fun e => hi e)⟩, heap_setBlock_same h _⟩

set_option maxRecDepth 100000 in
set_option maxHeartbeats 8000000 in
theorem usual_row (v : Value) (w : World) (h : Row3 w v) : Calls Try.prog 52 #[v] w fun e w' => e = .returned (.int .i64 1) ∧ Below w.heap.size w w' := by
  obtain ⟨b, c, rfl, hc, hcm, hcs⟩ := h.lie
  have hmm := @run_makeMap Try.prog
  have HC := Lib.hid hcs
  have f0 : decide ((0 : Int) < 3) = true := by decide
  have f1 : decide ((1 : Int) < 3) = true := by decide
  have f2 : decide ((2 : Int) < 3) = true := by decide
  have f3 : decide ((3 : Int) < 3) = false := by decide
  clear h hcs hcm
  go_enter Try.func52, Try.ntmps52
  go_wp2
  clear hmm
  go_loopw [5, 13] (fun _ i wr => ∃ k : Nat, k ≤ 3 ∧ i = .int .i64 k ∧ wr.heap[w.heap.size]? = some (mapK k) ∧ Below w.heap.size w wr) (fun _ i _ => 3 - (intOf i).toNat)
  case atStart => exact ⟨0, by omega, rfl, alloc_obj w _, (Below.refl _ _).alloc (Nat.le_refl _) _⟩
  case round =>
    obtain ⟨k, hk, rfl, hm, hB⟩ := hrel
    have hcr := HC.out.fr (Fr.new hB) fun e => e
    have x0 : wr.cell? ⟨b, 0, none⟩ = some (.int .u8 2) := by simpa using hcr 0 (by simp)
    have x1 : wr.cell? ⟨b, 1, none⟩ = some (.int .i64 1) := by simpa using hcr 1 (by simp)
    have x2 : wr.cell? ⟨b, 2, none⟩ = some (.int .u8 2) := by simpa using hcr 2 (by simp)
    have x3 : wr.cell? ⟨b, 3, none⟩ = some (.int .i64 1) := by simpa using hcr 3 (by simp)
    have x4 : wr.cell? ⟨b, 4, none⟩ = some (.int .u8 0) := by simpa using hcr 4 (by simp)
    have x5 : wr.cell? ⟨b, 5, none⟩ = some (.int .i64 0) := by simpa using hcr 5 (by simp)
    have hlt : w.heap.size < wr.heap.size := (Array.getElem?_eq_some_iff.1 hm).1
    clear hcr
    rcases (by omega : k = 0 ∨ k = 1 ∨ k = 2 ∨ k = 3) with rfl | rfl | rfl | rfl
    · have HM := Lib.hid hm
      have HB := Lib.hid hB
      clear hB hk hm
      go_upto_region 5 with fail
      refine wp_atW (F := fun W => Fr nothing wr W ∧ W.heap[w.heap.size]? = some (mapK 0) ∧ W.heap[wr.heap.size]? = some (.cells #[.int .u8 2, .int .i64 1] 31 (0, 0))) ⟨Fr.alloc _ _, (Fr.alloc (ch := nothing) _ _).obj HM.out fun e => e, alloc_obj _ _⟩ ?_
      rintro W ⟨hW, hm1, hb1⟩
      have y0 : W.cell? ⟨wr.heap.size, 0, none⟩ = some (.int .u8 2) := obj_cell hb1 0 rfl
      have y1 : W.cell? ⟨wr.heap.size, 1, none⟩ = some (.int .i64 1) := obj_cell hb1 1 rfl
      have S := step0 w.heap.size
      have m1 : W.drew.heap[w.heap.size]? = some (.map #[] 0) := hm1
      have s1 := S.look _ m1
      have s2 := S.entry _ m1
      have m2 := (set_fr m1 (.map #[⟨vR, .int .i64 0, 0⟩] 1)).2
      have s3 := S.look' _ m2
      have s4 := S.store _ m2
      have HH := Lib.hid (And.intro hW (And.intro m1 m2))
      have e1 : IntKind.i64.wrap 1 = 1 := by decide
      have e2 : IntKind.i64.wrap 2 = 2 := by decide
      clear hW hm1 hb1 m1 m2 S x0 x1 x2 x3 x4 x5
      go_region
      clear s1 s2 s3 s4 y0 y1
      go_wp2
      go_roundw
      case rel => exact ⟨1, by omega, by simp, (set_fr HH.out.2.2 _).2, HB.out.trans (((HH.out.1.trans (Fr.drew W)).wide.trans ((set_fr HH.out.2.1 _).1.trans (set_fr HH.out.2.2 _).1)).below HB.out.size fun k e => by unfold only at e; omega)⟩
      case measure => simp [intOf]
    · have HM := Lib.hid hm
      have HB := Lib.hid hB
      clear hB hk hm
      go_upto_region 5 with fail
      refine wp_atW (F := fun W => Fr nothing wr W ∧ W.heap[w.heap.size]? = some (mapK 1) ∧ W.heap[wr.heap.size]? = some (.cells #[.int .u8 2, .int .i64 1] 31 (0, 0))) ⟨Fr.alloc _ _, (Fr.alloc (ch := nothing) _ _).obj HM.out fun e => e, alloc_obj _ _⟩ ?_
      rintro W ⟨hW, hm1, hb1⟩
      have y0 : W.cell? ⟨wr.heap.size, 0, none⟩ = some (.int .u8 2) := obj_cell hb1 0 rfl
      have y1 : W.cell? ⟨wr.heap.size, 1, none⟩ = some (.int .i64 1) := obj_cell hb1 1 rfl
      have S := step1 w.heap.size
      have m1 : W.drew.heap[w.heap.size]? = some (.map E1 1) := hm1
      have s1 := S.look _ m1
      have s2 := S.entry _ m1
      have m2 := (set_fr m1 (.map E1 1)).2
      have s3 := S.look' _ m2
      have s4 := S.store _ m2
      have HH := Lib.hid (And.intro hW (And.intro m1 m2))
      have e1 : IntKind.i64.wrap 1 = 1 := by decide
      have e2 : IntKind.i64.wrap 2 = 2 := by decide
      clear hW hm1 hb1 m1 m2 S x0 x1 x2 x3 x4 x5
      go_region
      clear s1 s2 s3 s4 y0 y1
      go_wp2
      go_roundw
      case rel => exact ⟨2, by omega, by simp, (set_fr HH.out.2.2 _).2, HB.out.trans (((HH.out.1.trans (Fr.drew W)).wide.trans ((set_fr HH.out.2.1 _).1.trans (set_fr HH.out.2.2 _).1)).below HB.out.size fun k e => by unfold only at e; omega)⟩
      case measure => simp [intOf]
    · have HM := Lib.hid hm
      have HB := Lib.hid hB
      clear hB hk hm
      go_upto_region 5 with fail
      refine wp_atW (F := fun W => Fr nothing wr W ∧ W.heap[w.heap.size]? = some (mapK 2) ∧ W.heap[wr.heap.size]? = some (.cells #[.int .u8 0, .int .i64 0] 31 (0, 0))) ⟨Fr.alloc _ _, (Fr.alloc (ch := nothing) _ _).obj HM.out fun e => e, alloc_obj _ _⟩ ?_
      rintro W ⟨hW, hm1, hb1⟩
      have y0 : W.cell? ⟨wr.heap.size, 0, none⟩ = some (.int .u8 0) := obj_cell hb1 0 rfl
      have y1 : W.cell? ⟨wr.heap.size, 1, none⟩ = some (.int .i64 0) := obj_cell hb1 1 rfl
      have S := step2 w.heap.size
      have m1 : W.drew.heap[w.heap.size]? = some (.map E2 1) := hm1
      have s1 := S.look _ m1
      have s2 := S.entry _ m1
      have m2 := (set_fr m1 (.map (E2.push ⟨vZ, .int .i64 0, 1⟩) 2)).2
      have s3 := S.look' _ m2
      have s4 := S.store _ m2
      have HH := Lib.hid (And.intro hW (And.intro m1 m2))
      have e1 : IntKind.i64.wrap 1 = 1 := by decide
      have e2 : IntKind.i64.wrap 2 = 2 := by decide
      clear hW hm1 hb1 m1 m2 S x0 x1 x2 x3 x4 x5
      go_region
      clear s1 s2 s3 s4 y0 y1
      go_wp2
      go_roundw
      case rel => exact ⟨3, by omega, by simp, (set_fr HH.out.2.2 _).2, HB.out.trans (((HH.out.1.trans (Fr.drew W)).wide.trans ((set_fr HH.out.2.1 _).1.trans (set_fr HH.out.2.2 _).1)).below HB.out.size fun k e => by unfold only at e; omega)⟩
      case measure => simp [intOf]
    · have m1 : wr.drew.heap[w.heap.size]? = some (.map E3 2) := hm
      have s1 := look3Z _ _ m1
      have HM := Lib.hid hm
      have HB := Lib.hid hB
      clear hm hB hk m1 x0 x1 x2 x3 x4 x5
      go_upto_region 7 with fail
      go_region
      clear s1
      go_wp2
      go_loopw [6, 7, 9, 29] (fun b m _ i wv => ∃ k : Nat, k ≤ 3 ∧ i = .int .i64 k ∧ b = .int .i64 (if k = 0 then -1 else 1) ∧ m = .int .i64 (if k = 0 then 1 else 2) ∧ wv.heap[w.heap.size]? = some (.map E3 2) ∧ Below w.heap.size w wv) (fun _ _ _ i _ => 3 - (intOf i).toNat)
      case atStart => exact ⟨0, by omega, rfl, rfl, rfl, HM.out, HB.out.drew⟩
      case round =>
        clear HM HB hlt
        obtain ⟨k, hk, rfl, rfl, rfl, hm, hB⟩ := hrel
        have hcr := HC.out.fr (Fr.new hB) fun e => e
        have x0 : wr.cell? ⟨b, 0, none⟩ = some (.int .u8 2) := by simpa using hcr 0 (by simp)
        have x1 : wr.cell? ⟨b, 1, none⟩ = some (.int .i64 1) := by simpa using hcr 1 (by simp)
        have x2 : wr.cell? ⟨b, 2, none⟩ = some (.int .u8 2) := by simpa using hcr 2 (by simp)
        have x3 : wr.cell? ⟨b, 3, none⟩ = some (.int .i64 1) := by simpa using hcr 3 (by simp)
        have x4 : wr.cell? ⟨b, 4, none⟩ = some (.int .u8 0) := by simpa using hcr 4 (by simp)
        have x5 : wr.cell? ⟨b, 5, none⟩ = some (.int .i64 0) := by simpa using hcr 5 (by simp)
        have hlt : w.heap.size < wr.heap.size := (Array.getElem?_eq_some_iff.1 hm).1
        clear hcr
        have HM := Lib.hid hm
        have HB := Lib.hid hB
        clear hB hm
        have t0 : decide ((1 : Int) < 2) = true := by decide
        have t1 : decide ((2 : Int) < 2) = false := by decide
        rcases (by omega : k = 0 ∨ k = 1 ∨ k = 2 ∨ k = 3) with rfl | rfl | rfl | rfl
        · clear hk
          go_upto_region 11 with fail
          refine wp_atW (F := fun W => Fr nothing wr W ∧ W.heap[w.heap.size]? = some (.map E3 2) ∧ W.heap[wr.heap.size]? = some (.cells #[.int .u8 2, .int .i64 1] 31 (0, 0))) ⟨Fr.alloc _ _, (Fr.alloc (ch := nothing) _ _).obj HM.out fun e => e, alloc_obj _ _⟩ ?_
          rintro W ⟨hW, hm1, hb1⟩
          have y0 : W.cell? ⟨wr.heap.size, 0, none⟩ = some (.int .u8 2) := obj_cell hb1 0 rfl
          have y1 : W.cell? ⟨wr.heap.size, 1, none⟩ = some (.int .i64 1) := obj_cell hb1 1 rfl
          have s1 := look3R _ _ hm1
          have s2 := look3R _ W.drew hm1
          have HH := Lib.hid (And.intro hW hm1)
          clear hW hm1 hb1 x0 x1 x2 x3 x4 x5
          go_upto_region 12 with fail
          go_region
          clear s1 s2 y0 y1
          go_wp2
          go_roundw
          case rel => exact ⟨1, by omega, by simp, rfl, rfl, HH.out.2, HB.out.trans ((HH.out.1.trans (Fr.drew W)).below HB.out.size fun k e => e.elim)⟩
          case measure => simp [intOf]
        · clear hk
          go_upto_region 11 with fail
          refine wp_atW (F := fun W => Fr nothing wr W ∧ W.heap[w.heap.size]? = some (.map E3 2) ∧ W.heap[wr.heap.size]? = some (.cells #[.int .u8 2, .int .i64 1] 31 (0, 0))) ⟨Fr.alloc _ _, (Fr.alloc (ch := nothing) _ _).obj HM.out fun e => e, alloc_obj _ _⟩ ?_
          rintro W ⟨hW, hm1, hb1⟩
          have y0 : W.cell? ⟨wr.heap.size, 0, none⟩ = some (.int .u8 2) := obj_cell hb1 0 rfl
          have y1 : W.cell? ⟨wr.heap.size, 1, none⟩ = some (.int .i64 1) := obj_cell hb1 1 rfl
          have s1 := look3R _ _ hm1
          have s2 := look3R _ W.drew hm1
          have HH := Lib.hid (And.intro hW hm1)
          clear hW hm1 hb1 x0 x1 x2 x3 x4 x5
          go_wp2
          go_roundw
          case rel => exact ⟨2, by omega, by simp, rfl, rfl, HH.out.2, HB.out.trans (HH.out.1.below HB.out.size fun k e => e.elim)⟩
          case measure => simp [intOf]
        · clear hk
          go_upto_region 11 with fail
          refine wp_atW (F := fun W => Fr nothing wr W ∧ W.heap[w.heap.size]? = some (.map E3 2) ∧ W.heap[wr.heap.size]? = some (.cells #[.int .u8 0, .int .i64 0] 31 (0, 0))) ⟨Fr.alloc _ _, (Fr.alloc (ch := nothing) _ _).obj HM.out fun e => e, alloc_obj _ _⟩ ?_
          rintro W ⟨hW, hm1, hb1⟩
          have y0 : W.cell? ⟨wr.heap.size, 0, none⟩ = some (.int .u8 0) := obj_cell hb1 0 rfl
          have y1 : W.cell? ⟨wr.heap.size, 1, none⟩ = some (.int .i64 0) := obj_cell hb1 1 rfl
          have s1 := look3R _ _ hm1
          have s2 := look3R _ W.drew hm1
          have HH := Lib.hid (And.intro hW hm1)
          clear hW hm1 hb1 x0 x1 x2 x3 x4 x5
          go_wp2
          go_roundw
          case rel => exact ⟨3, by omega, by simp, rfl, rfl, HH.out.2, HB.out.trans (HH.out.1.below HB.out.size fun k e => e.elim)⟩
          case measure => simp [intOf]
        · clear x0 x1 x2 x3 x4 x5
          go_wp2
          go_ret
          exact ⟨rfl, HB.out⟩
end Go.Proofs.Ytehaoiimhgkckaa
namespace Go.Proofs.Ytehaoiimhgkckaa
open Go.RowKit Go.MapKept Go.ChangeMaps
set_option maxHeartbeats 400000

/-- A value that holds these numbers in memory of its own, from block B on. -/
def OwnI (w : World) (B : Nat) (v : Value) (xs : List Int) : Prop := w.ownsRow B 3 1 v xs.length (xs.map (Value.int .i64))

set_option maxRecDepth 100000 in
set_option maxHeartbeats 4000000 in
theorem unlikeA_row (v : Value) (w : World) (h : Row3 w v) : Calls Try.prog 54 #[v, vR] w fun e w' => ∃ u, e = .returned u ∧ OwnI w' w.heap.size u [2] ∧ Below w.heap.size w w' := by
  obtain ⟨b, c, rfl, hc, hcm, hcs⟩ := h.lie
  obtain ⟨i0, hi, hz0, hz1, hz2⟩ := info_parts Try.infoInt'
  have HC := Lib.hid hcs
  have f0 : decide ((0 : Int) < 3) = true := by decide
  have f1 : decide ((1 : Int) < 3) = true := by decide
  have f2 : decide ((2 : Int) < 3) = true := by decide
  have f3 : decide ((3 : Int) < 3) = false := by decide
  clear h hcs hcm
  go_enter Try.func54, Try.ntmps54
  go_wp2
  go_loopw [5, 6, 7, 10] (fun o _ _ i wr => ∃ k : Nat, k ≤ 3 ∧ i = .int .i64 k ∧ (k ≤ 2 → o = .slice none 0 0) ∧ (k = 3 → OwnI wr w.heap.size o [2]) ∧ wr.heap[w.heap.size]? = some (.cells #[.int .u8 2, .int .i64 1] 31 (0, 0)) ∧ Below w.heap.size w wr) (fun _ _ _ i _ => 3 - (intOf i).toNat)
  case atStart => exact ⟨0, by omega, rfl, fun _ => rfl, fun e => by omega, alloc_obj w _, (Below.refl _ _).alloc (Nat.le_refl _) _⟩
  case round =>
    obtain ⟨k, hk, rfl, ho, ho3, hm, hB⟩ := hrel
    have hcr := HC.out.fr (Fr.new hB) fun e => e
    have x0 : wr.cell? ⟨b, 0, none⟩ = some (.int .u8 2) := by simpa using hcr 0 (by simp)
    have x1 : wr.cell? ⟨b, 1, none⟩ = some (.int .i64 1) := by simpa using hcr 1 (by simp)
    have x2 : wr.cell? ⟨b, 2, none⟩ = some (.int .u8 2) := by simpa using hcr 2 (by simp)
    have x3 : wr.cell? ⟨b, 3, none⟩ = some (.int .i64 1) := by simpa using hcr 3 (by simp)
    have x4 : wr.cell? ⟨b, 4, none⟩ = some (.int .u8 0) := by simpa using hcr 4 (by simp)
    have x5 : wr.cell? ⟨b, 5, none⟩ = some (.int .i64 0) := by simpa using hcr 5 (by simp)
    have hlt : w.heap.size < wr.heap.size := (Array.getElem?_eq_some_iff.1 hm).1
    have z0 : wr.cell? ⟨w.heap.size, 0, none⟩ = some (.int .u8 2) := obj_cell hm 0 rfl
    have z1 : wr.cell? ⟨w.heap.size, 1, none⟩ = some (.int .i64 1) := obj_cell hm 1 rfl
    clear hcr
    have HM := Lib.hid hm
    have HB := Lib.hid hB
    clear hm hB
    rcases (by omega : k = 0 ∨ k = 1 ∨ k = 2 ∨ k = 3) with rfl | rfl | rfl | rfl
    · obtain rfl := ho (by omega)
      clear ho ho3 hk
      go_wp2
      go_roundw
      case rel => exact ⟨1, by omega, by simp, fun _ => rfl, fun e => by omega, (Fr.alloc (ch := nothing) _ _).obj HM.out fun e => e, HB.out.alloc HB.out.size _⟩
      case measure => simp [intOf]
    · obtain rfl := ho (by omega)
      clear ho ho3 hk
      go_wp2
      go_roundw
      case rel => exact ⟨2, by omega, by simp, fun _ => rfl, fun e => by omega, (Fr.alloc (ch := nothing) _ _).obj HM.out fun e => e, HB.out.alloc HB.out.size _⟩
      case measure => simp [intOf]
    · obtain rfl := ho (by omega)
      clear ho ho3 hk
      go_wp2_with (at_builtin; refine wpList_append_own _ rfl _ _ 22 rfl w.heap.size 3 i0 _ 1 8 Try.underlying22 hi hz0 hz1 hz2 rfl (by decide) _ 0 [] rfl (World.ownsRow_nil _ _ _ _) ⟨wr.heap.size + 1, 0, none⟩ 1 1 [.int .i64 2] rfl rfl (cells_add (cells_new_at (by simp) _ _ rfl _ _)) (by simp [Value.oneCell']) (by unfold maxLen; omega) (by omega) (by simp; omega) ?_; intro v1 w1 hown1 hgrow1 _)
      go_roundw
      case rel => exact ⟨3, by omega, by simp, fun e => by omega, fun _ => hown1, (Fr.grown hgrow1).obj ((Fr.alloc (ch := nothing) _ _).obj ((Fr.alloc (ch := nothing) _ _).obj HM.out fun e => e) fun e => e) (fun e => by cases e), ((HB.out.alloc HB.out.size _).alloc (by have := HB.out.size; simp; omega) _).trans ((Fr.grown hgrow1).below (by have := HB.out.size; simp; omega) fun k e => by cases e)⟩
      case measure => simp [intOf]
    · have HO := Lib.hid (ho3 rfl)
      clear ho ho3 hk x0 x1 x2 x3 x4 x5 z0 z1
      go_wp2
      go_ret
      exact ⟨_, rfl, HO.out, HB.out⟩

set_option maxRecDepth 100000 in
set_option maxHeartbeats 4000000 in
theorem unlikeI_row (v : Value) (w : World) (h : Ints w v [-1, 0]) : Calls Try.prog 56 #[v, .int .i64 (-1)] w fun e w' => ∃ u, e = .returned u ∧ OwnI w' w.heap.size u [1] ∧ Below w.heap.size w w' := by
  obtain ⟨_, _, a, c, rfl, hc, hcm, _⟩ := id h
  obtain ⟨i0, hi, hz0, hz1, hz2⟩ := info_parts Try.infoInt'
  have HC := Lib.hid h
  have f0 : decide ((0 : Int) < 2) = true := by decide
  have f1 : decide ((1 : Int) < 2) = true := by decide
  have f2 : decide ((2 : Int) < 2) = false := by decide
  simp only [List.length_cons, List.length_nil, Nat.zero_add, Nat.reduceAdd] at hc HC ⊢
  clear h hcm
  go_enter Try.func56, Try.ntmps56
  go_wp2
  go_loopw [5, 6, 7, 10] (fun o _ _ i wr => ∃ k : Nat, k ≤ 2 ∧ i = .int .i64 k ∧ (k ≤ 1 → o = .slice none 0 0) ∧ (k = 2 → OwnI wr w.heap.size o [1]) ∧ Below w.heap.size w wr) (fun _ _ _ i _ => 2 - (intOf i).toNat)
  case atStart => exact ⟨0, by omega, rfl, fun _ => rfl, fun e => by omega, Below.refl _ _⟩
  case round =>
    obtain ⟨k, hk, rfl, ho, ho2, hB⟩ := hrel
    obtain ⟨b, o, rfl, -, -, x0, -⟩ := (HC.out.fr (Fr.new hB)).at (k := 0) (by simp)
    obtain ⟨b', o', e', -, -, x1, -⟩ := (HC.out.fr (Fr.new hB)).at (k := 1) (by simp)
    simp only [Option.some.injEq, Addr.mk.injEq] at e'
    obtain ⟨rfl, rfl, -⟩ := e'
    simp only [Nat.add_zero, List.getElem_cons_zero, List.getElem_cons_succ] at x0 x1
    have HB := Lib.hid hB
    clear hB
    rcases (by omega : k = 0 ∨ k = 1 ∨ k = 2) with rfl | rfl | rfl
    · obtain rfl := ho (by omega)
      clear ho ho2 hk
      go_wp2
      go_roundw
      case rel => exact ⟨1, by omega, by simp, fun _ => rfl, fun e => by omega, HB.out⟩
      case measure => simp [intOf]
    · obtain rfl := ho (by omega)
      clear ho ho2 hk
      go_wp2_with (at_builtin; refine wpList_append_own _ rfl _ _ 22 rfl w.heap.size 3 i0 _ 1 8 Try.underlying22 hi hz0 hz1 hz2 rfl (by decide) _ 0 [] rfl (World.ownsRow_nil _ _ _ _) ⟨wr.heap.size, 0, none⟩ 1 1 [.int .i64 1] rfl rfl (cells_add (cells_new_at (by simp) _ _ rfl _ _)) (by simp [Value.oneCell']) (by unfold maxLen; omega) (by omega) (by have := HB.out.size; simp; omega) ?_; intro v1 w1 hown1 hgrow1 _)
      go_roundw
      case rel => exact ⟨2, by omega, by simp, fun e => by omega, fun _ => hown1, (HB.out.alloc HB.out.size _).trans ((Fr.grown hgrow1).below (by have := HB.out.size; simp; omega) fun k e => by cases e)⟩
      case measure => simp [intOf]
    · have HO := Lib.hid (ho2 rfl)
      clear ho ho2 hk x0 x1
      go_wp2
      go_ret
      exact ⟨_, rfl, HO.out, HB.out⟩
end Go.Proofs.Ytehaoiimhgkckaa
