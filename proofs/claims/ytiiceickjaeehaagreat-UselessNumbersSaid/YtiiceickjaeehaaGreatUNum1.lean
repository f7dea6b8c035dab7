/-
  UselessNumbers: rows of rows of numbers that the statement lays.
-/
import Derived.Test.YtiiceickjaeehaaGreatTells
import Derived.BigFrame
namespace Go.Proofs.YtiiceickjaeehaaGreat
open Go.RowKit
set_option maxHeartbeats 400000

/-- A row of few numbers. -/
def okR (r : List Int) : Prop := r ≠ [] ∧ r.length ≤ 3 ∧ ∀ x ∈ r, -1000 ≤ x ∧ x ≤ 1000
def INum (w : World) (r : Value × List Int) : Prop := okR r.2 ∧ w.ownsRow 0 3 1 r.1 r.2.length (r.2.map (Value.int .i64))
/-- Rows of numbers in memory of one's own. -/
def RowsL (w : World) (B : Nat) (v : Value) (rs : List (Value × List Int)) : Prop := w.ownsRow B 31 1 v rs.length (rs.map Prod.fst) ∧ ∀ r ∈ rs, INum w r
theorem INum.fr {ch : Nat → Prop} {w w' : World} {r : Value × List Int} (h : INum w r) (f : Fr ch w w') (hc : ∀ g, r.1.ownBlock = some g → ¬ ch g) : INum w' r := ⟨h.1, own_fr h.2 f hc⟩
theorem INum.slice {w : World} {r : Value × List Int} (h : INum w r) : ∃ a n c, r.1 = .slice a n c := by
  obtain ⟨a, c, e, _⟩ := own_cells h.2
  exact ⟨a, _, c, e⟩
theorem RowsL.one {w : World} {B : Nat} {v : Value} {rs : List (Value × List Int)} (h : RowsL w B v rs) : ∀ u ∈ rs.map Prod.fst, u.oneCell' = true := fun u hu => by
  obtain ⟨r, hr, rfl⟩ := List.mem_map.1 hu
  obtain ⟨a, n, c, e⟩ := (h.2 r hr).slice
  rw [e]
  rfl
theorem RowsL.rows {w : World} {B : Nat} {v : Value} {rs : List (Value × List Int)} (h : RowsL w B v rs) (hl : rs.length ≤ 1000) : IntRows w v (rs.map Prod.snd) := by
  obtain ⟨a, cap, rfl, h1, h2, h3⟩ := own_cells h.1
  refine ⟨by rw [List.length_map]; omega, a, cap, by rw [List.length_map], by rw [List.length_map]; exact h1, h2, ?_⟩
  rcases h3 with h3 | ⟨g, rfl, _, hc⟩
  · left
    rw [List.map_eq_nil_iff] at h3
    rw [h3]
    rfl
  · refine .inr ⟨g, 0, rfl, fun i hi => ?_⟩
    have hi' : i < rs.length := by simpa using hi
    have hr := h.2 _ (List.getElem_mem hi')
    have hc' := hc i (by simpa using hi')
    rw [List.getElem_map] at hc' ⊢
    refine ⟨rs[i].1, own_ints hr.2 (fun x hx => by have := hr.1.2.2 x hx; omega) (by have := hr.1.2.1; omega), ?_⟩
    rw [Nat.mul_one]
    exact hc'
theorem mk_fits (t r : Nat) (ps : List (List Int)) : Fits (mkGram t r ps) := by
  have h2 : ∀ c i, (letters c i).size = 3 := fun c i => rfl
  refine ⟨fun s hs => ?_, fun s hs => ?_, fun p hp => ?_⟩
  · simp only [mkGram, rSyms, tSyms, List.cons_append, List.mem_cons, List.mem_append, List.mem_map] at hs
    rcases hs with rfl | ⟨_, _, rfl⟩ | rfl | ⟨_, _, rfl⟩
    · decide
    · show (letters _ _).size ≤ _
      rw [h2]; omega
    · decide
    · show (letters _ _).size ≤ _
      rw [h2]; omega
  · simp only [mkGram, rSyms, tSyms, List.cons_append, List.mem_cons, List.mem_append, List.mem_map] at hs
    rcases hs with rfl | ⟨_, _, rfl⟩ | rfl | ⟨_, _, rfl⟩ <;> (show nNone.size ≤ _; decide)
  · simp only [mkGram, List.mem_cons, List.mem_map] at hp
    rcases hp with rfl | ⟨_, _, rfl⟩ <;> (show nNone.size ≤ _; decide)
/-- A value is a grammar. -/
def AnyG (w : World) (g : Value) : Prop := ∃ G, IsGram w g G ∧ Fits G
theorem gramL (t r : Nat) (v : Value) (w : World) (ps : List (List Int)) (ht : t ≤ 100) (hr : r ≤ 100) (h : IntRows w v ps) (hne : ∀ l ∈ ps, okR l) (hl : ps.length ≤ 1000) :
    Calls Tryz.prog 18 #[.int .i64 t, .int .i64 r, v] w fun e w' => ∃ g, e = .returned g ∧ AnyG w' g ∧ Below w.heap.size w w' := by
  refine (grammar_any t r ps v w ht hr h (fun l hl => (hne l hl).1) (by omega) (fun l hl => by have := (hne l hl).2.1; omega) (fun l hl x hx => by have := (hne l hl).2.2 x hx; omega)).mono ?_
  rintro e w' ⟨g, rfl, hg, hb⟩
  exact ⟨g, rfl, ⟨_, hg, mk_fits _ _ _⟩, hb⟩
theorem gramR (r : Nat) (v : Value) (w : World) (B : Nat) (rs : List (Value × List Int)) (hr : r ≤ 99) (h : RowsL w B v rs) (hl : rs.length ≤ 1000) :
    Calls Tryz.prog 18 #[.int .i64 2, .int .i64 ((r : Int) + 1), v] w fun e w' => ∃ g, e = .returned g ∧ AnyG w' g ∧ Below w.heap.size w w' :=
  gramL 2 (r + 1) v w (rs.map Prod.snd) (by omega) (by omega) (h.rows hl) (fun l hl => by
    obtain ⟨x, hx, rfl⟩ := List.mem_map.1 hl
    exact (h.2 x hx).1) (by rw [List.length_map]; exact hl)
theorem tellsE (g : Value) (w : World) (h : AnyG w g) : Calls Tryz.prog 3 #[g] w fun e w' => e = .returned (.bool true) ∧ Below w.heap.size w w' := by
  obtain ⟨G, h1, h2⟩ := h
  exact tells_any G g w h1 h2

def Sep (u v : Value) : Prop := ∀ g, u.ownBlock = some g → v.ownBlock = some g → False
/-- The three lists of rows that the statement grows. -/
structure T3 (w0 X : World) (u2 u3 u4 : Value) (r2 r3 r4 : List (Value × List Int)) : Prop where
  a : RowsL X w0.heap.size u2 r2
  b : RowsL X w0.heap.size u3 r3
  c : RowsL X w0.heap.size u4 r4
  s23 : Sep u2 u3
  s24 : Sep u2 u4
  s34 : Sep u3 u4
  below : Below w0.heap.size w0 X
theorem RowsL.far {ch : Nat → Prop} {w w' : World} {B : Nat} {v u : Value} {rs : List (Value × List Int)} {b n : Nat} {xs : List Value} (h : RowsL w B v rs) (hu : w.ownsRow b 31 1 u n xs) (f : Fr ch w w') (hch : ∀ g, ch g → u.ownBlock = some g) (hs : Sep u v) : RowsL w' B v rs :=
  ⟨own_fr h.1 f fun g e e2 => hs g (hch g e2) e, fun r hr => (h.2 r hr).fr f fun g e e2 => own_apart (h.2 r hr).2 hu (by decide) g e (hch g e2)⟩
theorem RowsL.still {w w' : World} {B : Nat} {v : Value} {rs : List (Value × List Int)} (h : RowsL w B v rs) (f : Fr nothing w w') : RowsL w' B v rs := ⟨own_fr h.1 f fun _ _ e => e, fun r hr => (h.2 r hr).fr f fun _ _ e => e⟩
theorem RowsL.grown {w w' : World} {B : Nat} {v : Value} {rs : List (Value × List Int)} (h : RowsL w B v rs) (f : Fr (fun g => v.ownBlock = some g) w w') (hold : w'.ownsRow B 31 1 v rs.length (rs.map Prod.fst)) : RowsL w' B v rs :=
  ⟨hold, fun r hr => (h.2 r hr).fr f fun g e e2 => own_apart (h.2 r hr).2 h.1 (by decide) g e e2⟩
theorem T3.still {w0 X X' : World} {u2 u3 u4 : Value} {r2 r3 r4 : List (Value × List Int)} (h : T3 w0 X u2 u3 u4 r2 r3 r4) (f : Fr nothing X X') : T3 w0 X' u2 u3 u4 r2 r3 r4 :=
  ⟨h.a.still f, h.b.still f, h.c.still f, h.s23, h.s24, h.s34, h.below.trans (f.below h.below.size fun _ e => e.elim)⟩
theorem T3.own2 {w0 X X' : World} {u2 u3 u4 : Value} {r2 r3 r4 : List (Value × List Int)} (h : T3 w0 X u2 u3 u4 r2 r3 r4) (f : Fr (fun g => u2.ownBlock = some g) X X') (hold : X'.ownsRow w0.heap.size 31 1 u2 r2.length (r2.map Prod.fst)) : T3 w0 X' u2 u3 u4 r2 r3 r4 :=
  ⟨h.a.grown f hold, h.b.far h.a.1 f (fun _ e => e) h.s23, h.c.far h.a.1 f (fun _ e => e) h.s24, h.s23, h.s24, h.s34, h.below.trans (f.below h.below.size fun g e => (h.a.1.lt g e).1)⟩
theorem T3.own3 {w0 X X' : World} {u2 u3 u4 : Value} {r2 r3 r4 : List (Value × List Int)} (h : T3 w0 X u2 u3 u4 r2 r3 r4) (f : Fr (fun g => u3.ownBlock = some g) X X') (hold : X'.ownsRow w0.heap.size 31 1 u3 r3.length (r3.map Prod.fst)) : T3 w0 X' u2 u3 u4 r2 r3 r4 :=
  ⟨h.a.far h.b.1 f (fun _ e => e) fun g e1 e2 => h.s23 g e2 e1, h.b.grown f hold, h.c.far h.b.1 f (fun _ e => e) h.s34, h.s23, h.s24, h.s34, h.below.trans (f.below h.below.size fun g e => (h.b.1.lt g e).1)⟩
theorem T3.own4 {w0 X X' : World} {u2 u3 u4 : Value} {r2 r3 r4 : List (Value × List Int)} (h : T3 w0 X u2 u3 u4 r2 r3 r4) (f : Fr (fun g => u4.ownBlock = some g) X X') (hold : X'.ownsRow w0.heap.size 31 1 u4 r4.length (r4.map Prod.fst)) : T3 w0 X' u2 u3 u4 r2 r3 r4 :=
  ⟨h.a.far h.c.1 f (fun _ e => e) fun g e1 e2 => h.s24 g e2 e1, h.b.far h.c.1 f (fun _ e => e) fun g e1 e2 => h.s34 g e2 e1, h.c.grown f hold, h.s23, h.s24, h.s34, h.below.trans (f.below h.below.size fun g e => (h.c.1.lt g e).1)⟩
theorem T3.new2 {w0 X X' : World} {u2 u3 u4 v2 : Value} {r2 r3 r4 r2' : List (Value × List Int)} {n m : Nat} (h : T3 w0 X u2 u3 u4 r2 r3 r4) (f : Fr (fun g => u2.ownBlock = some g) X X') (hr : RowsL X' w0.heap.size v2 r2')
    (hblk : (∃ g c, u2 = .slice (some ⟨g, 0, none⟩) n c ∧ v2 = .slice (some ⟨g, 0, none⟩) m c) ∨ ∀ g, v2.ownBlock = some g → X.heap.size ≤ g) : T3 w0 X' v2 u3 u4 r2' r3 r4 := by
  have hs : ∀ {u : Value} {r : List (Value × List Int)}, RowsL X w0.heap.size u r → Sep u2 u → Sep v2 u := fun hu hsep g e1 e2 => by
    rcases hblk with ⟨g', c, e3, e4⟩ | hnew
    · rw [e4] at e1
      exact hsep g (by rw [e3]; exact e1) e2
    · have h1 := hnew g e1
      have h2 := (hu.1.lt g e2).2
      omega
  exact ⟨hr, h.b.far h.a.1 f (fun _ e => e) h.s23, h.c.far h.a.1 f (fun _ e => e) h.s24, hs h.b h.s23, hs h.c h.s24, h.s34, h.below.trans (f.below h.below.size fun g e => (h.a.1.lt g e).1)⟩
theorem T3.new4 {w0 X X' : World} {u2 u3 u4 v4 : Value} {r2 r3 r4 r4' : List (Value × List Int)} {n m : Nat} (h : T3 w0 X u2 u3 u4 r2 r3 r4) (f : Fr (fun g => u4.ownBlock = some g) X X') (hr : RowsL X' w0.heap.size v4 r4')
    (hblk : (∃ g c, u4 = .slice (some ⟨g, 0, none⟩) n c ∧ v4 = .slice (some ⟨g, 0, none⟩) m c) ∨ ∀ g, v4.ownBlock = some g → X.heap.size ≤ g) : T3 w0 X' u2 u3 v4 r2 r3 r4' := by
  have hs : ∀ {u : Value} {r : List (Value × List Int)}, RowsL X w0.heap.size u r → Sep u u4 → Sep u v4 := fun hu hsep g e2 e1 => by
    rcases hblk with ⟨g', c, e3, e4⟩ | hnew
    · rw [e4] at e1
      exact hsep g e2 (by rw [e3]; exact e1)
    · have h1 := hnew g e1
      have h2 := (hu.1.lt g e2).2
      omega
  exact ⟨h.a.far h.c.1 f (fun _ e => e) fun g e1 e2 => h.s24 g e2 e1, h.b.far h.c.1 f (fun _ e => e) fun g e1 e2 => h.s34 g e2 e1, hr, h.s23, hs h.a h.s24, hs h.b h.s34, h.below.trans (f.below h.below.size fun g e => (h.c.1.lt g e).1)⟩
theorem T3.new3 {w0 X X' : World} {u2 u3 u4 v3 : Value} {r2 r3 r4 r3' : List (Value × List Int)} (h : T3 w0 X u2 u3 u4 r2 r3 r4) (f : Fr nothing X X') (hr : RowsL X' w0.heap.size v3 r3')
    (hnew : ∀ g, v3.ownBlock = some g → X.heap.size ≤ g) : T3 w0 X' u2 v3 u4 r2 r3' r4 := by
  refine ⟨h.a.still f, hr, h.c.still f, fun g e1 e2 => ?_, h.s24, fun g e1 e2 => ?_, h.below.trans (f.below h.below.size fun _ e => e.elim)⟩
  · have h1 := hnew g e2
    have h2 := (h.a.1.lt g e1).2
    omega
  · have h1 := hnew g e1
    have h2 := (h.c.1.lt g e2).2
    omega
/-- A new row, behind the older ones. -/
theorem RowsL.push {X w2 : World} {B : Nat} {u v2 : Value} {rs news : List (Value × List Int)} (h : RowsL X B u rs) (f : Fr (fun g => u.ownBlock = some g) X w2) (hown : w2.ownsRow B 31 1 v2 (rs.length + news.length) (rs.map Prod.fst ++ news.map Prod.fst)) (hn : ∀ r ∈ news, INum X r) : RowsL w2 B v2 (rs ++ news) := by
  refine ⟨by rw [List.length_append, List.map_append]; exact hown, fun r hr => ?_⟩
  rcases List.mem_append.1 hr with hr | hr
  · exact (h.2 r hr).fr f fun g e e2 => own_apart (h.2 r hr).2 h.1 (by decide) g e e2
  · exact (hn r hr).fr f fun g e e2 => own_apart (hn r hr).2 h.1 (by decide) g e e2
theorem num_laid {w : World} {b : Nat} (row : List Int) (hb : w.heap[b]? = some (rowO row)) (hok : okR row) : INum w (.slice (some ⟨b, 0, none⟩) row.length row.length, row) := by
  have hl := hok.2.1
  have := own_laid (B := 0) (n := row.length) (size := 1) hb (Nat.zero_le _) (by simp) (by unfold maxLen; omega)
  exact ⟨hok, by simpa using this⟩
def litW (q : World) (row : List Int) : World := (q.alloc (rowO row)).alloc (.cells #[.slice (some ⟨q.heap.size, 0, none⟩) row.length row.length] 31)
theorem litW_fr (q : World) (row : List Int) : Fr nothing q (litW q row) := (Fr.alloc _ _).trans (Fr.alloc _ _)
theorem litW_num (q : World) (row : List Int) (hok : okR row) : INum (litW q row) (.slice (some ⟨q.heap.size, 0, none⟩) row.length row.length, row) := num_laid row (alloc_older (alloc_obj q _)) hok
theorem app2 {w0 q z : World} {a2 : Option Addr} {n c2 : Nat} {u3 u4 v : Value} {r2 r3 r4 : List (Value × List Int)} (row : List Int) (hok : okR row) (h : T3 w0 q (.slice a2 n c2) u3 u4 r2 r3 r4) (hl : r2.length = n)
    (hF : Fr (fun g => (Value.slice a2 n c2).ownBlock = some g) (litW q row) z) (hold : z.ownsRow w0.heap.size 31 1 (.slice a2 n c2) n (r2.map Prod.fst))
    (hown : z.ownsRow w0.heap.size 31 1 v (n + 1) (r2.map Prod.fst ++ [.slice (some ⟨q.heap.size, 0, none⟩) row.length row.length])) :
    T3 w0 z (.slice a2 n c2) u3 u4 r2 r3 r4 ∧ ∃ rs, RowsL z w0.heap.size v rs ∧ rs.length = n + 1 := by
  have h1 := h.still (litW_fr q row)
  refine ⟨h1.own2 hF (by rw [hl]; exact hold), _, RowsL.push (news := [(.slice (some ⟨q.heap.size, 0, none⟩) row.length row.length, row)]) h1.a hF (by rw [hl]; exact hown) (fun r hr => by rw [List.mem_singleton.1 hr]; exact litW_num q row hok), by simp [hl]⟩
theorem app3 {w0 q z : World} {a3 : Option Addr} {n c3 : Nat} {u2 u4 v : Value} {r2 r3 r4 : List (Value × List Int)} (row : List Int) (hok : okR row) (h : T3 w0 q u2 (.slice a3 n c3) u4 r2 r3 r4) (hl : r3.length = n)
    (hF : Fr (fun g => (Value.slice a3 n c3).ownBlock = some g) (litW q row) z) (hold : z.ownsRow w0.heap.size 31 1 (.slice a3 n c3) n (r3.map Prod.fst))
    (hown : z.ownsRow w0.heap.size 31 1 v (n + 1) (r3.map Prod.fst ++ [.slice (some ⟨q.heap.size, 0, none⟩) row.length row.length])) :
    T3 w0 z u2 (.slice a3 n c3) u4 r2 r3 r4 ∧ ∃ rs, RowsL z w0.heap.size v rs ∧ rs.length = n + 1 := by
  have h1 := h.still (litW_fr q row)
  refine ⟨h1.own3 hF (by rw [hl]; exact hold), _, RowsL.push (news := [(.slice (some ⟨q.heap.size, 0, none⟩) row.length row.length, row)]) h1.b hF (by rw [hl]; exact hown) (fun r hr => by rw [List.mem_singleton.1 hr]; exact litW_num q row hok), by simp [hl]⟩
theorem gramV (r : Nat) (v : Value) (w : World) (B n : Nat) (hr : r ≤ 99) (hn : n ≤ 1000) (h : ∃ rs, RowsL w B v rs ∧ rs.length = n) :
    Calls Tryz.prog 18 #[.int .i64 2, .int .i64 ((r : Int) + 1), v] w fun e w' => ∃ g, e = .returned g ∧ AnyG w' g ∧ Below w.heap.size w w' := by
  obtain ⟨rs, h1, h2⟩ := h
  exact gramR r v w B rs hr h1 (by omega)
theorem any_empty (w : World) : AnyG w (.agg #[.int .i64 0, .slice none 0 0, .slice none 0 0]) := ⟨emptyG, empty_gram w, ⟨fun _ hs => (by cases hs), fun _ hs => (by cases hs), fun _ hp => (by cases hp)⟩⟩
theorem gramNil (w : World) : Calls Tryz.prog 18 #[.int .i64 0, .int .i64 1, .slice none 0 0] w fun e w' => ∃ g, e = .returned g ∧ AnyG w' g ∧ Below w.heap.size w w' :=
  gramL 0 1 (.slice none 0 0) w [] (by omega) (by omega) ⟨by simp, none, 0, rfl, Nat.le_refl _, by unfold maxLen; omega, .inl rfl⟩ (fun _ h => (by cases h)) (by simp)
theorem gram0 (q : World) : Calls Tryz.prog 18 #[.int .i64 0, .int .i64 1, .slice (some ⟨q.heap.size + 1, 0, none⟩) 1 1] ((q.alloc (.cells #[.int .i64 0] 3)).alloc (.cells #[.slice (some ⟨q.heap.size, 0, none⟩) 1 1] 31)) fun e w' => ∃ g, e = .returned g ∧ AnyG w' g ∧ Below q.heap.size q w' := by
  have hok : okR [0] := ⟨by simp, by simp, fun x hx => by simp only [List.mem_cons, List.not_mem_nil, or_false] at hx; omega⟩
  have hr : RowsL (litW q [0]) 0 (.slice (some ⟨q.heap.size + 1, 0, none⟩) 1 1) [(.slice (some ⟨q.heap.size, 0, none⟩) 1 1, [0])] :=
    ⟨own_laid (B := 0) (n := 1) (size := 1) (alloc_at (w := q.alloc (rowO [0])) (o := .cells #[.slice (some ⟨q.heap.size, 0, none⟩) 1 1] 31) (by simp)) (Nat.zero_le _) rfl (by unfold maxLen; omega), fun r hr => by rw [List.mem_singleton.1 hr]; exact litW_num q [0] hok⟩
  refine (gramL 0 1 _ (litW q [0]) [[0]] (by omega) (by omega) (hr.rows (by simp)) (fun l hl => by rw [List.mem_singleton.1 hl]; exact hok) (by simp)).mono ?_
  rintro e w' ⟨g, rfl, hg, hb⟩
  exact ⟨g, rfl, hg, ((litW_fr q [0]).below (Nat.le_refl _) fun _ e => e.elim).trans (hb.mono (litW_fr q [0]).size)⟩
section
variable {P : Program}
theorem run_append_keep (w : World) (base : Nat) (t ty e : TypeId) (i : TypeInfo) (z : Value) (size bytes : Nat) (ht : P.underlying t = some (.slice e)) (hi : P.info? e = some i) (hz : i.zero = some z)
    (hsize : i.size = size) (hby : i.bytes = bytes) (hzs : z.cells.size = size) (hsz : 0 < size) (v : Value) (n : Nat) (xs : List Value) (hown : w.ownsRow base e size v n xs)
    (ad : Addr) (m c : Nat) (news : List Value) (hl : news.length = m * size) (hnews : ∀ j u, news[j]? = some u → w.cell? (ad.add j) = some u) (h1 : ∀ u ∈ news, u.oneCell' = true)
    (_hm : 0 < m) (h63 : n + m ≤ maxLen) (hbytes : (n + m) * bytes ≤ 140737488355328) (hbase : base ≤ w.heap.size) :
    ∃ v' w', (Builtin.append_ #[t, t] ty #[v, .slice (some ad) m c]).run P w = .ok v' w' ∧ w'.ownsRow base e size v' (n + m) (xs ++ news) ∧ w'.ownsRow base e size v n xs ∧ Fr (fun g => v.ownBlock = some g) w w' ∧
      ((∃ g c, v = .slice (some ⟨g, 0, none⟩) n c ∧ v' = .slice (some ⟨g, 0, none⟩) (n + m) c) ∨ ∀ g, v'.ownBlock = some g → w.heap.size ≤ g) := by
  have hown' := hown
  obtain ⟨hlen, h2⟩ := hown
  rcases h2 with ⟨rfl, rfl⟩ | ⟨g, cap, cur, rfl, hb, hg, r1, r2, r3, r4⟩
  · have hxs : xs = [] := List.eq_nil_of_length_eq_zero (by simpa using hlen)
    subst hxs
    obtain ⟨v', w', hrun, k1, k2, _⟩ := run_append_own (P := P) w w.heap.size t ty e i z size bytes ht hi hz hsize hby hzs hsz (.slice none 0 0) 0 [] (World.ownsRow_nil w _ e size) ad m c news hl hnews h1 h63 hbytes (Nat.le_refl _)
    exact ⟨v', w', hrun, own_base k1 hbase, ⟨by simp, .inl ⟨rfl, rfl⟩⟩, (Fr.grown k2).mono fun _ _ e => e, .inr fun g e => (k1.lt g e).1⟩
  · by_cases hroom : n + m ≤ cap
    · obtain ⟨w', hrun, k1, k2⟩ := run_append_own_spare (P := P) w base t ty e i size ht hi hsize g n cap xs hown' ad m c news hl hnews h1 hroom
      refine ⟨_, w', hrun, k1, ?_, (Fr.grown k2).mono fun _ _ e => by simpa [Value.ownBlock] using e, .inl ⟨g, cap, rfl, rfl⟩⟩
      obtain ⟨k3, k4⟩ := k1
      rcases k4 with ⟨k4, _⟩ | ⟨g', cap', cur', k4, q1, q2, q3, q4, q5, q6⟩
      · cases k4
      · simp only [Value.slice.injEq, Option.some.injEq, Addr.mk.injEq] at k4
        obtain ⟨⟨rfl, -⟩, -, rfl⟩ := k4
        refine ⟨hlen, .inr ⟨g, cap, cur', rfl, q1, q2, r1, q4, q5, ?_⟩⟩
        have : (cur'.toList.take ((n + m) * size)).take (n * size) = (xs ++ news).take (n * size) := by rw [q6]
        rw [List.take_take, Nat.min_eq_left (Nat.mul_le_mul_right _ (Nat.le_add_right _ _)), List.take_left' hlen] at this
        exact this
    · obtain ⟨v', w', hrun, k1, k2⟩ := run_append_arg_grows (P := P) w t ty e i z size bytes ht hi hz hsize hby hzs hsz ⟨g, 0, none⟩ n cap xs hlen (hown'.cells rfl) ad m c news hl hnews (by omega) h63 hbytes
      exact ⟨v', w', hrun, own_base k1 hbase, own_fr hown' (Fr.grown k2) (fun g e e2 => by cases e2), (Fr.grown k2).mono (fun _ _ e => by cases e), .inr fun g e => (k1.lt g e).1⟩
/-- append onto a list of one's own, in an operation whose guard says yes. -/
theorem wpList_append_keepG {w : World} {ops : Array Oper} {rest : List Oper} {o : Oper} {a : Act} {Q : Exit → Act → World → Prop} (hw : Region.wanted o (yielded ops a.tmps) = true) (s x : Operand) (t : TypeId)
    (ho : o.op = .call { callee := .builtin .append, args := #[s, x], argTypes := #[t, t] })
    (base : Nat) (e : TypeId) (i : TypeInfo) (z : Value) (size bytes : Nat) (ht : P.underlying t = some (.slice e)) (hi : P.info? e = some i) (hz : i.zero = some z)
    (hsize : i.size = size) (hby : i.bytes = bytes) (hzs : z.cells.size = size) (hsz : 0 < size)
    (v : Value) (n : Nat) (xs : List Value) (hs : a.eval s = v) (hown : w.ownsRow base e size v n xs)
    (ad : Addr) (m c : Nat) (news : List Value) (hx : a.eval x = .slice (some ad) m c) (hl : news.length = m * size)
    (hnews : ∀ j u, news[j]? = some u → w.cell? (ad.add j) = some u) (h1 : ∀ u ∈ news, u.oneCell' = true)
    (_hm : 0 < m) (h63 : n + m ≤ maxLen) (hbytes : (n + m) * bytes ≤ 140737488355328) (hbase : base ≤ w.heap.size)
    (h : ∀ v' w', w'.ownsRow base e size v' (n + m) (xs ++ news) → w'.ownsRow base e size v n xs → Fr (fun g => v.ownBlock = some g) w w' → ((∃ g c, v = .slice (some ⟨g, 0, none⟩) n c ∧ v' = .slice (some ⟨g, 0, none⟩) (n + m) c) ∨ ∀ g, v'.ownBlock = some g → w.heap.size ≤ g) → wpList P ops Q rest (a.put o.dst v') w') :
    wpList P ops Q (o :: rest) a w := by
  refine BigFrame.wpList_want hw fun K hK => ?_
  obtain ⟨v', w', hr, k1, k2, k3, k4⟩ := run_append_keep (P := P) w base t o.type e i z size bytes ht hi hz hsize hby hzs hsz v n xs hown ad m c news hl hnews h1 _hm h63 hbytes hbase
  unfold Oper.wp execOp
  simp only [ho, resolve, invoke, builtin, Sem.run_bind, Sem.run_pure, Result.andThen_ok, List.map_toArray, List.map_cons, List.map_nil, hs, hx, hr]
  exact hK _ _ (h v' w' k1 k2 k3 k4)
end
end Go.Proofs.YtiiceickjaeehaaGreat
