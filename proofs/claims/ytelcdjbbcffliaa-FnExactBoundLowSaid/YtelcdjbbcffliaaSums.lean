/- Sums of rows and of columns. -/
import Derived.Test.YtelcdjbbcffliaaCells
import Derived.Test.YtelcdjbbcffliaaFlow
import Derived.Sort.CutIn
/- Sums of rows and of columns. -/
namespace Go.Proofs.Ytelcdjbbcffliaa
open Go.RowKit Go.DC Go.Shelf
attribute [local go_sem] Oper.semAt_some
def SumsOut (h m : Nat) (f : Nat → Nat → Int) (w : World) (e : Ending) (w' : World) : Prop :=
  ∃ v1 v2, e = .returned (.tuple #[v1, v2]) ∧ w'.ownsRow w.heap.size 3 1 v1 h ((List.range h).map fun i => encI (sumN m (f i))) ∧ w'.ownsRow w.heap.size 3 1 v2 m ((List.range m).map fun j => encI (sumN h (fun i => f i j))) ∧ Ext w w'
theorem heap4 (w : World) (A B C D : Obj) : (((((w.alloc A).alloc B).alloc C).alloc D).drew).heap[w.heap.size]? = some A ∧ (((((w.alloc A).alloc B).alloc C).alloc D).drew).heap[w.heap.size + 1]? = some B
    ∧ (((((w.alloc A).alloc B).alloc C).alloc D).drew).heap[w.heap.size + 1 + 1]? = some C ∧ (((((w.alloc A).alloc B).alloc C).alloc D).drew).heap[w.heap.size + 1 + 1 + 1]? = some D := by
  have h1 : (w.alloc A).heap[w.heap.size]? = some A := heap_alloc_new w A
  have h2 : ((w.alloc A).alloc B).heap[w.heap.size + 1]? = some B := by have := heap_alloc_new (w.alloc A) B; rwa [World.size_alloc] at this
  have h3 : (((w.alloc A).alloc B).alloc C).heap[w.heap.size + 1 + 1]? = some C := by have := heap_alloc_new ((w.alloc A).alloc B) C; rwa [World.size_alloc, World.size_alloc] at this
  have h4 : ((((w.alloc A).alloc B).alloc C).alloc D).heap[w.heap.size + 1 + 1 + 1]? = some D := by have := heap_alloc_new (((w.alloc A).alloc B).alloc C) D; rwa [World.size_alloc, World.size_alloc, World.size_alloc] at this
  refine ⟨?_, ?_, ?_, h4⟩
  · exact (heap_alloc_old _ D (by simp only [World.size_alloc]; omega)).trans ((heap_alloc_old _ C (by simp only [World.size_alloc]; omega)).trans ((heap_alloc_old _ B (by simp only [World.size_alloc]; omega)).trans h1))
  · exact (heap_alloc_old _ D (by simp only [World.size_alloc]; omega)).trans ((heap_alloc_old _ C (by simp only [World.size_alloc]; omega)).trans h2)
  · exact (heap_alloc_old _ D (by simp)).trans h3
/-- Two new rows of zeros, each in a box. -/
structure Two (T I : TypeId) (h m : Nat) (W0 wx : World) (p4 p5 r4 r5 : Nat) : Prop where
  ge4 : W0.heap.size ≤ p4
  ge5 : W0.heap.size ≤ p5
  geR : W0.heap.size ≤ r4
  geC : W0.heap.size ≤ r5
  n45 : p4 ≠ p5
  n4r : p4 ≠ r4
  n4c : p4 ≠ r5
  n5r : p5 ≠ r4
  n5c : p5 ≠ r5
  nrc : r4 ≠ r5
  b4 : Box wx p4 T (.slice (some ⟨r4, 0, none⟩) h h)
  b5 : Box wx p5 T (.slice (some ⟨r5, 0, none⟩) m m)
  rows : wx.heap[r4]? = some (.cells (madeCells #[.int .i64 0] h) I)
  cols : wx.heap[r5]? = some (.cells (madeCells #[.int .i64 0] m) I)
  ext : Ext W0 wx
/-- A sum over some cells. -/
def psum {h m : Nat} (g : Nat → Nat → Int) (pre : List (Cell h m)) : Int := (pre.map fun x => g x.1.1 x.1.2).sum
theorem psum_nil {h m : Nat} (g : Nat → Nat → Int) : psum g ([] : List (Cell h m)) = 0 := rfl
theorem psum_app {h m : Nat} (g : Nat → Nat → Int) (p q : List (Cell h m)) : psum g (p ++ q) = psum g p + psum g q := by simp [psum]
theorem psum_one {h m : Nat} (g : Nat → Nat → Int) (x : Cell h m) : psum g [x] = g x.1.1 x.1.2 := by simp [psum]
theorem psum_row {h m k : Nat} (g : Nat → Nat → Int) (hk : k < h) : ∀ (j : Nat) (hj : j ≤ m), psum g (rowCells h m k j hk hj) = sumN j (g k)
  | 0, hj => by rw [rowCells_zero]; rfl
  | j + 1, hj => by rw [rowCells_succ, psum_app, psum_row g hk j (by omega), psum_one]; rfl
theorem psum_first {h m : Nat} (g : Nat → Nat → Int) : ∀ (k : Nat) (hk : k ≤ h), psum g (firstCells h m k hk) = sumN k (fun i => sumN m (g i))
  | 0, _ => rfl
  | k + 1, hk => by rw [firstCells, psum_app, psum_first g k (by omega), psum_row]; rfl
theorem psum_all {h m : Nat} (g : Nat → Nat → Int) : psum g (allCells h m) = sumN h (fun i => sumN m (g i)) := psum_first g h _
theorem psum_bound {h m : Nat} {g : Nat → Nat → Int} {B : Int} (hg : ∀ i j, i < h → j < m → -B ≤ g i j ∧ g i j ≤ B) : ∀ pre : List (Cell h m), -(B * pre.length) ≤ psum g pre ∧ psum g pre ≤ B * pre.length
  | [] => by simp [psum]
  | x :: pre => by
    have h1 := psum_bound hg pre
    have h2 := hg x.1.1 x.1.2 x.2.1 x.2.2
    have e : psum g (x :: pre) = g x.1.1 x.1.2 + psum g pre := by simp [psum]
    rw [e, List.length_cons, Int.natCast_succ, Int.mul_add]
    omega
def rowPart (f : Nat → Nat → Int) (i : Nat) : Nat → Nat → Int := fun k l => if k = i then f k l else 0
def colPart (f : Nat → Nat → Int) (j : Nat) : Nat → Nat → Int := fun k l => if l = j then f k l else 0
theorem rowPart_all {h m i : Nat} (f : Nat → Nat → Int) (hi : i < h) : psum (rowPart f i) (allCells h m) = sumN m (f i) := by
  rw [psum_all, sumN_single (k := i) hi (fun k _ hk => by unfold rowPart; rw [sumN_congr (g := fun _ => 0) (fun l _ => if_neg hk), sumN_zero])]
  exact sumN_congr fun l _ => if_pos rfl
theorem colPart_all {h m j : Nat} (f : Nat → Nat → Int) (hj : j < m) : psum (colPart f j) (allCells h m) = sumN h (fun i => f i j) := by
  rw [psum_all]
  refine sumN_congr fun i _ => ?_
  rw [sumN_single (f := colPart f j i) (k := j) hj (fun l _ hl => if_neg hl)]
  exact if_pos rfl
def rowOf (h : Nat) (F : Nat → Int) : List Value := (List.range h).map fun i => encI (F i)
theorem rowOf_len (h : Nat) (F : Nat → Int) : (rowOf h F).length = h := by simp [rowOf]
theorem rowOf_at {h i : Nat} (F : Nat → Int) (hi : i < h) : (rowOf h F)[i]? = some (encI (F i)) := by simp [rowOf, hi]
theorem rowOf_congr {h : Nat} {F G : Nat → Int} (e : ∀ i, i < h → F i = G i) : rowOf h F = rowOf h G := by
  unfold rowOf
  apply List.map_congr_left
  intro i hi
  rw [e i (List.mem_range.1 hi)]
theorem rowOf_set {h i : Nat} (F G : Nat → Int) (z : Int) (e : ∀ k, k < h → G k = if k = i then z else F k) : (rowOf h F).set i (encI z) = rowOf h G := by
  apply List.ext_getElem
  · simp [rowOf]
  · intro k h1 h2
    have hk : k < h := by simpa [rowOf] using h2
    rw [List.getElem_set]
    simp only [rowOf, List.getElem_map, List.getElem_range]
    rw [e k hk]
    by_cases x : i = k
    · rw [if_pos x, if_pos x.symm]
    · rw [if_neg x, if_neg (fun y => x y.symm)]
theorem own_zeros {I : TypeId} {w : World} {B g n : Nat} (hg : w.heap[g]? = some (.cells (madeCells #[.int .i64 0] n) I)) (hB : B ≤ g) (hn : n ≤ 9223372036854775807) : w.ownsRow B I 1 (.slice (some ⟨g, 0, none⟩) n n) n (rowOf n fun _ => 0) := by
  refine ⟨by simp [rowOf], .inr ⟨g, n, _, rfl, hB, hg, Nat.le_refl _, by unfold maxLen; omega, by simp [size_madeCells], ?_⟩⟩
  rw [toList_madeCells_one]
  simp only [Nat.mul_one, List.take_of_length_le, List.length_replicate, Nat.le_refl]
  apply List.ext_getElem
  · simp [rowOf]
  · intro i h1 h2; simp [rowOf]
set_option maxRecDepth 100000 in
set_option maxHeartbeats 4000000 in
theorem sumsOf_any (a : Option Addr) (c h m : Nat) (t : List (List Int)) (w : World) (ht : IRows w a t) (hr : Rect t h m) (h1 : 1 ≤ h) (h4 : h ≤ 4) (m1 : 1 ≤ m) (m4 : m ≤ 4) (hb : ∀ i j, i < h → j < m → -1000000 ≤ get 0 t i j ∧ get 0 t i j ≤ 1000000) :
    Calls Try.prog 52 #[.slice a t.length c] w (SumsOut h m (get 0 t) w) := by
  have HT := Lib.hid ht; clear ht
  have HR := Lib.hid hr; clear hr
  have HB := Lib.hid hb; clear hb
  have hl : t.length = h := HR.out.1
  rw [hl]
  refine (callsIn_wide (n := 9)).1 ?_
  refine callsIn_of_wp_marks Try.func52 rfl trivial ?_ rfl
  simp only [Try.ntmps52, List.size_toArray, List.length_cons, List.length_nil, Nat.reduceAdd, Nat.reduceSub, Array.replicate_succ, Array.replicate_zero, List.push_toArray, List.append_toArray, List.nil_append, List.cons_append]
  have e0 : Ext w (w.alloc (.cells #[.slice a h c] 23)) := (Ext.refl w).alloc _
  have bx0 := Box.new w 23 (.slice a h c)
  obtain ⟨b0, off0, a0, c0, rfl, hc0⟩ := HT.out.rowC HR.out (i := 0) (by omega)
  have hc0' := e0.cell hc0
  have hmk1 := run_make_row' (P := Try.prog) 28 3 (.int .i64 0) 8 Try.underlying28 Try.dcInfoInt rfl .i64 .i64 h (by omega) (by omega)
  have hmk2 := run_make_row' (P := Try.prog) 28 3 (.int .i64 0) 8 Try.underlying28 Try.dcInfoInt rfl .i64 .i64 m (by omega) (by omega)
  simp only [Nat.add_zero] at hc0 hc0'
  have h0z : (0 : Int) < (h : Int) := by omega
  gi_wp2_with fail
  obtain ⟨W0, hW0⟩ : ∃ W0, w.alloc (.cells #[.slice (some ⟨b0, off0, none⟩) h c] 23) = W0 := ⟨_, rfl⟩
  rw [hW0] at e0 bx0 hc0' ⊢
  clear hW0
  have hcB := bx0.cell
  have hltB := bx0.lt
  have hltb : b0 < W0.heap.size := Nat.lt_of_lt_of_le (World.block_lt_of_cell? _ _ hc0) e0.size
  have q1 : w.heap.size < W0.heap.size + 1 := by omega
  have q2 : w.heap.size < W0.heap.size + 2 := by omega
  have q2' : w.heap.size < W0.heap.size + 1 + 1 := by omega
  have q3 : w.heap.size < W0.heap.size + 3 := by omega
  have q3' : w.heap.size < W0.heap.size + 1 + 1 + 1 := by omega
  have p1 : b0 < W0.heap.size + 1 := by omega
  have p2 : b0 < W0.heap.size + 2 := by omega
  have p2' : b0 < W0.heap.size + 1 + 1 := by omega
  have p3 : b0 < W0.heap.size + 3 := by omega
  have p3' : b0 < W0.heap.size + 1 + 1 + 1 := by omega
  gi_cut [4, 5, 10, 15] from 8 (fun s4 s5 s10 s15 wx => ∃ p4 p5 r4 r5 : Nat, s4 = .pointer (some ⟨p4, 0, none⟩) ∧ s5 = .pointer (some ⟨p5, 0, none⟩) ∧ s10 = .slice (some ⟨r4, 0, none⟩) h h ∧ s15 = .slice (some ⟨r5, 0, none⟩) m m ∧ Two 28 3 h m W0 wx p4 p5 r4 r5)
  case first =>
    gi_region
    all_goals
      rename_i hJ hK
      refine hK _ _ (Met.intro (hJ _ _ ?_))
      (repeat apply Exists.intro)
      refine ⟨⟨_, _, _, _, rfl, rfl, rfl, rfl, ?_⟩, rfl⟩
      constructor
      case ext => exact (((((Ext.refl W0).alloc _).alloc _).alloc _).alloc _).drew
      all_goals first | omega | exact (heap4 _ _ _ _ _).1 | exact (heap4 _ _ _ _ _).2.1 | exact (heap4 _ _ _ _ _).2.2.1 | exact (heap4 _ _ _ _ _).2.2.2
  case rest =>
    obtain ⟨p4, p5, r4, r5, rfl, rfl, rfl, rfl, two⟩ := hcut
    obtain ⟨hp4, hp5, hr4, hr5, n45, n4r, n4c, n5r, n5c, nrc, b4, b5, br, bc, eW⟩ := two
    clear q1 q2 q2' q3 q3' p1 p2 p2' p3 p3' hmk1 hmk2 hc0' hcB hltb
    have bB := bx0.ext eW
    have hcB := bB.cell
    have O4 := own_zeros (B := W0.heap.size) br hr4 (by omega)
    have O5 := own_zeros (B := W0.heap.size) bc hr5 (by omega)
    have ew : Ext w wc := e0.trans eW
    have hWw : w.heap.size ≤ W0.heap.size := e0.size
    clear br bc eW bx0
    gi_wp2_with fail
    refine ⟨trivial, (cellsOf_in Fence.wide _ (wide_fn _) rfl _ _ _ _).mono ?_⟩
    rintro e w2 ⟨rfl, rfl⟩
    have bI := Box.new wc 23 (.slice (some ⟨b0, off0, none⟩) h c)
    have x2 : Ext wc (wc.alloc (.cells #[.slice (some ⟨b0, off0, none⟩) h c] 23)) := (Ext.refl _).alloc _
    have bB2 := bB.ext x2
    have b42 := b4.ext x2
    have b52 := b5.ext x2
    have O42 := owns_ext O4 x2
    have O52 := owns_ext O5 x2
    have hcI := bI.cell
    have ew2 := ew.trans x2
    have i0 : (rowOf h fun i => psum (rowPart (get 0 t) i) ([] : List (Cell h m))) = rowOf h (fun _ => 0) := rfl
    have i1 : (rowOf m fun j => psum (colPart (get 0 t) j) ([] : List (Cell h m))) = rowOf m (fun _ => 0) := rfl
    rw [← i0] at O42
    rw [← i1] at O52
    have hl4 := b4.lt; have hl5 := b5.lt
    have hlr : r4 < wc.heap.size := (O4.lt r4 rfl).2
    have hlc : r5 < wc.heap.size := (O5.lt r5 rfl).2
    obtain ⟨W2, hW2⟩ : ∃ W2, wc.alloc (.cells #[.slice (some ⟨b0, off0, none⟩) h c] 23) = W2 := ⟨_, rfl⟩
    rw [hW2] at bB2 b42 b52 O42 O52 hcI ew2 ⊢
    have hs2 : W2.heap.size = wc.heap.size + 1 := by rw [← hW2]; simp
    clear hW2 bI x2 i0 i1 bB b4 b5 O4 O5 hcB ew
    gi_wp2_with fail
    refine wpIn_cells (by omega) w wc.heap.size h m (some ⟨b0, off0, none⟩) c t HT.out HR.out (by omega) (by omega) rfl ew2 (by rw [hl]; exact hcI) rfl
      (fun pre W => Box W w.heap.size 23 (.slice (some ⟨b0, off0, none⟩) h c) ∧ Box W p4 28 (.slice (some ⟨r4, 0, none⟩) h h) ∧ Box W p5 28 (.slice (some ⟨r5, 0, none⟩) m m)
        ∧ W.ownsRow W0.heap.size 3 1 (.slice (some ⟨r4, 0, none⟩) h h) h (rowOf h fun i => psum (rowPart (get 0 t) i) pre) ∧ W.ownsRow W0.heap.size 3 1 (.slice (some ⟨r5, 0, none⟩) m m) m (rowOf m fun j => psum (colPart (get 0 t) j) pre))
      (fun _ _ _ => False) (fun pre A B hs k => ⟨hs.1.cel k, hs.2.1.cel k, hs.2.2.1.cel k, k.owns hs.2.2.2.1, k.owns hs.2.2.2.2⟩) (fun _ _ _ _ hs _ => hs.elim)
      ⟨bB2, b42, b52, O42, O52⟩
      ?round ?done ?stop
    case round =>
      clear bB2 b42 b52 O42 O52 hcI
      intro l x W K hK
      have HK := Lib.hid hK; clear hK
      gi_wp2_with fail
      refine HK.out _ ?_
      clear HK K
      rintro l' pre W' ⟨b1, b2, b3, o1, o2⟩ hE hlt
      obtain ⟨⟨i, j⟩, hi, hj⟩ := x
      dsimp only at hi hj ⊢
      obtain ⟨tb, tf, tb2, tf2, tk, ea, ct1, ct2⟩ := (HT.out.ext hE).atC 0 HR.out hi hj
      cases ea
      have hx := HB.out i j hi hj
      have hn : pre.length < 16 := by
        have h2 : h * m ≤ 4 * 4 := Nat.mul_le_mul (by omega) (by omega)
        omega
      have hrb := psum_bound (g := rowPart (get 0 t) i) (B := 1000000) (fun k l hk hl => by have := HB.out k l hk hl; unfold rowPart; split <;> omega) pre
      have hcb := psum_bound (g := colPart (get 0 t) j) (B := 1000000) (fun k l hk hl => by have := HB.out k l hk hl; unfold colPart; split <;> omega) pre
      have cr := World.ownsRow.cellAt o1 i (by simpa using hi)
      rw [rowOf_at _ hi] at cr
      have fr := World.ownsRow.frozenAt o1 i
      have cc := World.ownsRow.cellAt o2 j (by simpa using hj)
      rw [rowOf_at _ hj] at cc
      have fc := World.ownsRow.frozenAt o2 j
      obtain ⟨y, hy⟩ : ∃ y, get 0 t i j = y := ⟨_, rfl⟩
      obtain ⟨u, hu⟩ : ∃ u, psum (rowPart (get 0 t) i) pre = u := ⟨_, rfl⟩
      obtain ⟨v, hv⟩ : ∃ v, psum (colPart (get 0 t) j) pre = v := ⟨_, rfl⟩
      have hrow : ∀ k, k < h → psum (rowPart (get 0 t) k) (pre ++ [⟨(i, j), hi, hj⟩]) = if k = i then u + y else psum (rowPart (get 0 t) k) pre := fun k _ => by
        rw [psum_app, psum_one]
        unfold rowPart
        by_cases e : k = i
        · subst e; rw [if_pos rfl, if_pos rfl, ← hu, ← hy]; rfl
        · rw [if_neg e, if_neg (fun x => e x.symm), Int.add_zero]
      have hcol : ∀ k, k < m → psum (colPart (get 0 t) k) (pre ++ [⟨(i, j), hi, hj⟩]) = if k = j then v + y else psum (colPart (get 0 t) k) pre := fun k _ => by
        rw [psum_app, psum_one]
        unfold colPart
        by_cases e : k = j
        · subst e; rw [if_pos rfl, if_pos rfl, ← hv, ← hy]; rfl
        · rw [if_neg e, if_neg (fun x => e x.symm), Int.add_zero]
      have s1 := (World.ownsRow.stored o1 i (encI (u + y))).1
      rw [rowOf_set _ _ _ hrow] at s1
      have s2 := (World.ownsRow.stored (owns_other o2 ⟨r4, i, none⟩ (encI (u + y)) (fun g hg e => by cases hg; exact nrc e.symm)) j (encI (v + y))).1
      rw [rowOf_set _ _ _ hcol] at s2
      have s3 := owns_other s1 ⟨r5, j, none⟩ (encI (v + y)) (fun g hg e => by cases hg; exact nrc e)
      have g1 := b1.other ⟨r4, i, none⟩ (encI (u + y)) (by show r4 ≠ _; omega)
      have g2 := b2.other ⟨r4, i, none⟩ (encI (u + y)) (by show r4 ≠ _; omega)
      have g3 := b3.other ⟨r4, i, none⟩ (encI (u + y)) (by show r4 ≠ _; omega)
      have gE : Ext w (W'.setCell ⟨r4, i, none⟩ (encI (u + y))) := hE.setCell (p := ⟨r4, i, none⟩) (by show w.heap.size ≤ r4; omega) _
      have g4 := owns_other o2 ⟨r4, i, none⟩ (encI (u + y)) (fun g hg e => by cases hg; exact nrc e.symm)
      rw [hu] at cr hrb
      rw [hv] at cc hcb
      rw [hy] at ct2 hx
      have HU := Lib.hid hu; have HV := Lib.hid hv; have HY := Lib.hid hy
      have S2 := Lib.hid s2; have S3 := Lib.hid s3; have G1 := Lib.hid g1; have G2 := Lib.hid g2; have G3 := Lib.hid g3; have GE := Lib.hid gE; have G4 := Lib.hid g4
      have B1 := Lib.hid b1; have B2 := Lib.hid b2; have B3 := Lib.hid b3; have O1 := Lib.hid o1; have O2 := Lib.hid o2
      have cb1 := b1.cell
      have cb2 := b2.cell
      have hih : (i : Int) < (h : Int) := by omega
      have hjm : (j : Int) < (m : Int) := by omega
      obtain ⟨hx0, hx1⟩ := hx
      obtain ⟨hrb0, hrb1⟩ := hrb
      obtain ⟨hcb0, hcb1⟩ := hcb
      clear s1 s2 s3 g1 g2 g3 g4 gE hrow hcol hu hv hy b1 b2 b3 o1 o2
      unfold encI at cr cc ct2
      gi_wp2_with fail
      refine wpR_still_tail 13 (by kernel_rfl) (by kernel_rfl) (by kernel_rfl) ?_
      simp only [List.take_succ_cons, List.take_zero, List.drop_succ_cons, List.drop_zero]
      repeat still_step
      refine wpStill_nil ?_
      go_wp2_with fail
      refine noOut_normal ?_
      have hst : Stp w.heap.size W2.heap.size W' (W'.setCell ⟨r4, i, none⟩ (.int .i64 (u + y))).drew := ((Stp.refl _ _ W').setCell (p := ⟨r4, i, none⟩) (by show w.heap.size ≤ r4; omega) _).drew
      have f1 := G1.out.ext ((Ext.refl _).drew)
      have f2 := G2.out.ext ((Ext.refl _).drew)
      have f3 := G3.out.ext ((Ext.refl _).drew)
      have f4 := owns_ext G4.out ((Ext.refl _).drew)
      have fE := GE.out.drew
      unfold encI at f1 f2 f3 f4 fE
      obtain ⟨X, hX⟩ : ∃ X, (W'.setCell ⟨r4, i, none⟩ (.int .i64 (u + y))).drew = X := ⟨_, rfl⟩
      rw [hX] at hst f1 f2 f3 f4 fE ⊢
      obtain ⟨_, _, _, _, _, ea, ct1', ct2'⟩ := (HT.out.ext fE).atC 0 HR.out hi hj
      cases ea
      rw [HY.out] at ct2'
      have cc' := World.ownsRow.cellAt f4 j (by simpa using hj)
      rw [rowOf_at _ hj, HV.out] at cc'
      have fc' := World.ownsRow.frozenAt f4 j
      have c1' := f1.cell
      have c3' := f3.cell
      unfold encI at ct2' cc'
      have hS3 : X.ownsRow W0.heap.size 3 1 (.slice (some ⟨r5, 0, none⟩) m m) m (rowOf m fun j => psum (colPart (get 0 t) j) pre) := f4
      have hS1 : (X.setCell ⟨r5, j, none⟩ (.int .i64 (v + y))).ownsRow W0.heap.size 3 1 (.slice (some ⟨r5, 0, none⟩) m m) m (rowOf m fun j' => psum (colPart (get 0 t) j') (pre ++ [⟨(i, j), hi, hj⟩])) := by
        have := owns_ext S2.out ((Ext.refl _).drew)
        unfold encI at this
        rw [← hX, ← World.setCell_drew]
        exact this
      have hS2 : (X.setCell ⟨r5, j, none⟩ (.int .i64 (v + y))).ownsRow W0.heap.size 3 1 (.slice (some ⟨r4, 0, none⟩) h h) h (rowOf h fun i' => psum (rowPart (get 0 t) i') (pre ++ [⟨(i, j), hi, hj⟩])) := by
        have := owns_ext S3.out ((Ext.refl _).drew)
        unfold encI at this
        rw [← hX, ← World.setCell_drew]
        exact this
      have F1 := Lib.hid f1; have F2 := Lib.hid f2; have F3 := Lib.hid f3
      have HS1 := Lib.hid hS1; have HS2 := Lib.hid hS2
      clear f1 f2 f3 f4 hS1 hS2 hS3 hX cb1 cb2 cc fc cr fr ct1 ct2
      gi_wp2_with fail
      refine wpR_still_tail 13 (by kernel_rfl) (by kernel_rfl) (by kernel_rfl) ?_
      simp only [List.take_succ_cons, List.take_zero, List.drop_succ_cons, List.drop_zero]
      repeat still_step
      refine wpStill_nil ?_
      go_wp2_with fail
      refine noOut_normal ?_
      gi_wp2_with fail
      have hst' := (hst.setCell (p := ⟨r5, j, none⟩) (by show w.heap.size ≤ r5; omega) (.int .i64 (v + y))).drew
      refine ⟨hst'.from_, hst'.below, ⟨?_, ?_, ?_, ?_, ?_⟩, (fE.setCell (p := ⟨r5, j, none⟩) (by show w.heap.size ≤ r5; omega) _).drew⟩
      · exact (F1.out.other ⟨r5, j, none⟩ _ (by show r5 ≠ _; omega)).ext ((Ext.refl _).drew)
      · exact (F2.out.other ⟨r5, j, none⟩ _ (by show r5 ≠ _; omega)).ext ((Ext.refl _).drew)
      · exact (F3.out.other ⟨r5, j, none⟩ _ (by show r5 ≠ _; omega)).ext ((Ext.refl _).drew)
      · exact owns_ext HS2.out ((Ext.refl _).drew)
      · exact owns_ext HS1.out ((Ext.refl _).drew)
    case done =>
      rintro D W hD ⟨b1, b2, b3, o1, o2⟩ hE hK
      rw [rowOf_congr (G := fun i => sumN m (get 0 t i)) (fun i hi => rowPart_all _ hi)] at o1
      rw [rowOf_congr (G := fun j => sumN h (fun i => get 0 t i j)) (fun j hj => colPart_all _ hj)] at o2
      have c2 := b2.cell
      have c3 := b3.cell
      have O1 := Lib.hid o1; have O2 := Lib.hid o2
      clear o1 o2
      gi_wp2_with fail
      gi_region
      gi_wp2_with fail
      have hDw : w.heap.size ≤ D := by have := ew2.size; omega
      have hK2 : W.drew.heap[D]? = some (.deferred (some [])) := hK
      exact leaveD2 hK2 rfl ⟨_, _, rfl, owns_base ((Cel.taken hK2 _).owns (owns_ext O1.out ((Ext.refl _).drew))) hWw, owns_base ((Cel.taken hK2 _).owns (owns_ext O2.out ((Ext.refl _).drew))) hWw, hE.drew.taken hDw _⟩
    case stop =>
      intro D c pre W _ h _ _
      exact h.elim
end Go.Proofs.Ytelcdjbbcffliaa

/- Totals. -/
namespace Go.Proofs.Ytelcdjbbcffliaa
open Go.RowKit Go.DC Go.Shelf
attribute [local go_sem] Oper.semAt_some
def totT (t : List (List Int)) : Int := sumN t.length (fun i => sumN (wide t) (get 0 t i))
def totalOf (t : List (List Int)) : Int := if tabOk t then totT t else -1
theorem rowOf_eq (h : Nat) (F : Nat → Int) : rowOf h F = ((List.range h).map F).map encI := by simp [rowOf]
set_option maxHeartbeats 1000000 in
theorem total_any (a : Option Addr) (c h B : Nat) (F : Nat → Int) (w : World) (hr : w.ownsRow B 3 1 (.slice a h c) h (rowOf h F)) (hh : h ≤ 8) (hb : ∀ i, i < h → -100000000 ≤ F i ∧ F i ≤ 100000000) :
    Calls Try.prog 64 #[.slice a h c] w fun e w' => e = .returned (.int .i64 (sumN h F)) ∧ w = w' := by
  have HR := Lib.hid hr; clear hr
  have HB := Lib.hid hb; clear hb
  have hbd : ∀ k, k ≤ h → -(100000000 * (k : Int)) ≤ sumN k F ∧ sumN k F ≤ 100000000 * (k : Int) := fun k => by
    induction k with
    | zero => intro _; simp [sumN]
    | succ k ih =>
      intro hk
      have h1 := ih (by omega)
      have h2 := HB.out k (by omega)
      simp only [sumN]
      omega
  have HBD := Lib.hid hbd; clear hbd
  go_enter Try.func64, Try.ntmps64
  go_wp2_with fail
  go_loop [3, 8] (fun s i => ∃ k : Nat, k ≤ h ∧ i = .int .i64 k ∧ s = .int .i64 (sumN k F)) (fun _ i => h - (intOf i).toNat)
  case atStart => exact ⟨0, Nat.zero_le _, rfl, rfl⟩
  case round =>
    obtain ⟨k, hk, rfl, rfl⟩ := hrel
    by_cases hlt : k < h
    · have hz : (k : Int) < (h : Int) := by omega
      obtain ⟨a', c', e', _, hx⟩ := owns_cells HR.out
      cases e'
      obtain ⟨g, rfl, _, hc, _⟩ := hx k _ (rowOf_at F hlt)
      have h1 := HBD.out k (by omega)
      have h2 := HB.out k hlt
      obtain ⟨y, hy⟩ : ∃ y, F k = y := ⟨_, rfl⟩
      obtain ⟨u, hu⟩ : ∃ u, sumN k F = u := ⟨_, rfl⟩
      rw [hy] at hc h2
      rw [hu] at h1 ⊢
      have hs : sumN (k + 1) F = u + y := by rw [sumN, hy, hu]
      have HS := Lib.hid hs; clear hs hy hu hx
      obtain ⟨h10, h11⟩ := h1
      obtain ⟨h20, h21⟩ := h2
      have hk8 : (k : Int) ≤ 8 := by omega
      unfold encI at hc
      go_wp2_with fail
      go_round
      case rel => exact ⟨k + 1, by omega, by go_num, by rw [HS.out]⟩
      case measure => simp [intOf]; omega
    · have hz : ¬ (k : Int) < (h : Int) := by omega
      have hkh : k = h := by omega
      have HK := Lib.hid hkh; clear hkh
      go_wp2_with fail
      go_ret
      exact ⟨by rw [HK.out]; rfl, rfl⟩
theorem sum_bd {n : Nat} {F : Nat → Int} {B : Int} (h : ∀ i, i < n → -B ≤ F i ∧ F i ≤ B) : ∀ k, k ≤ n → -(B * (k : Int)) ≤ sumN k F ∧ sumN k F ≤ B * (k : Int)
  | 0, _ => by simp [sumN]
  | k + 1, hk => by
    have h1 := sum_bd h k (by omega)
    have h2 := h k (by omega)
    rw [sumN, Int.natCast_succ, Int.mul_add]
    omega
/-- What is needed of a valid table. -/
theorem tabOk_bd {t : List (List Int)} (h : tabOk t = true) : ∀ i j, i < t.length → j < wide t → -1000000 ≤ get 0 t i j ∧ get 0 t i j ≤ 1000000 := fun i j hi hj => by
  have := (tabOk_rect h).2.2.2.2.2 i j hi hj
  omega
theorem rowsum_bd {t : List (List Int)} (h : tabOk t = true) : ∀ i, i < t.length → 0 ≤ sumN (wide t) (get 0 t i) ∧ sumN (wide t) (get 0 t i) ≤ 396 := fun i hi => by
  obtain ⟨_, _, h4, _, m4, hc⟩ := tabOk_rect h
  have h1 := sum_bd (n := wide t) (F := get 0 t i) (B := 99) (fun j hj => by have := hc i j hi hj; omega) (wide t) (Nat.le_refl _)
  have h2 := sumN_nonneg (n := wide t) (f := get 0 t i) (fun j hj => (hc i j hi hj).1)
  omega
set_option maxHeartbeats 1000000 in
theorem TableTotal_any (a : Option Addr) (c : Nat) (t : List (List Int)) (w : World) (ht : IRows w a t) (hm : t.length ≤ 9223372036854775807) :
    Calls Try.prog 37 #[.slice a t.length c] w (Ret (.int .i64 (totalOf t)) w) := by
  have HT := Lib.hid ht; clear ht
  go_enter Try.func37, Try.ntmps37
  go_wp2_with fail
  refine (TableValid_any _ _ t _ HT.out hm).mono ?_
  rintro e w' ⟨rfl, rfl⟩
  cases o1 : tabOk t
  · have hd : totalOf t = -1 := by simp [totalOf, o1]
    have HD := Lib.hid hd; clear hd o1
    go_wp2_with fail
    go_ret
    exact ⟨by rw [HD.out]; rfl, Ext.refl _⟩
  have O1 := Lib.hid o1; clear o1
  obtain ⟨r, h1, h4, m1, m4, _⟩ := tabOk_rect O1.out
  have R := Lib.hid r; clear r
  go_wp2_with fail
  refine (sumsOf_any _ _ t.length (wide t) t _ HT.out R.out h1 h4 m1 m4 (tabOk_bd O1.out)).mono ?_
  rintro e w1 ⟨v1, v2, rfl, o1, o2, e1⟩
  obtain ⟨a1, c1, hv, _, _⟩ := owns_cells o1
  subst hv
  have OO := Lib.hid o1; clear o1 o2
  go_wp2_with fail
  refine (total_any _ _ t.length _ (fun i => sumN (wide t) (get 0 t i)) _ OO.out (by omega) (fun i hi => by have := rowsum_bd O1.out i hi; omega)).mono ?_
  rintro e w' ⟨rfl, rfl⟩
  go_wp2_with fail
  go_ret
  exact ⟨by unfold totalOf; rw [O1.out]; rfl, e1⟩
def SumsRet (t : List (List Int)) (w : World) (e : Ending) (w' : World) : Prop :=
  ∃ v1 v2, e = .returned (.tuple #[v1, v2, .bool (tabOk t)]) ∧ Ext w w' ∧
    (if tabOk t then w'.ownsRow w.heap.size 3 1 v1 t.length (rowOf t.length fun i => sumN (wide t) (get 0 t i)) ∧ w'.ownsRow w.heap.size 3 1 v2 (wide t) (rowOf (wide t) fun j => sumN t.length (fun i => get 0 t i j)) else v1 = .slice none 0 0 ∧ v2 = .slice none 0 0)
set_option maxHeartbeats 1000000 in
theorem TableSums_any (a : Option Addr) (c : Nat) (t : List (List Int)) (w : World) (ht : IRows w a t) (hm : t.length ≤ 9223372036854775807) :
    Calls Try.prog 28 #[.slice a t.length c] w (SumsRet t w) := by
  have HT := Lib.hid ht; clear ht
  go_enter Try.func28, Try.ntmps28
  go_wp2_with fail
  refine (TableValid_any _ _ t _ HT.out hm).mono ?_
  rintro e w' ⟨rfl, rfl⟩
  cases o1 : tabOk t
  · have O1 := Lib.hid o1; clear o1
    go_wp2_with fail
    go_ret3
    exact ⟨_, _, by rw [O1.out]; rfl, Ext.refl _, by rw [O1.out]; exact ⟨rfl, rfl⟩⟩
  have O1 := Lib.hid o1; clear o1
  obtain ⟨r, h1, h4, m1, m4, _⟩ := tabOk_rect O1.out
  have R := Lib.hid r; clear r
  go_wp2_with fail
  refine (sumsOf_any _ _ t.length (wide t) t _ HT.out R.out h1 h4 m1 m4 (tabOk_bd O1.out)).mono ?_
  rintro e w1 ⟨v1, v2, rfl, o1, o2, e1⟩
  have OO := Lib.hid o1; have OP := Lib.hid o2; clear o1 o2
  go_wp2_with fail
  go_ret3
  exact ⟨_, _, by rw [O1.out]; rfl, e1, by rw [O1.out]; exact ⟨OO.out, OP.out⟩⟩
end Go.Proofs.Ytelcdjbbcffliaa
