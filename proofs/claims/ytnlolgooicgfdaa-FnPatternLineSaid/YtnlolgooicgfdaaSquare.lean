/- The program's step: the cheapest rectangle. -/
import Derived.Test.YtnlolgooicgfdaaStepLaw
import Derived.Test.YtnlolgooicgfdaaSStep
import Derived.Test.YtnlolgooicgfdaaCellsPre
import Derived.Test.YtnlolgooicgfdaaSmall
import Derived.Sort.LoopGhostIn
import Derived.Test.YtnlolgooicgfdaaQuietRound
namespace Go.Proofs.Ytnlolgooicgfdaa
open Go.RowKit Go.DC Go.Shelf
attribute [local go_sem] Oper.semAt_some
/-- What is held after some cells. -/
def bestL {h m : Nat} (f : Nat → Nat → Int) (b : Nat → Nat → Bool) (i j : Nat) (pre : List (Cell h m)) : Option (Nat × Nat) := pre.foldl (fun st x => bestStep f b i j x.1.1 x.1.2 st) none
theorem bestL_app {h m : Nat} (f : Nat → Nat → Int) (b : Nat → Nat → Bool) (i j : Nat) (pre : List (Cell h m)) (x : Cell h m) : bestL f b i j (pre ++ [x]) = bestStep f b i j x.1.1 x.1.2 (bestL f b i j pre) := by
  unfold bestL; rw [List.foldl_append]; rfl
theorem bestL_row {h m k : Nat} (f : Nat → Nat → Int) (b : Nat → Nat → Bool) (i j : Nat) (hk : k < h) (st : Option (Nat × Nat)) : ∀ (l : Nat) (hl : l ≤ m), (rowCells h m k l hk hl).foldl (fun st x => bestStep f b i j x.1.1 x.1.2 st) st = bestR f b i j k st l
  | 0, _ => rfl
  | l + 1, hl => by rw [rowCells_succ, List.foldl_append, bestL_row f b i j hk st l (by omega)]; rfl
theorem bestL_first {h m : Nat} (f : Nat → Nat → Int) (b : Nat → Nat → Bool) (i j : Nat) : ∀ (k : Nat) (hk : k ≤ h), bestL f b i j (firstCells h m k hk) = bestN f b i j m k
  | 0, _ => rfl
  | k + 1, hk => by
    have ih := bestL_first (h := h) (m := m) f b i j k (Nat.le_of_succ_le hk)
    unfold bestL at *
    rw [firstCells, List.foldl_append, ih, bestL_row]
    rfl
theorem bestL_all {h m : Nat} (f : Nat → Nat → Int) (b : Nat → Nat → Bool) (i j : Nat) : bestL f b i j (allCells h m) = bestN f b i j m h := bestL_first f b i j h _
theorem bestL_held {h m : Nat} (f : Nat → Nat → Int) (b : Nat → Nat → Bool) (i j : Nat) (pre : List (Cell h m)) : Held h m b i j (bestL f b i j pre) := by
  have : ∀ (pre : List (Cell h m)) st, Held h m b i j st → Held h m b i j (pre.foldl (fun st x => bestStep f b i j x.1.1 x.1.2 st) st) := by
    intro pre
    induction pre with
    | nil => exact fun st h => h
    | cons x pre ih => exact fun st hst => ih _ (hst.step x.2.1 x.2.2)
  exact this pre none (fun r c e => by cases e)
/-- What the program holds: the sum, the row, the column. -/
def leastV (f : Nat → Nat → Int) (b : Nat → Nat → Bool) (i j : Nat) : Option (Nat × Nat) → Int
  | none => -1
  | some x => sum4 f b i j x.1 x.2
def rowV : Option (Nat × Nat) → Int
  | none => 0
  | some x => (x.1 : Nat)
def colV : Option (Nat × Nat) → Int
  | none => 0
  | some x => (x.2 : Nat)
/-- Seven new boxes. -/
structure Box7 (W : World) (n : Nat) (T1 T2 T3 : TypeId) (u1 u2 u3 u4 u5 u6 u7 : Value) : Prop where
  b1 : Box W n T1 u1
  b2 : Box W (n + 1) T2 u2
  b3 : Box W (n + 2) T3 u3
  b4 : Box W (n + 3) T3 u4
  b5 : Box W (n + 4) T3 u5
  b6 : Box W (n + 5) T3 u6
  b7 : Box W (n + 6) T3 u7
theorem Box7.ext {W W' : World} {n : Nat} {T1 T2 T3 : TypeId} {u1 u2 u3 u4 u5 u6 u7 : Value} (h : Box7 W n T1 T2 T3 u1 u2 u3 u4 u5 u6 u7) (e : Ext W W') : Box7 W' n T1 T2 T3 u1 u2 u3 u4 u5 u6 u7 :=
  ⟨h.b1.ext e, h.b2.ext e, h.b3.ext e, h.b4.ext e, h.b5.ext e, h.b6.ext e, h.b7.ext e⟩
theorem Box7.cel {W W' : World} {n : Nat} {T1 T2 T3 : TypeId} {u1 u2 u3 u4 u5 u6 u7 : Value} (h : Box7 W n T1 T2 T3 u1 u2 u3 u4 u5 u6 u7) (e : Cel W W') : Box7 W' n T1 T2 T3 u1 u2 u3 u4 u5 u6 u7 :=
  ⟨h.b1.cel e, h.b2.cel e, h.b3.cel e, h.b4.cel e, h.b5.cel e, h.b6.cel e, h.b7.cel e⟩
theorem box7 (w : World) (T1 T2 T3 : TypeId) (u1 u2 u3 u4 u5 u6 u7 : Value) :
    Box7 (((((((w.alloc (.cells #[u1] T1)).alloc (.cells #[u2] T2)).alloc (.cells #[u3] T3)).alloc (.cells #[u4] T3)).alloc (.cells #[u5] T3)).alloc (.cells #[u6] T3)).alloc (.cells #[u7] T3)) w.heap.size T1 T2 T3 u1 u2 u3 u4 u5 u6 u7 := by
  have al : ∀ (W : World) (o : Obj), Ext W (W.alloc o) := fun W o => (Ext.refl W).alloc o
  have n1 := Box.new w T1 u1
  obtain ⟨W1, h1⟩ : ∃ W1, w.alloc (.cells #[u1] T1) = W1 := ⟨_, rfl⟩
  have s1 : W1.heap.size = w.heap.size + 1 := by rw [← h1]; simp
  rw [h1] at n1 ⊢
  have n2 := Box.new W1 T2 u2
  have m1 := n1.ext (al W1 (.cells #[u2] T2))
  rw [s1] at n2
  obtain ⟨W2, h2⟩ : ∃ W2, W1.alloc (.cells #[u2] T2) = W2 := ⟨_, rfl⟩
  have s2 : W2.heap.size = w.heap.size + 2 := by rw [← h2]; simp [s1]
  rw [h2] at n2 m1 ⊢
  have n3 := Box.new W2 T3 u3
  have m1 := m1.ext (al W2 (.cells #[u3] T3)); have m2 := n2.ext (al W2 (.cells #[u3] T3))
  rw [s2] at n3
  obtain ⟨W3, h3⟩ : ∃ W3, W2.alloc (.cells #[u3] T3) = W3 := ⟨_, rfl⟩
  have s3 : W3.heap.size = w.heap.size + 3 := by rw [← h3]; simp [s2]
  rw [h3] at n3 m1 m2 ⊢
  have n4 := Box.new W3 T3 u4
  have e4 := al W3 (.cells #[u4] T3)
  have m1 := m1.ext e4; have m2 := m2.ext e4; have m3 := n3.ext e4
  rw [s3] at n4
  obtain ⟨W4, h4⟩ : ∃ W4, W3.alloc (.cells #[u4] T3) = W4 := ⟨_, rfl⟩
  have s4 : W4.heap.size = w.heap.size + 4 := by rw [← h4]; simp [s3]
  rw [h4] at n4 m1 m2 m3 ⊢
  have n5 := Box.new W4 T3 u5
  have e5 := al W4 (.cells #[u5] T3)
  have m1 := m1.ext e5; have m2 := m2.ext e5; have m3 := m3.ext e5; have m4 := n4.ext e5
  rw [s4] at n5
  obtain ⟨W5, h5⟩ : ∃ W5, W4.alloc (.cells #[u5] T3) = W5 := ⟨_, rfl⟩
  have s5 : W5.heap.size = w.heap.size + 5 := by rw [← h5]; simp [s4]
  rw [h5] at n5 m1 m2 m3 m4 ⊢
  have n6 := Box.new W5 T3 u6
  have e6 := al W5 (.cells #[u6] T3)
  have m1 := m1.ext e6; have m2 := m2.ext e6; have m3 := m3.ext e6; have m4 := m4.ext e6; have m5 := n5.ext e6
  rw [s5] at n6
  obtain ⟨W6, h6⟩ : ∃ W6, W5.alloc (.cells #[u6] T3) = W6 := ⟨_, rfl⟩
  have s6 : W6.heap.size = w.heap.size + 6 := by rw [← h6]; simp [s5]
  rw [h6] at n6 m1 m2 m3 m4 m5 ⊢
  have n7 := Box.new W6 T3 u7
  have e7 := al W6 (.cells #[u7] T3)
  rw [s6] at n7
  exact ⟨m1.ext e7, m2.ext e7, m3.ext e7, m4.ext e7, m5.ext e7, n6.ext e7, n7⟩
/-- The mask after q of the four stores. -/
def setQ (b : Nat → Nat → Bool) (i j r c : Nat) : Nat → Nat → Nat → Bool
  | 0 => b
  | q + 1 => upd (setQ b i j r c q) (rowQ i r q) (colQ j c q) true
theorem setQ_four (b : Nat → Nat → Bool) (i j r c : Nat) : setQ b i j r c 4 = set4 b i j r c := set4_upd b i j r c
/-- What the search for a rectangle hands back. -/
def SqOut (n m : Nat) (r : Option (Nat → Nat → Bool)) (w : World) (e : Ending) (w' : World) : Prop :=
  ∃ v vs, e = .returned (.tuple #[v, .bool (Option.isSome r)]) ∧ OwnB w' w.heap.size v vs (match r with | some b' => tabOf n m b' | none => []) ∧ Ext w w'
set_option maxRecDepth 100000 in
set_option maxHeartbeats 4000000 in
theorem square_tab (a mb : Option Addr) (c d n m i j : Nat) (f : Nat → Nat → Int) (b : Nat → Nat → Bool) (w : World) (ht : IRows w a (tabOf n m f)) (hmk : BRows w mb (tabOf n m b)) (hf : InT n m f) (hi : i < n) (hj : j < m) :
    Calls Try.prog 53 #[.slice a n c, .slice mb n d, .int .i64 i, .int .i64 j] w (SqOut n m ((bestN f b i j m n).map fun x => set4 b i j x.1 x.2) w) := by
  have HT := Lib.hid ht; clear ht
  have HM := Lib.hid hmk; clear hmk
  have HF := Lib.hid hf
  obtain ⟨⟨hn1, hn4⟩, hm1, hm4⟩ : (1 ≤ n ∧ n ≤ 4) ∧ 1 ≤ m ∧ m ≤ 4 := ⟨⟨hf.1.1, hf.1.2.1⟩, hf.1.2.2⟩
  clear hf
  refine (callsIn_wide (n := 9)).1 ?_
  refine callsIn_of_wp_marks Try.func53 rfl trivial ?_ rfl
  simp only [Try.ntmps53, List.size_toArray, List.length_cons, List.length_nil, Nat.reduceAdd, Nat.reduceSub, Array.replicate_succ, Array.replicate_zero, List.push_toArray, List.append_toArray, List.nil_append, List.cons_append]
  gi_wp2_with fail
  have e0 : Ext w (((((((w.alloc (.cells #[.slice a n c] 23)).alloc (.cells #[.slice mb n d] 24)).alloc (.cells #[.int .i64 i] 3)).alloc (.cells #[.int .i64 j] 3)).alloc (.cells #[.int .i64 (-1)] 3)).alloc (.cells #[.int .i64 0] 3)).alloc (.cells #[.int .i64 0] 3)) := (((((((Ext.refl w).alloc _).alloc _).alloc _).alloc _).alloc _).alloc _).alloc _
  have b0 := box7 w 23 24 3 (.slice a n c) (.slice mb n d) (.int .i64 i) (.int .i64 j) (.int .i64 (-1)) (.int .i64 0) (.int .i64 0)
  obtain ⟨W0, hW0⟩ : ∃ W0, ((((((w.alloc (.cells #[.slice a n c] 23)).alloc (.cells #[.slice mb n d] 24)).alloc (.cells #[.int .i64 i] 3)).alloc (.cells #[.int .i64 j] 3)).alloc (.cells #[.int .i64 (-1)] 3)).alloc (.cells #[.int .i64 0] 3)).alloc (.cells #[.int .i64 0] 3) = W0 := ⟨_, rfl⟩
  have hs0 : W0.heap.size = w.heap.size + 7 := by rw [← hW0]; simp
  rw [hW0] at e0 b0
  try rw [hW0]
  clear hW0
  obtain ⟨p6, h6⟩ : ∃ q, w.heap.size + 1 + 1 + 1 + 1 + 1 + 1 = q := ⟨_, rfl⟩
  rw [h6]
  obtain ⟨p5, h5⟩ : ∃ q, w.heap.size + 1 + 1 + 1 + 1 + 1 = q := ⟨_, rfl⟩
  rw [h5]
  obtain ⟨p4, h4⟩ : ∃ q, w.heap.size + 1 + 1 + 1 + 1 = q := ⟨_, rfl⟩
  rw [h4]
  obtain ⟨p3, h3⟩ : ∃ q, w.heap.size + 1 + 1 + 1 = q := ⟨_, rfl⟩
  rw [h3]
  obtain ⟨p2, h2⟩ : ∃ q, w.heap.size + 1 + 1 = q := ⟨_, rfl⟩
  rw [h2]
  obtain ⟨p1, h1⟩ : ∃ q, w.heap.size + 1 = q := ⟨_, rfl⟩
  rw [h1]
  obtain ⟨p0, h0⟩ : ∃ q, w.heap.size = q := ⟨_, rfl⟩
  have d0 : Box W0 p0 23 (.slice a n c) := by rw [← h0]; exact b0.b1
  have d1 : Box W0 p1 24 (.slice mb n d) := by rw [← h1]; exact b0.b2
  have d2 : Box W0 p2 3 (.int .i64 i) := by rw [← h2]; exact b0.b3
  have d3 : Box W0 p3 3 (.int .i64 j) := by rw [← h3]; exact b0.b4
  have d4 : Box W0 p4 3 (.int .i64 (-1)) := by rw [← h4]; exact b0.b5
  have d5 : Box W0 p5 3 (.int .i64 0) := by rw [← h5]; exact b0.b6
  have d6 : Box W0 p6 3 (.int .i64 0) := by rw [← h6]; exact b0.b7
  rw [h0]
  have hws : p0 = w.heap.size := h0.symm
  have hp1 : p1 = p0 + 1 := by omega
  have hp2 : p2 = p0 + 2 := by omega
  have hp3 : p3 = p0 + 3 := by omega
  have hp4 : p4 = p0 + 4 := by omega
  have hp5 : p5 = p0 + 5 := by omega
  have hp6 : p6 = p0 + 6 := by omega
  have hp7 : W0.heap.size = p0 + 7 := by omega
  clear h0 h1 h2 h3 h4 h5 h6 hs0 b0
  refine ⟨trivial, (cellsOf_in Fence.wide _ (wide_fn _) rfl _ _ _ _).mono ?_⟩
  rintro e w2 ⟨rfl, rfl⟩
  have x2 : Ext W0 (W0.alloc (.cells #[.slice a n c] 23)) := (Ext.refl W0).alloc _
  have bI := Box.new W0 23 (.slice a n c)
  have d0 := d0.ext x2; have d1 := d1.ext x2; have d2 := d2.ext x2; have d3 := d3.ext x2; have d4 := d4.ext x2; have d5 := d5.ext x2; have d6 := d6.ext x2
  have e2 := e0.trans x2
  have hs2 : (W0.alloc (.cells #[.slice a n c] 23)).heap.size = p0 + 8 := by simp [hp7]
  obtain ⟨W2, hW2⟩ : ∃ W2, W0.alloc (.cells #[.slice a n c] 23) = W2 := ⟨_, rfl⟩
  rw [hW2] at bI d0 d1 d2 d3 d4 d5 d6 e2 hs2 ⊢
  obtain ⟨p7, hp7'⟩ : ∃ q, W0.heap.size = q := ⟨_, rfl⟩
  rw [hp7'] at bI ⊢
  have hcI := bI.cell
  have hI0 : (tabOf n m f).length = n := tabOf_length _ _ _
  have HP : Hid (p0 = w.heap.size ∧ p1 = p0 + 1 ∧ p2 = p0 + 2 ∧ p3 = p0 + 3 ∧ p4 = p0 + 4 ∧ p5 = p0 + 5 ∧ p6 = p0 + 6 ∧ p7 = p0 + 7 ∧ W2.heap.size = p0 + 8) := ⟨hws, hp1, hp2, hp3, hp4, hp5, hp6, by omega, hs2⟩
  clear hW2 x2 hp7 e0 hws hp1 hp2 hp3 hp4 hp5 hp6 hs2 hp7'
  gi_wp2_with fail
  refine wpIn_cells (by omega) w p7 n m a c (tabOf n m f) HT.out (rect_tabOf n m f) (by omega) (by omega) rfl e2 (by rw [hI0]; exact hcI) rfl
    (fun pre W => Box W p0 23 (.slice a n c) ∧ Box W p1 24 (.slice mb n d) ∧ Box W p2 3 (.int .i64 i) ∧ Box W p3 3 (.int .i64 j) ∧ Box W p4 3 (.int .i64 (leastV f b i j (bestL f b i j pre))) ∧ Box W p5 3 (.int .i64 (rowV (bestL f b i j pre))) ∧ Box W p6 3 (.int .i64 (colV (bestL f b i j pre))))
    (fun _ _ _ => False) (fun pre A B hs k => ⟨hs.1.cel k, hs.2.1.cel k, hs.2.2.1.cel k, hs.2.2.2.1.cel k, hs.2.2.2.2.1.cel k, hs.2.2.2.2.2.1.cel k, hs.2.2.2.2.2.2.cel k⟩) (fun _ _ _ _ hs _ => hs.elim)
    ⟨d0, d1, d2, d3, d4, d5, d6⟩
    ?round ?done ?stop
  case round =>
    clear d0 d1 d2 d3 d4 d5 d6 hcI bI
    intro l x W K hK
    have HK := Lib.hid hK; clear hK
    gi_wp2_with fail
    refine HK.out _ ?_
    clear HK K
    rintro l' pre W' ⟨b0, b1, b2, b3, b4, b5, b6⟩ hE hlt
    obtain ⟨⟨k, l⟩, hk, hl⟩ := x
    dsimp only at hk hl ⊢
    have hnext := bestL_app f b i j pre (⟨(k, l), hk, hl⟩ : Cell n m)
    have hheld := bestL_held f b i j pre
    obtain ⟨st, hst⟩ : ∃ st, bestL f b i j pre = st := ⟨_, rfl⟩
    rw [hst] at hnext hheld b4 b5 b6
    dsimp only at hnext
    have cb2 := b2.cell; have cb3 := b3.cell
    have B0 := Lib.hid b0; have B1 := Lib.hid b1; have B2 := Lib.hid b2; have B3 := Lib.hid b3; have B4 := Lib.hid b4; have B5 := Lib.hid b5; have B6 := Lib.hid b6; have HEE := Lib.hid hE
    have hsz : w.heap.size ≤ W'.heap.size := hE.size
    have HNX := Lib.hid hnext; have HHE := Lib.hid hheld
    clear b0 b1 b2 b3 b4 b5 b6 hst hnext hheld hE
    by_cases e1 : k = i
    · have hsame : bestStep f b i j k l st = st := bestStep_no1 (by unfold candB; simp [e1])
      have NX := HNX.out.trans hsame
      have NXX := Lib.hid NX
      subst e1
      clear hsame NX
      gi_wp2_with fail
      have hst : Stp w.heap.size W2.heap.size W' W' := Stp.refl _ _ _
      exact ⟨hst.from_, hst.below, ⟨B0.out, B1.out, B2.out, B3.out, by rw [NXX.out]; exact B4.out, by rw [NXX.out]; exact B5.out, by rw [NXX.out]; exact B6.out⟩, HEE.out⟩
    have e1b : ((k : Int) == (i : Int)) = false := by rw [beq_eq_false_iff_ne]; omega
    by_cases e2 : l = j
    · have hsame : bestStep f b i j k l st = st := bestStep_no1 (by unfold candB; simp [e2])
      have NX := HNX.out.trans hsame
      have NXX := Lib.hid NX
      subst e2
      clear hsame NX
      gi_wp2_with fail
      have hst : Stp w.heap.size W2.heap.size W' W' := Stp.refl _ _ _
      exact ⟨hst.from_, hst.below, ⟨B0.out, B1.out, B2.out, B3.out, by rw [NXX.out]; exact B4.out, by rw [NXX.out]; exact B5.out, by rw [NXX.out]; exact B6.out⟩, HEE.out⟩
    have e2b : ((l : Int) == (j : Int)) = false := by rw [beq_eq_false_iff_ne]; omega
    gi_wp2_with fail
    have x3 : Ext W' (W'.alloc (.cells #[.int .i64 i, .int .i64 j, .int .i64 i, .int .i64 l, .int .i64 k, .int .i64 j, .int .i64 k, .int .i64 l] 80)) := (Ext.refl W').alloc _
    have hcells : ∀ q, q < 4 → (W'.alloc (.cells #[.int .i64 i, .int .i64 j, .int .i64 i, .int .i64 l, .int .i64 k, .int .i64 j, .int .i64 k, .int .i64 l] 80)).cell? ⟨W'.heap.size, q * 2, none⟩ = some (.int .i64 (rowQ i k q : Nat)) ∧ (W'.alloc (.cells #[.int .i64 i, .int .i64 j, .int .i64 i, .int .i64 l, .int .i64 k, .int .i64 j, .int .i64 k, .int .i64 l] 80)).cell? ⟨W'.heap.size, q * 2 + 1, none⟩ = some (.int .i64 (colQ j l q : Nat)) := fun q hq => by
      have : q = 0 ∨ q = 1 ∨ q = 2 ∨ q = 3 := by omega
      rcases this with rfl | rfl | rfl | rfl <;> simp [go_sem, rowQ, colQ]
    obtain ⟨W3, hW3⟩ : ∃ W3, W'.alloc (.cells #[.int .i64 i, .int .i64 j, .int .i64 i, .int .i64 l, .int .i64 k, .int .i64 j, .int .i64 k, .int .i64 l] 80) = W3 := ⟨_, rfl⟩
    have hW3s : W3.heap.size = W'.heap.size + 1 := by rw [← hW3]; simp
    rw [hW3] at x3 hcells ⊢
    obtain ⟨p8, hp8⟩ : ∃ q, W'.heap.size = q := ⟨_, rfl⟩
    rw [hp8] at hcells hW3s hsz ⊢
    have HC := Lib.hid hcells; have X3 := Lib.hid x3; have HW3S := Lib.hid hW3s; have HP8 := Lib.hid hp8
    clear hW3 hcells x3 hW3s hp8
    gi_loopg [15, 16, 48] 4 (fun g' s o p wr => ∃ q : Nat, q ≤ 4 ∧ g' = 4 - q ∧ p = .int .i64 q ∧ s = .int .i64 (sumN q (sumC f b i j k l)) ∧ o = .bool (decide (0 < sumN q (manyC b i j k l))) ∧ Ext W3 wr)
    case atStart => exact ⟨0, Nat.zero_le _, rfl, rfl, rfl, rfl, Ext.refl _⟩
    case round =>
      obtain ⟨q, hq, rfl, rfl, rfl, rfl, hext⟩ := hrel
      by_cases hq4 : q < 4
      · have hqz : (q : Int) < 4 := by omega
        obtain ⟨c1, c2⟩ := HC.out q hq4
        have c1 := hext.cell c1; have c2 := hext.cell c2
        obtain ⟨x, hx⟩ : ∃ x, rowQ i k q = x := ⟨_, rfl⟩
        obtain ⟨y, hy⟩ : ∃ y, colQ j l q = y := ⟨_, rfl⟩
        have hxn : x < n := by rw [← hx]; unfold rowQ; split <;> assumption
        have hym : y < m := by rw [← hy]; unfold colQ; split <;> assumption
        rw [hx] at c1
        rw [hy] at c2
        have hs1 : sumN (q + 1) (sumC f b i j k l) = sumN q (sumC f b i j k l) + sumC f b i j k l q := rfl
        have hs2 : sumN (q + 1) (manyC b i j k l) = sumN q (manyC b i j k l) + manyC b i j k l q := rfl
        have hub := part_bd (sumC_bd HF.out b hi hj hk hl) (by omega) q hq
        have hvb := part_bd (manyC_bd b i j k l) (by omega) q hq
        have hc1 : sumC f b i j k l q = if b x y then 0 else f x y := by unfold sumC; rw [hx, hy]
        have hc2 : manyC b i j k l q = if b x y then 0 else 1 := by unfold manyC; rw [hx, hy]
        rw [hc1] at hs1
        rw [hc2] at hs2
        obtain ⟨u, hu⟩ : ∃ u, sumN q (sumC f b i j k l) = u := ⟨_, rfl⟩
        obtain ⟨v, hv⟩ : ∃ v, sumN q (manyC b i j k l) = v := ⟨_, rfl⟩
        rw [hu] at hs1 hub ⊢
        rw [hv] at hs2 hvb ⊢
        have hcl := HF.out.2 x y hxn hym
        obtain ⟨hub0, hub1⟩ := hub
        obtain ⟨hvb0, hvb1⟩ := hvb
        obtain ⟨hcl0, hcl1⟩ := hcl
        have HS1 := Lib.hid hs1; have HS2 := Lib.hid hs2
        clear hs1 hs2 hc1 hc2 hu hv hx hy
        gi_wp2_with fail
        have x4 : Ext wr (wr.alloc (.cells #[.int .i64 x, .int .i64 y] 80)) := (Ext.refl wr).alloc _
        have cx : (wr.alloc (.cells #[.int .i64 x, .int .i64 y] 80)).cell? ⟨wr.heap.size, 0, none⟩ = some (.int .i64 x) := by simp [go_sem]
        have cy : (wr.alloc (.cells #[.int .i64 x, .int .i64 y] 80)).cell? ⟨wr.heap.size, 1, none⟩ = some (.int .i64 y) := by simp [go_sem]
        obtain ⟨W4, hW4⟩ : ∃ W4, wr.alloc (.cells #[.int .i64 x, .int .i64 y] 80) = W4 := ⟨_, rfl⟩
        rw [hW4] at x4 cx cy ⊢
        obtain ⟨p9, hp9⟩ : ∃ q, wr.heap.size = q := ⟨_, rfl⟩
        rw [hp9] at cx cy ⊢
        have hE4 : Ext W3 W4 := hext.trans x4
        have eW : Ext W' W4 := X3.out.trans hE4
        have cb0 := (B0.out.ext eW).cell; have cb1 := (B1.out.ext eW).cell
        obtain ⟨tb, tf, tb2, tf2, tk, rfl, ct1, ct2⟩ := (HT.out.ext (HEE.out.trans eW)).atC 0 (rect_tabOf n m f) hxn hym
        obtain ⟨nb, mf, mb2, mf2, mk2, rfl, cm1, cm2⟩ := (HM.out.ext (HEE.out.trans eW)).atC false (rect_tabOf n m b) hxn hym
        rw [get_tabOf f hxn hym] at ct2
        rw [get_tabOf b hxn hym] at cm2
        have hxz : (x : Int) < (n : Int) := by omega
        have hyz : (y : Int) < (m : Int) := by omega
        have HE4 := Lib.hid hE4
        unfold encI at ct2
        unfold encB at cm2
        clear hW4 hp9 x4 hE4 eW hext c1 c2
        cases hb : b x y with
        | true =>
          rw [hb] at cm2
          have e1' : sumN (q + 1) (sumC f b i j k l) = u := by rw [HS1.out, hb]; simp
          have e2' : sumN (q + 1) (manyC b i j k l) = v := by rw [HS2.out, hb]; simp
          have E1 := Lib.hid e1'; have E2 := Lib.hid e2'
          clear e1' e2' hb
          refine Go.DC.wpIn_region_quiet_litR (by kernel_rfl) (by kernel_rfl) (by kernel_rfl) ?_
          repeat (gi_big_quiet_step (fail))
          refine wpQuietIn_nil ?_
          intro _ hw'
          obtain ⟨nq, hw''⟩ := hw'
          subst hw''
          gi_wp2_with fail
          gi_roundg (4 - (q + 1))
          case measure => omega
          case rel => exact ⟨q + 1, by omega, rfl, by go_num, by rw [E1.out], by rw [E2.out], HE4.out.drewN _⟩
        | false =>
          rw [hb] at cm2
          have e1' : sumN (q + 1) (sumC f b i j k l) = u + f x y := by rw [HS1.out, hb]; simp
          have e2' : sumN (q + 1) (manyC b i j k l) = v + 1 := by rw [HS2.out, hb]; simp
          have hpos : decide (0 < sumN (q + 1) (manyC b i j k l)) = true := by rw [e2']; exact decide_eq_true (by omega)
          have hw1 : IntKind.i64.wrap (u + f x y) = u + f x y := IntWalk.i64_in _ (by omega)
          have E1 := Lib.hid e1'; have E2 := Lib.hid hpos
          clear e1' e2' hb hpos
          refine Go.DC.wpIn_region_quiet_litR (by kernel_rfl) (by kernel_rfl) (by kernel_rfl) ?_
          repeat (gi_big_quiet_step (fail))
          refine wpQuietIn_nil ?_
          intro _ hw'
          obtain ⟨nq, hw''⟩ := hw'
          subst hw''
          gi_wp2_with fail
          refine Go.DC.wpIn_region_quiet_litR (by kernel_rfl) (by kernel_rfl) (by kernel_rfl) ?_
          repeat (gi_big_quiet_step (fail))
          refine wpQuietIn_nil ?_
          intro _ hw'
          obtain ⟨nq, hw''⟩ := hw'
          subst hw''
          gi_wp2_with fail
          gi_roundg (4 - (q + 1))
          case measure => omega
          case rel => exact ⟨q + 1, by omega, rfl, by go_num, by rw [E1.out], by rw [E2.out], HE4.out.drewN _⟩
      · have hqz : ¬ (q : Int) < 4 := by omega
        obtain rfl : q = 4 := by omega
        have eW : Ext W' wr := X3.out.trans hext
        have hcand : candB b i j k l = decide (0 < many4 b i j k l) := by unfold candB; simp [e1, e2]
        have hsum : sumN 4 (sumC f b i j k l) = sum4 f b i j k l := rfl
        have hmany : sumN 4 (manyC b i j k l) = many4 b i j k l := rfl
        rw [hsum, hmany]
        have hub := part_bd (sumC_bd HF.out b hi hj hk hl) (by omega) 4 (Nat.le_refl _)
        rw [hsum] at hub
        obtain ⟨hub0, hub1⟩ := hub
        have hst : Stp w.heap.size W2.heap.size W' wr := Stp.of_ext eW (by have := HP8.out; omega)
        have HST := Lib.hid hst
        have hb4 := B4.out.ext eW; have hb5 := B5.out.ext eW; have hb6 := B6.out.ext eW
        have C0 := Lib.hid (B0.out.ext eW); have C1 := Lib.hid (B1.out.ext eW); have C2 := Lib.hid (B2.out.ext eW); have C3 := Lib.hid (B3.out.ext eW); have C4 := Lib.hid hb4; have C5 := Lib.hid hb5; have C6 := Lib.hid hb6
        have HEW := Lib.hid (HEE.out.trans eW)
        cases hopen : decide (0 < many4 b i j k l) with
        | false =>
          have NX := HNX.out.trans (bestStep_no1 (hcand.trans hopen))
          have NXX := Lib.hid NX
          clear NX hopen hcand hst eW hsum hmany hb4 hb5 hb6
          gi_wp2_with fail
          exact ⟨HST.out.from_, HST.out.below, ⟨C0.out, C1.out, C2.out, C3.out, by rw [NXX.out]; exact C4.out, by rw [NXX.out]; exact C5.out, by rw [NXX.out]; exact C6.out⟩, HEW.out⟩
        | true =>
          obtain ⟨su, hsu⟩ : ∃ su, sum4 f b i j k l = su := ⟨_, rfl⟩
          rw [hsu] at hub0 hub1 ⊢
          have cb4 := hb4.cell; have fb4 := hb4.frozen; have cb5 := hb5.cell; have fb5 := hb5.frozen; have cb6 := hb6.cell; have fb6 := hb6.frozen
          have STORE : Hid (bestStep f b i j k l st = some (k, l) → ∀ W, W = ((wr.setCell ⟨p4, 0, none⟩ (.int .i64 su)).setCell ⟨p5, 0, none⟩ (.int .i64 k)).setCell ⟨p6, 0, none⟩ (.int .i64 l) →
              KeepsFrom W2.heap.size W' W ∧ Below w.heap.size W' W ∧ (Box W p0 23 (.slice a n c) ∧ Box W p1 24 (.slice mb n d) ∧ Box W p2 3 (.int .i64 i) ∧ Box W p3 3 (.int .i64 j) ∧ Box W p4 3 (.int .i64 (leastV f b i j (bestL f b i j (pre ++ [(⟨(k, l), hk, hl⟩ : Cell n m)])))) ∧ Box W p5 3 (.int .i64 (rowV (bestL f b i j (pre ++ [(⟨(k, l), hk, hl⟩ : Cell n m)])))) ∧ Box W p6 3 (.int .i64 (colV (bestL f b i j (pre ++ [(⟨(k, l), hk, hl⟩ : Cell n m)]))))) ∧ Ext w W) := fun hbs W hW => by
            subst hW
            obtain ⟨q0, q1, q2, q3, q4, q5, q6, q7, q8⟩ := HP.out
            have hstp := ((HST.out.setCell (p := ⟨p4, 0, none⟩) (by show w.heap.size ≤ p4; omega) (.int .i64 su)).setCell (p := ⟨p5, 0, none⟩) (by show w.heap.size ≤ p5; omega) (.int .i64 k)).setCell (p := ⟨p6, 0, none⟩) (by show w.heap.size ≤ p6; omega) (.int .i64 l)
            have hext' := ((HEW.out.setCell (p := ⟨p4, 0, none⟩) (by show w.heap.size ≤ p4; omega) (.int .i64 su)).setCell (p := ⟨p5, 0, none⟩) (by show w.heap.size ≤ p5; omega) (.int .i64 k)).setCell (p := ⟨p6, 0, none⟩) (by show w.heap.size ≤ p6; omega) (.int .i64 l)
            have nx : bestL f b i j (pre ++ [(⟨(k, l), hk, hl⟩ : Cell n m)]) = some (k, l) := HNX.out.trans hbs
            rw [nx]
            have oth : ∀ {x : Nat} {T : TypeId} {u : Value}, Box wr x T u → x ≠ p4 → x ≠ p5 → x ≠ p6 → Box (((wr.setCell ⟨p4, 0, none⟩ (.int .i64 su)).setCell ⟨p5, 0, none⟩ (.int .i64 k)).setCell ⟨p6, 0, none⟩ (.int .i64 l)) x T u := fun h h1 h2 h3 =>
              ((h.other ⟨p4, 0, none⟩ _ (fun e => h1 e.symm)).other ⟨p5, 0, none⟩ _ (fun e => h2 e.symm)).other ⟨p6, 0, none⟩ _ (fun e => h3 e.symm)
            refine ⟨hstp.from_, hstp.below, ⟨oth C0.out (by omega) (by omega) (by omega), oth C1.out (by omega) (by omega) (by omega), oth C2.out (by omega) (by omega) (by omega), oth C3.out (by omega) (by omega) (by omega), ?_, ?_, ?_⟩, hext'⟩
            · have := ((C4.out.set (.int .i64 su)).other ⟨p5, 0, none⟩ (.int .i64 k) (by show p5 ≠ p4; omega)).other ⟨p6, 0, none⟩ (.int .i64 l) (by show p6 ≠ p4; omega)
              rw [show leastV f b i j (some (k, l)) = su from hsu]
              exact this
            · exact ((C5.out.other ⟨p4, 0, none⟩ _ (by show p4 ≠ p5; omega)).set _).other ⟨p6, 0, none⟩ _ (by show p6 ≠ p5; omega)
            · exact ((C6.out.other ⟨p4, 0, none⟩ _ (by show p4 ≠ p6; omega)).other ⟨p5, 0, none⟩ _ (by show p5 ≠ p6; omega)).set _
          have hcand1 : candB b i j k l = true := hcand.trans hopen
          clear hopen hcand hst eW hsum hmany hb4 hb5 hb6
          have HHELD := HHE.out
          have n1 : ¬ p4 = p5 := by have := HP.out; omega
          have n2 : ¬ p5 = p4 := by have := HP.out; omega
          have n3 : ¬ p4 = p6 := by have := HP.out; omega
          have n4 : ¬ p6 = p4 := by have := HP.out; omega
          have n5 : ¬ p5 = p6 := by have := HP.out; omega
          have n6 : ¬ p6 = p5 := by have := HP.out; omega
          cases st with
          | none =>
            have hbs := Lib.hid (bestStep_yes (f := f) (st := none) hcand1 rfl)
            have r4 : leastV f b i j none = -1 := rfl
            rw [r4] at cb4
            clear r4 hcand1 HHELD
            gi_wp2_with fail
            exact STORE.out hbs.out _ rfl
          | some rc =>
            obtain ⟨r, cc⟩ := rc
            obtain ⟨hrn, hcm, _⟩ := HHELD r cc rfl
            have r4 : leastV f b i j (some (r, cc)) = sum4 f b i j r cc := rfl
            have hb0 := part_bd (sumC_bd HF.out b hi hj hrn hcm) (by omega) 4 (Nat.le_refl _)
            have hsum : sumN 4 (sumC f b i j r cc) = sum4 f b i j r cc := rfl
            rw [hsum] at hb0
            rw [r4] at cb4
            have hless : lessB f b i j k l (some (r, cc)) = decide (su < sum4 f b i j r cc) := by rw [← hsu]; rfl
            obtain ⟨s0, hs0⟩ : ∃ s0, sum4 f b i j r cc = s0 := ⟨_, rfl⟩
            rw [hs0] at cb4 hb0 hless
            obtain ⟨hb00, hb01⟩ := hb0
            have hn0 : ¬ s0 < 0 := by omega
            have hn0b : decide (s0 < 0) = false := decide_eq_false hn0
            clear r4 hs0 hsum HHELD
            by_cases hlt2 : su < s0
            · have hbs := Lib.hid (bestStep_yes hcand1 (hless.trans (decide_eq_true hlt2)))
              have hlt2b : decide (su < s0) = true := decide_eq_true hlt2
              clear hcand1 hless
              gi_wp2_with fail
              exact STORE.out hbs.out _ rfl
            · have hbs := Lib.hid (HNX.out.trans (bestStep_no2 (hless.trans (decide_eq_false hlt2))))
              have hlt2b : decide (su < s0) = false := decide_eq_false hlt2
              clear hcand1 hless
              gi_wp2_with fail
              exact ⟨HST.out.from_, HST.out.below, ⟨C0.out, C1.out, C2.out, C3.out, by rw [hbs.out]; exact C4.out, by rw [hbs.out]; exact C5.out, by rw [hbs.out]; exact C6.out⟩, HEW.out⟩
  case done =>
    rintro D W hD ⟨b0, b1, b2, b3, b4, b5, b6⟩ hE hK
    rw [bestL_all] at b4 b5 b6
    have hheld := Held.all (f := f) (b := b) (i := i) (j := j) (m := m) n (Nat.le_refl n)
    obtain ⟨st, hst⟩ : ∃ st, bestN f b i j m n = st := ⟨_, rfl⟩
    rw [hst] at b4 b5 b6 hheld
    have HSQ := Lib.hid hst
    clear hst
    have hDw : w.heap.size ≤ D := by have := e2.size; omega
    have cb4 := b4.cell
    clear d0 d1 d2 d3 d4 d5 d6 hcI bI
    cases st with
    | none =>
      have r4 : leastV f b i j none = -1 := rfl
      rw [r4] at cb4
      clear r4 hheld
      gi_wp2_with fail
      exact leaveD2 hK rfl (by rw [HSQ.out]; exact ⟨_, [], rfl, ownB_nil _ _, hE.taken hDw _⟩)
    | some rc =>
      obtain ⟨r, cc⟩ := rc
      obtain ⟨hrn, hcm, _⟩ := hheld r cc rfl
      have r4 : leastV f b i j (some (r, cc)) = sum4 f b i j r cc := rfl
      have hb0 := part_bd (sumC_bd HF.out b hi hj hrn hcm) (by omega) 4 (Nat.le_refl _)
      have hsum : sumN 4 (sumC f b i j r cc) = sum4 f b i j r cc := rfl
      rw [hsum] at hb0
      rw [r4] at cb4
      obtain ⟨s0, hs0⟩ : ∃ s0, sum4 f b i j r cc = s0 := ⟨_, rfl⟩
      rw [hs0] at cb4 hb0
      have hn0 : ¬ s0 < 0 := by omega
      have hn0b : decide (s0 < 0) = false := decide_eq_false hn0
      have cb1 := b1.cell
      have MK : Hid (Calls Try.prog 34 #[.slice mb n d] W (CopyMask n m b W)) := by
        have h := copyTableB_any mb d (tabOf n m b) W (HM.out.ext hE) (by rw [tabOf_length]; omega) (fun q hq => by rw [tabOf_rowlen]; omega)
        rw [tabOf_length] at h
        refine h.mono ?_
        rintro e w' ⟨v, vs, rfl, o, ex⟩
        obtain ⟨p, cp, _, _, ev, _⟩ := o.atC (i := 0) (j := 0) (by omega) (by omega)
        subst ev
        exact ⟨p, cp, vs, rfl, o, ex⟩
      have HK := Lib.hid hK
      have B2 := Lib.hid b2; have B3 := Lib.hid b3; have B5 := Lib.hid b5; have B6 := Lib.hid b6
      clear r4 hheld hs0 hsum b0 b2 b3 b4 b5 b6 hK
      gi_wp2_with fail
      refine ⟨trivial, (callsIn_wide.2 MK.out).mono ?_⟩
      rintro e w4 ⟨o, co, vs, rfl, own, e4⟩
      have cb2 := (B2.out.ext e4).cell; have cb3 := (B3.out.ext e4).cell
      have cb5 : w4.cell? ⟨p5, 0, none⟩ = some (.int .i64 r) := (B5.out.ext e4).cell
      have cb6 : w4.cell? ⟨p6, 0, none⟩ = some (.int .i64 cc) := (B6.out.ext e4).cell
      have OW := Lib.hid own; have E4 := Lib.hid e4
      have hrows : ∀ x, x < n → ∃ g ck, vs[x]? = some (.slice (some ⟨g, 0, none⟩) m ck) ∧ W.heap.size ≤ g ∧ g < w4.heap.size := fun x hx => by
        obtain ⟨_, _, g, ck, ev, _, _, hg, _, hvs, cg, _, _⟩ := own.atC (i := x) (j := 0) hx (by omega)
        exact ⟨g, ck, hvs, hg, World.block_lt_of_cell? _ _ cg⟩
      have HROWS := Lib.hid hrows
      have hKW : W.heap[D]? = some (.deferred (some [])) := HK.out
      have hDlt : D < W.heap.size := (Array.getElem?_eq_some_iff.1 hKW).1
      have hK4 : w4.heap[D]? = some (.deferred (some [])) := (e4.block D hDlt).trans hKW
      have hEw : Ext w w4 := hE.trans e4
      clear own e4 cb1 cb4 hrows hKW
      gi_wp2_with fail
      have x5 : Ext w4 (w4.alloc (.cells #[.int .i64 i, .int .i64 j, .int .i64 i, .int .i64 cc, .int .i64 r, .int .i64 j, .int .i64 r, .int .i64 cc] 80)) := (Ext.refl w4).alloc _
      have hcells : ∀ q, q < 4 → (w4.alloc (.cells #[.int .i64 i, .int .i64 j, .int .i64 i, .int .i64 cc, .int .i64 r, .int .i64 j, .int .i64 r, .int .i64 cc] 80)).cell? ⟨w4.heap.size, q * 2, none⟩ = some (.int .i64 (rowQ i r q : Nat)) ∧ (w4.alloc (.cells #[.int .i64 i, .int .i64 j, .int .i64 i, .int .i64 cc, .int .i64 r, .int .i64 j, .int .i64 r, .int .i64 cc] 80)).cell? ⟨w4.heap.size, q * 2 + 1, none⟩ = some (.int .i64 (colQ j cc q : Nat)) := fun q hq => by
        have : q = 0 ∨ q = 1 ∨ q = 2 ∨ q = 3 := by omega
        rcases this with rfl | rfl | rfl | rfl <;> simp [go_sem, rowQ, colQ]
      obtain ⟨W5, hW5⟩ : ∃ W5, w4.alloc (.cells #[.int .i64 i, .int .i64 j, .int .i64 i, .int .i64 cc, .int .i64 r, .int .i64 j, .int .i64 r, .int .i64 cc] 80) = W5 := ⟨_, rfl⟩
      have hW5s : W5.heap.size = w4.heap.size + 1 := by rw [← hW5]; simp
      rw [hW5] at x5 hcells ⊢
      obtain ⟨p8, hp8⟩ : ∃ q, w4.heap.size = q := ⟨_, rfl⟩
      rw [hp8] at hcells hW5s HROWS ⊢
      have hK5 : W5.heap[D]? = some (.deferred (some [])) := (x5.block D (Array.getElem?_eq_some_iff.1 hK4).1).trans hK4
      have OW5 := Lib.hid (OW.out.ext x5)
      have HC := Lib.hid hcells; have EW5 := Lib.hid (hEw.trans x5); have HW5S := Lib.hid hW5s; have HK5 := Lib.hid hK5; have HEN := Lib.hid hE.size
      clear hW5 hcells x5 hW5s hp8 hK4 hK5 hEw cb2 cb3 cb5 cb6 E4 OW
      gi_loopg [105] 4 (fun g' p wr => ∃ q : Nat, q ≤ 4 ∧ g' = 4 - q ∧ p = .int .i64 q ∧ OwnB wr W.heap.size (.slice (some ⟨o, 0, none⟩) n co) vs (tabOf n m (setQ b i j r cc q)) ∧ (∀ q, q < 4 → wr.cell? ⟨p8, q * 2, none⟩ = some (.int .i64 (rowQ i r q : Nat)) ∧ wr.cell? ⟨p8, q * 2 + 1, none⟩ = some (.int .i64 (colQ j cc q : Nat))) ∧ wr.heap[D]? = some (.deferred (some [])) ∧ Ext w wr)
      case atStart => exact ⟨0, Nat.zero_le _, rfl, rfl, OW5.out, HC.out, HK5.out, EW5.out⟩
      case round =>
        obtain ⟨q, hq, rfl, rfl, own, hcs, hKr, hext⟩ := hrel
        by_cases hq4 : q < 4
        · have hqz : (q : Int) < 4 := by omega
          obtain ⟨c1, c2⟩ := hcs q hq4
          have hset0 : setQ b i j r cc (q + 1) = upd (setQ b i j r cc q) (rowQ i r q) (colQ j cc q) true := rfl
          obtain ⟨x, hx⟩ : ∃ x, rowQ i r q = x := ⟨_, rfl⟩
          obtain ⟨y, hy⟩ : ∃ y, colQ j cc q = y := ⟨_, rfl⟩
          have hxn : x < n := by rw [← hx]; unfold rowQ; split <;> assumption
          have hym : y < m := by rw [← hy]; unfold colQ; split <;> assumption
          rw [hx] at c1 hset0
          rw [hy] at c2 hset0
          have HCS := Lib.hid hcs; have OWN := Lib.hid own; have HKR := Lib.hid hKr; have HEX := Lib.hid hext; have HSET := Lib.hid hset0
          clear hx hy hcs own hKr hext hset0
          gi_wp2_with fail
          have x6 : Ext wr (wr.alloc (.cells #[.int .i64 x, .int .i64 y] 80)) := (Ext.refl wr).alloc _
          have cx : (wr.alloc (.cells #[.int .i64 x, .int .i64 y] 80)).cell? ⟨wr.heap.size, 0, none⟩ = some (.int .i64 x) := by simp [go_sem]
          have cy : (wr.alloc (.cells #[.int .i64 x, .int .i64 y] 80)).cell? ⟨wr.heap.size, 1, none⟩ = some (.int .i64 y) := by simp [go_sem]
          obtain ⟨W6, hW6⟩ : ∃ W6, wr.alloc (.cells #[.int .i64 x, .int .i64 y] 80) = W6 := ⟨_, rfl⟩
          rw [hW6] at x6 cx cy ⊢
          obtain ⟨p9, hp9⟩ : ∃ q, wr.heap.size = q := ⟨_, rfl⟩
          rw [hp9] at cx cy ⊢
          have own6 := OWN.out.ext x6
          obtain ⟨_, _, g, ck, ev, _, c16, hg, _, hvs, cg, fg, _⟩ := own6.atC (i := x) (j := y) hxn hym
          cases ev
          have hset := own6.setC (j := y) hxn hvs true
          rw [← HSET.out] at hset
          obtain ⟨g2, ck2, hv2, hg2, hg3⟩ := HROWS.out x hxn
          rw [hvs] at hv2
          cases hv2
          have hDg : ¬ D = g := by omega
          have hKn : (W6.setCell ⟨g, y, none⟩ (.bool true)).drew.heap[D]? = some (.deferred (some [])) :=
            (Below.heap_setCell W6 ⟨g, y, none⟩ (.bool true) D hDg).trans ((x6.block D (Array.getElem?_eq_some_iff.1 HKR.out).1).trans HKR.out)
          have hcsn : ∀ q, q < 4 → (W6.setCell ⟨g, y, none⟩ (.bool true)).drew.cell? ⟨p8, q * 2, none⟩ = some (.int .i64 (rowQ i r q : Nat)) ∧ (W6.setCell ⟨g, y, none⟩ (.bool true)).drew.cell? ⟨p8, q * 2 + 1, none⟩ = some (.int .i64 (colQ j cc q : Nat)) := fun q hq => by
            obtain ⟨h1, h2⟩ := HCS.out q hq
            have h1 := x6.cell h1; have h2 := x6.cell h2
            have hne : ¬ g = p8 := by omega
            refine ⟨?_, ?_⟩
            · have : (W6.setCell ⟨g, y, none⟩ (.bool true)).cell? ⟨p8, q * 2, none⟩ = W6.cell? ⟨p8, q * 2, none⟩ := by simp [go_sem]
              exact this.trans h1
            · have : (W6.setCell ⟨g, y, none⟩ (.bool true)).cell? ⟨p8, q * 2 + 1, none⟩ = W6.cell? ⟨p8, q * 2 + 1, none⟩ := by simp [go_sem]
              exact this.trans h2
          have hextn : Ext w (W6.setCell ⟨g, y, none⟩ (.bool true)).drew := ((HEX.out.trans x6).setCell (p := ⟨g, y, none⟩) (by show w.heap.size ≤ g; have := HEN.out; omega) _).drew
          have hxz : (x : Int) < (n : Int) := by omega
          have hyz : (y : Int) < (m : Int) := by omega
          unfold encB at cg hset
          have ownn := hset.ext ((Ext.refl _).drew)
          have OWN2 := Lib.hid ownn; have HKN := Lib.hid hKn; have HCN := Lib.hid hcsn; have HEXN := Lib.hid hextn
          clear hset ownn hKn hcsn hextn own6 hvs hW6 x6 c1 c2
          refine wpW_still_tail 8 (by kernel_rfl) (by kernel_rfl) (by kernel_rfl) ?_
          simp only [List.take_succ_cons, List.take_zero, List.drop_succ_cons, List.drop_zero]
          repeat still_step
          refine wpStill_nil ?_
          go_wp2_with fail
          refine noOut_normal ?_
          gi_wp2_with fail
          gi_roundg (4 - (q + 1))
          case measure => omega
          case rel => exact ⟨q + 1, by omega, rfl, by go_num, OWN2.out, HCN.out, HKN.out, HEXN.out⟩
        · have hqz : ¬ (q : Int) < 4 := by omega
          obtain rfl : q = 4 := by omega
          rw [setQ_four] at own
          have OWN := Lib.hid own; have HEX := Lib.hid hext
          clear own hext hcs
          gi_wp2_with fail
          exact leaveD2 hKr rfl (by rw [HSQ.out]; exact ⟨_, vs, rfl, (OWN.out.cel (Cel.taken hKr _)).base HEN.out, HEX.out.taken hDw _⟩)
  case stop =>
    intro D c pre W _ h _ _
    exact h.elim
end Go.Proofs.Ytnlolgooicgfdaa
