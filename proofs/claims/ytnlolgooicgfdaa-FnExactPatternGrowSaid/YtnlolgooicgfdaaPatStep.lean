/- The program's step of a pattern. -/
import Derived.Test.YtnlolgooicgfdaaSquare
import Derived.Test.YtnlolgooicgfdaaStepMath
namespace Go.DC
open Go Go.RowKit
section
variable {F : Fence} {n : Nat} {P : Program} {fn : Func} {R : Ending → World → Prop} {tmps : Array Value} {W : World}
theorem run_loadVar_box {ty : TypeId} {d : TypeDesc} {x : Nat} {T : TypeId} {v : Value} (b : Box W x T v) (hu : P.underlying ty = some d) (hd : (match d with | .struct _ | .array _ _ => true | _ => false) = false) :
    (loadVar ty ⟨x, 0, none⟩).run P W = .ok v W := by
  have hagg : (isAgg ty).run P W = .ok false W := by
    unfold isAgg
    rw [Sem.run_bind, run_underlying hu W]
    cases d <;> simp_all
  have hc := b.cell
  simp [loadVar, Sem.run_bind, hagg, hc]
theorem results_cells2 {x y : Tmp} {tx ty T1 T2 : TypeId} {dx dy : TypeDesc} {px py : Nat} {u v : Value} (hr : fn.results = #[.cell x tx, .cell y ty]) (hx : tmps.getD x undef = .pointer (some ⟨px, 0, none⟩)) (hy : tmps.getD y undef = .pointer (some ⟨py, 0, none⟩))
    (bx : Box W px T1 u) (bv : Box W py T2 v) (hux : P.underlying tx = some dx) (hdx : (match dx with | .struct _ | .array _ _ => true | _ => false) = false) (huy : P.underlying ty = some dy) (hdy : (match dy with | .struct _ | .array _ _ => true | _ => false) = false) :
    (results fn tmps).run P W = .ok (.tuple #[u, v]) W := by
  have hx' : tmps[x]?.getD undef = .pointer (some ⟨px, 0, none⟩) := by simpa using hx
  have hy' : tmps[y]?.getD undef = .pointer (some ⟨py, 0, none⟩) := by simpa using hy
  simp [results, hr, hx', hy', asAddr, Sem.run_bind, run_loadVar_box bx hux hdx, run_loadVar_box bv huy hdy]
theorem leaveC2 {x y : Tmp} {tx ty T1 T2 : TypeId} {dx dy : TypeDesc} {px py : Nat} {u v : Value} (hr : fn.results = #[.cell x tx, .cell y ty]) (hx : tmps.getD x undef = .pointer (some ⟨px, 0, none⟩)) (hy : tmps.getD y undef = .pointer (some ⟨py, 0, none⟩))
    (hux : P.underlying tx = some dx) (hdx : (match dx with | .struct _ | .array _ _ => true | _ => false) = false) (huy : P.underlying ty = some dy) (hdy : (match dy with | .struct _ | .array _ _ => true | _ => false) = false) (bx : Box W px T1 u) (bv : Box W py T2 v)
    (h : R (.returned (.tuple #[u, v])) W) : bodyPostM F n P fn R .ret { tmps := tmps, defers := [] } W := ⟨_, results_cells2 hr hx hy bx bv hux hdx huy hdy, h⟩
theorem leaveCD2 {D : Nat} {x y : Tmp} {tx ty T1 T2 : TypeId} {dx dy : TypeDesc} {px py : Nat} {u v : Value} (hK : W.heap[D]? = some (.deferred (some []))) (hr : fn.results = #[.cell x tx, .cell y ty]) (hx : tmps.getD x undef = .pointer (some ⟨px, 0, none⟩)) (hy : tmps.getD y undef = .pointer (some ⟨py, 0, none⟩))
    (hux : P.underlying tx = some dx) (hdx : (match dx with | .struct _ | .array _ _ => true | _ => false) = false) (huy : P.underlying ty = some dy) (hdy : (match dy with | .struct _ | .array _ _ => true | _ => false) = false) (bx : Box W px T1 u) (bv : Box W py T2 v)
    (h : R (.returned (.tuple #[u, v])) (W.putObj D (.deferred none))) : bodyPostM F n P fn R .ret { tmps := tmps, defers := [{ target := .collected D, args := #[] }] } W :=
  ⟨by simp, .inl ⟨_, _, rfl, run_takeDeferred hK, _, results_cells2 hr hx hy (bx.cel (Cel.taken hK _)) (bv.cel (Cel.taken hK _)) hux hdx huy hdy, h⟩⟩
end
end Go.DC
namespace Go.Proofs.Ytnlolgooicgfdaa
open Go.RowKit Go.DC Go.Shelf
attribute [local go_sem] Oper.semAt_some
theorem mem_rowCells {h m k l' : Nat} (hk : k < h) : ∀ (l : Nat) (hl : l ≤ m) (h' : l' < l), (⟨(k, l'), hk, Nat.lt_of_lt_of_le h' hl⟩ : Cell h m) ∈ rowCells h m k l hk hl
  | 0, _, h' => absurd h' (Nat.not_lt_zero _)
  | l + 1, hl, h' => by
    rw [rowCells_succ, List.mem_append]
    by_cases e : l' = l
    · subst e; exact .inr (List.mem_singleton.2 rfl)
    · exact .inl (mem_rowCells hk l (by omega) (by omega))
theorem mem_firstCells {h m k' l' : Nat} (hl : l' < m) : ∀ (k : Nat) (hk : k ≤ h) (h' : k' < k), (⟨(k', l'), Nat.lt_of_lt_of_le h' hk, hl⟩ : Cell h m) ∈ firstCells h m k hk
  | 0, _, h' => absurd h' (Nat.not_lt_zero _)
  | k + 1, hk, h' => by
    rw [firstCells, List.mem_append]
    by_cases e : k' = k
    · subst e; exact .inr (mem_rowCells hk m (Nat.le_refl _) hl)
    · exact .inl (mem_firstCells hl k (by omega) (by omega))
theorem firstAt_of_pre {p : Nat → Nat → Bool} {h m k l : Nat} {pre : List (Cell h m)} {x : Cell h m} (hp : PreAt h m k l (pre ++ [x])) (h0 : ∀ y ∈ pre, p y.1.1 y.1.2 = false) (h1 : p x.1.1 x.1.2 = true) : FirstAt h m p x.1.1 x.1.2 := by
  obtain ⟨hk, hj, e⟩ := hp
  rw [rowCells_succ, ← List.append_assoc] at e
  obtain ⟨e1, e2⟩ := List.append_inj' e rfl
  have ex := (List.cons.inj e2).1
  subst ex
  subst e1
  refine ⟨hk, hj, h1, fun k' l' hk' hl' h => ?_⟩
  rcases h with h | ⟨rfl, h⟩
  · exact h0 _ (List.mem_append_left _ (mem_firstCells hl' k (Nat.le_of_lt hk) h))
  · exact h0 _ (List.mem_append_right _ (mem_rowCells hk l (Nat.le_of_lt hj) h))
theorem none_of_all {p : Nat → Nat → Bool} {h m : Nat} (h0 : ∀ y ∈ allCells h m, p y.1.1 y.1.2 = false) : manyN h m p = 0 := by
  unfold manyN
  rw [sumN_congr (g := fun _ => 0) (fun k hk => ?_), sumN_zero]
  rw [sumN_congr (g := fun _ => 0) (fun l hl => ?_), sumN_zero]
  unfold one
  rw [h0 (⟨(k, l), hk, hl⟩ : Cell h m) (mem_firstCells hl h (Nat.le_refl _) hk)]
  rfl
/-- Six new boxes. -/
structure Box6 (W : World) (n : Nat) (T1 T2 T3 T4 : TypeId) (u1 u2 u3 u4 u5 u6 : Value) : Prop where
  b1 : Box W n T1 u1
  b2 : Box W (n + 1) T2 u2
  b3 : Box W (n + 1 + 1) T2 u3
  b4 : Box W (n + 1 + 1 + 1) T3 u4
  b5 : Box W (n + 1 + 1 + 1 + 1) T2 u5
  b6 : Box W (n + 1 + 1 + 1 + 1 + 1) T4 u6
  size : W.heap.size = n + 6
theorem Box6.ext {W W' : World} {n : Nat} {T1 T2 T3 T4 : TypeId} {u1 u2 u3 u4 u5 u6 : Value} (h : Box6 W n T1 T2 T3 T4 u1 u2 u3 u4 u5 u6) (e : Ext W W') : Box W' n T1 u1 ∧ Box W' (n + 1) T2 u2 ∧ Box W' (n + 1 + 1) T2 u3 ∧ Box W' (n + 1 + 1 + 1) T3 u4 ∧ Box W' (n + 1 + 1 + 1 + 1) T2 u5 ∧ Box W' (n + 1 + 1 + 1 + 1 + 1) T4 u6 :=
  ⟨h.b1.ext e, h.b2.ext e, h.b3.ext e, h.b4.ext e, h.b5.ext e, h.b6.ext e⟩
theorem box6 (w : World) (T1 T2 T3 T4 : TypeId) (u1 u2 u3 u4 u5 u6 : Value) :
    Box6 ((((((w.alloc (.cells #[u1] T1)).alloc (.cells #[u2] T2)).alloc (.cells #[u3] T2)).alloc (.cells #[u4] T3)).alloc (.cells #[u5] T2)).alloc (.cells #[u6] T4)) w.heap.size T1 T2 T3 T4 u1 u2 u3 u4 u5 u6 := by
  have b7 := box7 w T1 T2 T2 u1 u2 u3 u4 u5 u6 u6
  have al : ∀ (W : World) (o : Obj), Ext W (W.alloc o) := fun W o => (Ext.refl W).alloc o
  have n1 := Box.new w T1 u1
  obtain ⟨W1, h1⟩ : ∃ W1, w.alloc (.cells #[u1] T1) = W1 := ⟨_, rfl⟩
  have s1 : W1.heap.size = w.heap.size + 1 := by rw [← h1]; simp
  rw [h1] at n1 ⊢
  have n2 := Box.new W1 T2 u2
  have m1 := n1.ext (al W1 (.cells #[u2] T2))
  rw [s1] at n2
  obtain ⟨W2, h2⟩ : ∃ W2, W1.alloc (.cells #[u2] T2) = W2 := ⟨_, rfl⟩
  have s2 : W2.heap.size = w.heap.size + 1 + 1 := by rw [← h2]; simp [s1]
  rw [h2] at n2 m1 ⊢
  have n3 := Box.new W2 T2 u3
  have e3 := al W2 (.cells #[u3] T2)
  have m1 := m1.ext e3; have m2 := n2.ext e3
  rw [s2] at n3
  obtain ⟨W3, h3⟩ : ∃ W3, W2.alloc (.cells #[u3] T2) = W3 := ⟨_, rfl⟩
  have s3 : W3.heap.size = w.heap.size + 1 + 1 + 1 := by rw [← h3]; simp [s2]
  rw [h3] at n3 m1 m2 ⊢
  have n4 := Box.new W3 T3 u4
  have e4 := al W3 (.cells #[u4] T3)
  have m1 := m1.ext e4; have m2 := m2.ext e4; have m3 := n3.ext e4
  rw [s3] at n4
  obtain ⟨W4, h4⟩ : ∃ W4, W3.alloc (.cells #[u4] T3) = W4 := ⟨_, rfl⟩
  have s4 : W4.heap.size = w.heap.size + 1 + 1 + 1 + 1 := by rw [← h4]; simp [s3]
  rw [h4] at n4 m1 m2 m3 ⊢
  have n5 := Box.new W4 T2 u5
  have e5 := al W4 (.cells #[u5] T2)
  have m1 := m1.ext e5; have m2 := m2.ext e5; have m3 := m3.ext e5; have m4 := n4.ext e5
  rw [s4] at n5
  obtain ⟨W5, h5⟩ : ∃ W5, W4.alloc (.cells #[u5] T2) = W5 := ⟨_, rfl⟩
  have s5 : W5.heap.size = w.heap.size + 1 + 1 + 1 + 1 + 1 := by rw [← h5]; simp [s4]
  rw [h5] at n5 m1 m2 m3 m4 ⊢
  have n6 := Box.new W5 T4 u6
  have e6 := al W5 (.cells #[u6] T4)
  rw [s5] at n6
  exact ⟨m1.ext e6, m2.ext e6, m3.ext e6, m4.ext e6, n5.ext e6, n6, by simp [s5]⟩
set_option maxRecDepth 100000 in
set_option maxHeartbeats 4000000 in
theorem PatternStep_low (a b0 mb : Option Addr) (c c0 d n n0 n1 : Nat) (s u : Int) (w : World) (NEED : Hid (∀ wx : World, Ext w wx → Calls Try.prog 33 #[.slice a n c, .slice b0 n0 c0, .slice mb n1 d, .int .i64 s] wx (Ret (.int .i64 u) wx))) (hu : u < 1) :
    Calls Try.prog 28 #[.slice a n c, .slice b0 n0 c0, .slice mb n1 d, .int .i64 s] w (fun e w' => e = .returned (.tuple #[.slice none 0 0, .bool false]) ∧ Ext w w') := by
  refine (callsIn_wide (n := 9)).1 ?_
  refine callsIn_of_wp_marks Try.func28 rfl trivial ?_ rfl
  simp only [Try.ntmps28, List.size_toArray, List.length_cons, List.length_nil, Nat.reduceAdd, Nat.reduceSub, Array.replicate_succ, Array.replicate_zero, List.push_toArray, List.append_toArray, List.nil_append, List.cons_append]
  gi_wp2_with fail
  have e0 : Ext w ((((((w.alloc (.cells #[.slice a n c] 23)).alloc (.cells #[.slice b0 n0 c0] 24)).alloc (.cells #[.slice mb n1 d] 24)).alloc (.cells #[.int .i64 s] 3)).alloc (.cells #[.slice none 0 0] 24)).alloc (.cells #[.bool false] 4)) := ((((((Ext.refl w).alloc _).alloc _).alloc _).alloc _).alloc _).alloc _
  have x6 : Box6 _ w.heap.size 23 24 3 4 (.slice a n c) (.slice b0 n0 c0) (.slice mb n1 d) (.int .i64 s) (.slice none 0 0) (.bool false) := box6 w _ _ _ _ _ _ _ _ _ _
  obtain ⟨W0, hW0⟩ : ∃ W0, (((((w.alloc (.cells #[.slice a n c] 23)).alloc (.cells #[.slice b0 n0 c0] 24)).alloc (.cells #[.slice mb n1 d] 24)).alloc (.cells #[.int .i64 s] 3)).alloc (.cells #[.slice none 0 0] 24)).alloc (.cells #[.bool false] 4) = W0 := ⟨_, rfl⟩
  rw [hW0] at e0 x6
  try rw [hW0]
  clear hW0
  obtain ⟨p5, h5⟩ : ∃ q, w.heap.size + 1 + 1 + 1 + 1 + 1 = q := ⟨_, rfl⟩
  rw [h5]
  obtain ⟨p4, h4⟩ : ∃ q, w.heap.size + 1 + 1 + 1 + 1 = q := ⟨_, rfl⟩
  rw [h4]
  obtain ⟨p3, h3⟩ : ∃ q, w.heap.size + 1 + 1 + 1 = q := ⟨_, rfl⟩
  rw [h3]
  obtain ⟨p2, h2⟩ : ∃ q, w.heap.size + 1 + 1 = q := ⟨_, rfl⟩
  rw [h2]
  obtain ⟨p1, h1⟩ : ∃ q, w.heap.size + 1 = q := ⟨_, rfl⟩
  rw [h1]
  obtain ⟨p0, h0⟩ : ∃ q, w.heap.size = q := ⟨_, rfl⟩
  have d0 : Box W0 p0 23 (.slice a n c) := by rw [← h0]; exact x6.b1
  have d1 : Box W0 p1 24 (.slice b0 n0 c0) := by rw [← h1]; exact x6.b2
  have d2 : Box W0 p2 24 (.slice mb n1 d) := by rw [← h2]; exact x6.b3
  have d3 : Box W0 p3 3 (.int .i64 s) := by rw [← h3]; exact x6.b4
  have d4 : Box W0 p4 24 (.slice none 0 0) := by rw [← h4]; exact x6.b5
  have d5 : Box W0 p5 4 (.bool false) := by rw [← h5]; exact x6.b6
  rw [h0]
  have HP : Hid (p0 = w.heap.size ∧ p1 = p0 + 1 ∧ p2 = p0 + 2 ∧ p3 = p0 + 3 ∧ p4 = p0 + 4 ∧ p5 = p0 + 5 ∧ W0.heap.size = p0 + 6) := by have := x6.size; exact ⟨by omega, by omega, by omega, by omega, by omega, by omega, by omega⟩
  clear h0 h1 h2 h3 h4 h5 x6
  have c0' := d0.cell; have c1' := d1.cell; have c2' := d2.cell; have c3' := d3.cell
  refine ⟨trivial, (callsIn_wide.2 (NEED.out W0 e0)).mono ?_⟩
  rintro e w1 ⟨rfl, e1⟩
  have b4 := d4.ext e1; have b5 := d5.ext e1
  have cb4 := b4.cell; have fb4 := b4.frozen; have cb5 := b5.cell; have fb5 := b5.frozen
  have B4 := Lib.hid b4; have B5 := Lib.hid b5
  have E1 := Lib.hid (e0.trans e1)
  have n1 : ¬ p4 = p5 := by have := HP.out; omega
  have n2 : ¬ p5 = p4 := by have := HP.out; omega
  have hub : decide (u < 1) = true := decide_eq_true hu
  clear b4 b5 e0 e1 d0 d1 d2 d3 d4 d5 c0' c1' c2' c3'
  gi_wp2_with fail
  have q := HP.out
  exact leaveC2 rfl rfl rfl rfl rfl rfl rfl ((B4.out.set _).other ⟨p5, 0, none⟩ _ n2) ((B5.out.other ⟨p4, 0, none⟩ _ n1).set _) ⟨rfl, (E1.out.setCell (p := ⟨p4, 0, none⟩) (by show w.heap.size ≤ p4; omega) _).setCell (p := ⟨p5, 0, none⟩) (by show w.heap.size ≤ p5; omega) _⟩
/-- How the loop over the cells ends early: at the first cell that is not safe, with the result in two cells. -/
def StopAt (n m : Nat) (f : Nat → Nat → Int) (p b : Nat → Nat → Bool) (B p4 p5 : Nat) (TM TB : TypeId) (c : Code) (pre : List (Cell n m)) (W : World) : Prop :=
  c = .ret ∧ ∃ (x : Cell n m) (pre0 : List (Cell n m)), pre = pre0 ++ [x] ∧ (∀ y ∈ pre0, p y.1.1 y.1.2 = false) ∧ p x.1.1 x.1.2 = true ∧ ∃ v vs rr, ((bestN f b x.1.1 x.1.2 m n).map fun y => set4 b x.1.1 x.1.2 y.1 y.2) = rr ∧ Box W p4 TM v ∧
    Box W p5 TB (.bool (Option.isSome rr)) ∧ OwnB W B v vs (outT n m rr)
set_option maxRecDepth 100000 in
set_option maxHeartbeats 4000000 in
theorem PatternStep_high (a b0 mb : Option Addr) (c c0 d n m : Nat) (s : Int) (f : Nat → Nat → Int) (g b : Nat → Nat → Bool) (w : World) (ht : IRows w a (tabOf n m f)) (hfm : BRows w b0 (tabOf n m g)) (hmk : BRows w mb (tabOf n m b)) (hf : InT n m f) (hs : inCell s = true)
    (u : Int) (hu : manyN n m (notSafeF n m f g b s) = u) (hu1 : ¬ u < 1) (NEED : Hid (∀ wx : World, Ext w wx → Calls Try.prog 33 #[.slice a n c, .slice b0 n c0, .slice mb n d, .int .i64 s] wx (Ret (.int .i64 u) wx))) :
    Calls Try.prog 28 #[.slice a n c, .slice b0 n c0, .slice mb n d, .int .i64 s] w (StepOut n m f g b s w) := by
  have HT := Lib.hid ht; have HFM := Lib.hid hfm; have HM := Lib.hid hmk; have HF := Lib.hid hf; have HS := Lib.hid hs
  obtain ⟨⟨hn1, hn4⟩, hm1, hm4⟩ : (1 ≤ n ∧ n ≤ 4) ∧ 1 ≤ m ∧ m ≤ 4 := ⟨⟨hf.1.1, hf.1.2.1⟩, hf.1.2.2⟩
  have SAFE : Hid (∀ (k l : Nat) (wx : World), Ext w wx → k < n → l < m → Calls Try.prog 52 #[.slice a n c, .slice mb n d, .int .i64 k, .int .i64 l, .int .i64 s] wx (BoolOut (safeF n m f b k l s) wx)) := fun k l wx ex hk hl =>
    PatternSafe_tab a mb c d n m k l s f b wx wx (HT.out.ext ex) (HM.out.ext ex) HF.out hk hl HS.out (Ext.refl _)
  have SQ : Hid (∀ (k l : Nat) (wx : World), Ext w wx → k < n → l < m → Calls Try.prog 53 #[.slice a n c, .slice mb n d, .int .i64 k, .int .i64 l] wx (SqOut n m ((bestN f b k l m n).map fun x => set4 b k l x.1 x.2) wx)) := fun k l wx ex hk hl =>
    square_tab a mb c d n m k l f b wx (HT.out.ext ex) (HM.out.ext ex) HF.out hk hl
  have HFLAG : Hid (∀ (k l : Nat) (wx : World), Ext w wx → k < n → l < m → ∃ nb mf mb2 mf2 mk2, b0 = some ⟨nb, mf, none⟩ ∧ wx.cell? ⟨nb, mf + k, none⟩ = some (.slice (some ⟨mb2, mf2, none⟩) m mk2) ∧ wx.cell? ⟨mb2, mf2 + l, none⟩ = some (.bool (g k l))) := fun k l wx ex hk hl => by
    obtain ⟨nb, mf, mb2, mf2, mk2, e, c1, c2⟩ := (HFM.out.ext ex).atC false (rect_tabOf n m g) (i := k) (j := l) hk hl
    rw [get_tabOf g hk hl] at c2
    exact ⟨nb, mf, mb2, mf2, mk2, e, c1, c2⟩
  have HU := Lib.hid hu; have HU1 := Lib.hid hu1
  have hub : decide (u < 1) = false := decide_eq_false hu1
  obtain ⟨p, hp⟩ : ∃ p, notSafeF n m f g b s = p := ⟨_, rfl⟩
  have HPP : Hid (∀ k l, p k l = (g k l && !safeF n m f b k l s)) := fun k l => by rw [← hp]; rfl
  have HPE := Lib.hid hp
  clear ht hfm hmk hf hs hu hp
  refine (callsIn_wide (n := 9)).1 ?_
  refine callsIn_of_wp_marks Try.func28 rfl trivial ?_ rfl
  simp only [Try.ntmps28, List.size_toArray, List.length_cons, List.length_nil, Nat.reduceAdd, Nat.reduceSub, Array.replicate_succ, Array.replicate_zero, List.push_toArray, List.append_toArray, List.nil_append, List.cons_append]
  gi_wp2_with fail
  have e0 : Ext w ((((((w.alloc (.cells #[.slice a n c] 23)).alloc (.cells #[.slice b0 n c0] 24)).alloc (.cells #[.slice mb n d] 24)).alloc (.cells #[.int .i64 s] 3)).alloc (.cells #[.slice none 0 0] 24)).alloc (.cells #[.bool false] 4)) := ((((((Ext.refl w).alloc _).alloc _).alloc _).alloc _).alloc _).alloc _
  have x6 : Box6 _ w.heap.size 23 24 3 4 (.slice a n c) (.slice b0 n c0) (.slice mb n d) (.int .i64 s) (.slice none 0 0) (.bool false) := box6 w _ _ _ _ _ _ _ _ _ _
  obtain ⟨W0, hW0⟩ : ∃ W0, (((((w.alloc (.cells #[.slice a n c] 23)).alloc (.cells #[.slice b0 n c0] 24)).alloc (.cells #[.slice mb n d] 24)).alloc (.cells #[.int .i64 s] 3)).alloc (.cells #[.slice none 0 0] 24)).alloc (.cells #[.bool false] 4) = W0 := ⟨_, rfl⟩
  rw [hW0] at e0 x6
  try rw [hW0]
  clear hW0
  obtain ⟨p5, h5⟩ : ∃ q, w.heap.size + 1 + 1 + 1 + 1 + 1 = q := ⟨_, rfl⟩
  rw [h5]
  obtain ⟨p4, h4⟩ : ∃ q, w.heap.size + 1 + 1 + 1 + 1 = q := ⟨_, rfl⟩
  rw [h4]
  obtain ⟨p3, h3⟩ : ∃ q, w.heap.size + 1 + 1 + 1 = q := ⟨_, rfl⟩
  rw [h3]
  obtain ⟨p2, h2⟩ : ∃ q, w.heap.size + 1 + 1 = q := ⟨_, rfl⟩
  rw [h2]
  obtain ⟨p1, h1⟩ : ∃ q, w.heap.size + 1 = q := ⟨_, rfl⟩
  rw [h1]
  obtain ⟨p0, h0⟩ : ∃ q, w.heap.size = q := ⟨_, rfl⟩
  have d0 : Box W0 p0 23 (.slice a n c) := by rw [← h0]; exact x6.b1
  have d1 : Box W0 p1 24 (.slice b0 n c0) := by rw [← h1]; exact x6.b2
  have d2 : Box W0 p2 24 (.slice mb n d) := by rw [← h2]; exact x6.b3
  have d3 : Box W0 p3 3 (.int .i64 s) := by rw [← h3]; exact x6.b4
  have d4 : Box W0 p4 24 (.slice none 0 0) := by rw [← h4]; exact x6.b5
  have d5 : Box W0 p5 4 (.bool false) := by rw [← h5]; exact x6.b6
  rw [h0]
  have HP : Hid (p0 = w.heap.size ∧ p1 = p0 + 1 ∧ p2 = p0 + 2 ∧ p3 = p0 + 3 ∧ p4 = p0 + 4 ∧ p5 = p0 + 5 ∧ W0.heap.size = p0 + 6) := by have := x6.size; exact ⟨by omega, by omega, by omega, by omega, by omega, by omega, by omega⟩
  clear h0 h1 h2 h3 h4 h5 x6
  have c0' := d0.cell; have c1' := d1.cell; have c2' := d2.cell; have c3' := d3.cell
  refine ⟨trivial, (callsIn_wide.2 (NEED.out W0 e0)).mono ?_⟩
  rintro e w1 ⟨rfl, e1⟩
  have d0 := d0.ext e1; have d1 := d1.ext e1; have d2 := d2.ext e1; have d3 := d3.ext e1; have d4 := d4.ext e1; have d5 := d5.ext e1
  have e1 := e0.trans e1
  have hs1 : p0 + 6 ≤ w1.heap.size := by have := d5.lt; have := HP.out; omega
  have c0' := d0.cell; have c1' := d1.cell; have c2' := d2.cell; have c3' := d3.cell
  clear e0
  gi_wp2_with fail
  refine ⟨trivial, (cellsOf_in Fence.wide _ (wide_fn _) rfl _ _ _ _).mono ?_⟩
  rintro e w2 ⟨rfl, rfl⟩
  have x2 : Ext w1 (w1.alloc (.cells #[.slice a n c] 23)) := (Ext.refl w1).alloc _
  have bI := Box.new w1 23 (.slice a n c)
  have d0 := d0.ext x2; have d1 := d1.ext x2; have d2 := d2.ext x2; have d3 := d3.ext x2; have d4 := d4.ext x2; have d5 := d5.ext x2
  have e2 := e1.trans x2
  have hs2 : (w1.alloc (.cells #[.slice a n c] 23)).heap.size = w1.heap.size + 1 := by simp
  obtain ⟨W2, hW2⟩ : ∃ W2, w1.alloc (.cells #[.slice a n c] 23) = W2 := ⟨_, rfl⟩
  rw [hW2] at bI d0 d1 d2 d3 d4 d5 e2 hs2 ⊢
  obtain ⟨p7, hp7⟩ : ∃ q, w1.heap.size = q := ⟨_, rfl⟩
  rw [hp7] at bI hs1 hs2 ⊢
  have hcI := bI.cell
  have hI0 : (tabOf n m f).length = n := tabOf_length _ _ _
  have HQ : Hid (p0 + 6 ≤ p7 ∧ W2.heap.size = p7 + 1) := ⟨hs1, hs2⟩
  clear hW2 x2 e1 hs1 hs2 hp7 c0' c1' c2' c3'
  gi_wp2_with fail
  refine wpIn_cells_pre (by omega) w p7 n m a c (tabOf n m f) HT.out (rect_tabOf n m f) (by omega) (by omega) rfl e2 (by rw [hI0]; exact hcI) rfl
    (fun pre W => Box W p0 23 (.slice a n c) ∧ Box W p1 24 (.slice b0 n c0) ∧ Box W p2 24 (.slice mb n d) ∧ Box W p3 3 (.int .i64 s) ∧ Box W p4 24 (.slice none 0 0) ∧ Box W p5 4 (.bool false) ∧ ∀ y ∈ pre, p y.1.1 y.1.2 = false)
    (StopAt n m f p b w.heap.size p4 p5 24 4)
    (fun pre A B hs k => ⟨hs.1.cel k, hs.2.1.cel k, hs.2.2.1.cel k, hs.2.2.2.1.cel k, hs.2.2.2.2.1.cel k, hs.2.2.2.2.2.1.cel k, hs.2.2.2.2.2.2⟩)
    (fun cc pre A B hs k => by
      obtain ⟨h1, x, pre0, h2, h3, h4, v, vs, rr, he, h5, h6, h7⟩ := hs
      exact ⟨h1, x, pre0, h2, h3, h4, v, vs, rr, he, h5.cel k, h6.cel k, h7.cel k⟩)
    ⟨d0, d1, d2, d3, d4, d5, fun y hy => by cases hy⟩
    ?round ?done ?stop
  case round =>
    clear d0 d1 d2 d3 d4 d5 hcI bI
    intro l x W K hK
    have HK := Lib.hid hK; clear hK
    gi_wp2_with fail
    refine HK.out _ ?_
    clear HK K
    rintro l' pre W' ⟨b0', b1, b2, b3, b4, b5, hpre⟩ hE hlt
    obtain ⟨⟨k, l⟩, hk, hl⟩ := x
    dsimp only at hk hl ⊢
    obtain ⟨nb, mf, mb2, mf2, mk2, rfl, cm1, cm2⟩ := HFLAG.out k l W' hE hk hl
    have hkz : (k : Int) < (n : Int) := by omega
    have hlz : (l : Int) < (m : Int) := by omega
    have cb0 := b0'.cell; have cb1 := b1.cell; have cb2 := b2.cell; have cb3 := b3.cell
    have B0 := Lib.hid b0'; have B1 := Lib.hid b1; have B2 := Lib.hid b2; have B3 := Lib.hid b3; have B4 := Lib.hid b4; have B5 := Lib.hid b5; have HEE := Lib.hid hE; have HPRE := Lib.hid hpre
    have hsz : w.heap.size ≤ W'.heap.size := hE.size
    have HSZ := Lib.hid hsz
    clear b0' b1 b2 b3 b4 b5 hE hpre hsz
    have happ : Hid (p k l = false → ∀ y ∈ pre ++ [(⟨(k, l), hk, hl⟩ : Cell n m)], p y.1.1 y.1.2 = false) := fun h y hy => by
      rcases List.mem_append.1 hy with h1 | h1
      · exact HPRE.out y h1
      · rw [List.mem_singleton.1 h1]; exact h
    cases hg : g k l with
    | false =>
      have hno : p k l = false := by rw [HPP.out, hg]; rfl
      rw [hg] at cm2
      have HNO := Lib.hid hno
      clear hg hno
      gi_wp2_with fail
      refine ⟨trivial, ?_⟩
      gi_wp2_with fail
      have hst : Stp w.heap.size W2.heap.size W' W' := Stp.refl _ _ _
      exact ⟨hst.from_, hst.below, ⟨B0.out, B1.out, B2.out, B3.out, B4.out, B5.out, happ.out HNO.out⟩, HEE.out⟩
    | true =>
      rw [hg] at cm2
      cases hq : safeF n m f b k l s with
      | true =>
        have hno : p k l = false := by rw [HPP.out, hg, hq]; rfl
        have HNO := Lib.hid hno; have HQ2 := Lib.hid hq
        clear hg hq hno
        gi_wp2_with fail
        refine ⟨trivial, CallsIn.inRound l' (callsIn_wide.2 ((SAFE.out k l W' HEE.out hk hl).mono ?_))⟩
        rintro e w3 ⟨rfl, e3⟩
        rw [HQ2.out]
        gi_wp2_with fail
        have hst : Stp w.heap.size W2.heap.size W' w3 := Stp.of_ext e3 HSZ.out
        exact ⟨hst.from_, hst.below, ⟨B0.out.ext e3, B1.out.ext e3, B2.out.ext e3, B3.out.ext e3, B4.out.ext e3, B5.out.ext e3, happ.out HNO.out⟩, HEE.out.trans e3⟩
      | false =>
        have hyes : p k l = true := by rw [HPP.out, hg, hq]; rfl
        have HYES := Lib.hid hyes; have HQ2 := Lib.hid hq
        clear hg hq hyes
        gi_wp2_with fail
        refine ⟨trivial, CallsIn.inRound l' (callsIn_wide.2 ((SAFE.out k l W' HEE.out hk hl).mono ?_))⟩
        rintro e w3 ⟨rfl, e3⟩
        rw [HQ2.out]
        have cb0 := (B0.out.ext e3).cell; have cb2 := (B2.out.ext e3).cell
        have E3 := Lib.hid e3
        clear cb1 cb3 cm1 cm2 e3
        gi_wp2_with fail
        refine ⟨trivial, CallsIn.inRound l' (callsIn_wide.2 ((SQ.out k l w3 (HEE.out.trans E3.out) hk hl).mono ?_))⟩
        rintro e w6 ⟨v, vs, rfl, own, e6⟩
        obtain ⟨rr, hrr⟩ : ∃ rr, ((bestN f b k l m n).map fun x => set4 b k l x.1 x.2) = rr := ⟨_, rfl⟩
        rw [hrr] at own
        rw [hrr]
        have own' : OwnB w6 w3.heap.size v vs (outT n m rr) := by cases rr <;> exact own
        clear own
        have own := own'
        clear own'
        obtain ⟨M, hM⟩ : ∃ M, outT n m rr = M := ⟨_, rfl⟩
        rw [hM] at own
        obtain ⟨a6, c6, rfl, _⟩ := own.rows
        obtain ⟨bk, hbk⟩ : ∃ bk, Option.isSome rr = bk := ⟨_, rfl⟩
        rw [hbk]
        have HRR := Lib.hid hrr
        clear hrr
        have E36 := Lib.hid (E3.out.trans e6)
        have b4' := B4.out.ext E36.out; have b5' := B5.out.ext E36.out
        have cb4 := b4'.cell; have fb4 := b4'.frozen; have cb5 := b5'.cell; have fb5 := b5'.frozen
        have B44 := Lib.hid b4'; have B55 := Lib.hid b5'; have OW := Lib.hid own; have HM2 := Lib.hid hM; have HBK := Lib.hid hbk; have E6S := Lib.hid e6.size; have E3S := Lib.hid E3.out.size
        have n1 : ¬ p4 = p5 := by have := HP.out; omega
        have n2 : ¬ p5 = p4 := by have := HP.out; omega
        have h45 : Hid (w.heap.size ≤ p4 ∧ w.heap.size ≤ p5 ∧ p4 < W'.heap.size ∧ p5 < W'.heap.size) := by have := HP.out; have h4 := B4.out.lt; have h5 := B5.out.lt; exact ⟨by omega, by omega, h4, h5⟩
        clear b4' b5' own hM hbk e6 cb0 cb2
        gi_wp2_with fail
        obtain ⟨q4, q5, q6, q7⟩ := h45.out
        have q8 := E3S.out; have q9 := E6S.out
        have hst : Stp w.heap.size W2.heap.size W' ((w6.setCell ⟨p4, 0, none⟩ (.slice a6 M.length c6)).setCell ⟨p5, 0, none⟩ (.bool bk)) := ((Stp.of_ext E36.out HSZ.out).setCell (p := ⟨p4, 0, none⟩) q4 _).setCell (p := ⟨p5, 0, none⟩) q5 _
        have own2 := OW.out.only (S := fun x => x = p4 ∨ x = p5) (((Only.refl _ _).setCell (p := ⟨p4, 0, none⟩) (.inl rfl) (.slice a6 M.length c6)).setCell (p := ⟨p5, 0, none⟩) (.inr rfl) (.bool bk)) (fun x hx => by have := (OW.out.outer_lt hx).1; omega) (fun i hi x hx => by have := (OW.out.inner_lt hi hx).1; omega)
        refine ⟨hst.from_, ⟨rfl, (⟨(k, l), hk, hl⟩ : Cell n m), pre, rfl, HPRE.out, HYES.out, _, vs, rr, HRR.out, (B44.out.set _).other ⟨p5, 0, none⟩ _ n2, by rw [HBK.out]; exact (B55.out.other ⟨p4, 0, none⟩ _ n1).set _, ?_⟩, ((HEE.out.trans E36.out).setCell (p := ⟨p4, 0, none⟩) q4 _).setCell (p := ⟨p5, 0, none⟩) q5 _⟩
        rw [HM2.out]
        exact own2.base (by omega)
  case done =>
    rintro D W hD ⟨b0', b1, b2, b3, b4, b5, hall⟩ hE hK
    exfalso
    have h0 := none_of_all hall
    rw [← HPE.out, HU.out] at h0
    have := HU1.out
    omega
  case stop =>
    rintro D cc pre W hD ⟨k, l, hpre⟩ ⟨rfl, x, pre0, rfl, h3, h4, v, vs, rr, hrr, b4, b5, own⟩ hE hK
    have hfirst := firstAt_of_pre hpre h3 h4
    have hDw : w.heap.size ≤ D := by have := e2.size; omega
    have HFI := Lib.hid hfirst; have HOW := Lib.hid own; have HB4 := Lib.hid b4; have HB5 := Lib.hid b5
    have hmany : 1 ≤ manyN n m (notSafeF n m f g b s) := by rw [HU.out]; have := HU1.out; omega
    have HMANY := Lib.hid hmany
    clear hfirst own b4 b5 hpre h3 h4 d0 d1 d2 d3 d4 d5 hcI bI hmany
    gi_wp2_with fail
    refine leaveCD2 hK rfl rfl rfl rfl rfl rfl rfl HB4.out HB5.out ⟨v, vs, rr, rfl, .inr ⟨x.1.1, x.1.2, by rw [HPE.out]; exact HFI.out, HMANY.out, hrr.symm⟩, ?_, hE.taken hDw _⟩
    have := HOW.out.cel (Cel.taken hK (.deferred none))
    cases rr <;> exact this
end Go.Proofs.Ytnlolgooicgfdaa
