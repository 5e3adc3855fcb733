/- The room, as it is filled; the boxes of the walk of impl.shift. -/
import Derived.Test.YtfompehpoanhaaaReach
import Derived.Test.YtfompehpoanhaaaTabEqB
import Derived.Test.YtfompehpoanhaaaTurn
import Derived.Test.YtfompehpoanhaaaBase
import Derived.Sort.LoopGhostIn
import Derived.Test.YtfompehpoanhaaaFlow
/- The room, as it is filled; the boxes of the walk of impl.shift. -/
namespace Go.Proofs.Ytfompehpoanhaaa
open Go.RowKit Go.DC Go.Shelf
attribute [local go_sem] Oper.semAt_some
/-- The boxes of the walk. -/
structure Env (W : World) (n p11 p13 : Nat) (vt vm : Value) (i j : Nat) (up : Bool) (H : Nat) (vr : Value) : Prop where
  bT : Box W n 23 vt
  bM : Box W (n + 1) 32 vm
  bI : Box W (n + 1 + 1) 3 (.int .i64 i)
  bJ : Box W (n + 1 + 1 + 1) 3 (.int .i64 j)
  bU : Box W (n + 1 + 1 + 1 + 1) 4 (.bool up)
  bH : Box W p11 3 (.int .i64 H)
  bR : Box W p13 23 vr
theorem Env.cel {W W' : World} {n p11 p13 : Nat} {vt vm : Value} {i j : Nat} {up : Bool} {H : Nat} {vr : Value} (h : Env W n p11 p13 vt vm i j up H vr) (k : Cel W W') : Env W' n p11 p13 vt vm i j up H vr :=
  ⟨h.bT.cel k, h.bM.cel k, h.bI.cel k, h.bJ.cel k, h.bU.cel k, h.bH.cel k, h.bR.cel k⟩
theorem Env.ext {W W' : World} {n p11 p13 : Nat} {vt vm : Value} {i j : Nat} {up : Bool} {H : Nat} {vr : Value} (h : Env W n p11 p13 vt vm i j up H vr) (k : Ext W W') : Env W' n p11 p13 vt vm i j up H vr := h.cel (Cel.of_ext k)
theorem Env.other {W : World} {n p11 p13 : Nat} {vt vm : Value} {i j : Nat} {up : Bool} {H : Nat} {vr : Value} (h : Env W n p11 p13 vt vm i j up H vr) (p : Addr) (u : Value) (h1 : n + 4 < p.block) (h2 : p.block ≠ p11) (h3 : p.block ≠ p13) : Env (W.setCell p u) n p11 p13 vt vm i j up H vr :=
  ⟨h.bT.other p u (by omega), h.bM.other p u (by omega), h.bI.other p u (by omega), h.bJ.other p u (by omega), h.bU.other p u (by omega), h.bH.other p u h2, h.bR.other p u h3⟩
/-- The room behind the first cells. -/
def fillG (h : Nat) (f : Nat → Nat → Int) (b : Nat → Nat → Bool) (i j : Nat) (up : Bool) {H M : Nat} (pre : List (Cell H M)) (u v : Nat) : Int :=
  if u < h then (if h ≤ v then (if cnt pre u (v - h) = 0 then 0 else roomG h f b i j up f u v) else 0)
  else (if v < h then (if cnt pre v (u - h) = 0 then 0 else roomG h f b i j up f u v) else 0)
theorem fillG_nil (h : Nat) (f : Nat → Nat → Int) (b : Nat → Nat → Bool) (i j : Nat) (up : Bool) {H M : Nat} : fillG h f b i j up ([] : List (Cell H M)) = fun _ _ => 0 := by
  funext u v
  unfold fillG
  simp [cnt_nil]
theorem fillG_all {f : Nat → Nat → Int} {b : Nat → Nat → Bool} {i j : Nat} {up : Bool} {H M : Nat} {u v : Nat} (hu : u < H + M) (hv : v < H + M) : fillG H f b i j up (allCells H M) u v = roomG H f b i j up f u v := by
  unfold fillG
  by_cases h1 : u < H
  · rw [if_pos h1]
    by_cases h2 : H ≤ v
    · rw [if_pos h2, cnt_all h1 (by omega)]; simp
    · rw [if_neg h2]; unfold roomG; rw [if_pos h1, if_neg h2]
  · rw [if_neg h1]
    by_cases h2 : v < H
    · rw [if_pos h2, cnt_all h2 (by omega)]; simp
    · rw [if_neg h2]; unfold roomG; rw [if_neg h1, if_neg h2]
theorem fillG_skip {f : Nat → Nat → Int} {b : Nat → Nat → Bool} {i j : Nat} {up : Bool} {H M : Nat} (pre : List (Cell H M)) {k l : Nat} (hk : k < H) (hl : l < M) (hh : hid b i j k l = false) : fillG H f b i j up (pre ++ [⟨(k, l), hk, hl⟩]) = fillG H f b i j up pre := by
  funext u v
  have hz : ∀ u v, roomG H f b i j up f u v ≠ 0 → (u < H ∧ H ≤ v → ¬ (u = k ∧ v - H = l)) ∧ (H ≤ u ∧ v < H → ¬ (v = k ∧ u - H = l)) := fun u v hne => by
    refine ⟨fun ⟨a1, a2⟩ ⟨a3, a4⟩ => hne ?_, fun ⟨a1, a2⟩ ⟨a3, a4⟩ => hne ?_⟩
    · unfold roomG; rw [if_pos a1, if_pos a2, a3, a4, hh]; rfl
    · unfold roomG; rw [if_neg (by omega), if_pos a2, a3, a4, hh]; rfl
  unfold fillG
  by_cases h0 : roomG H f b i j up f u v = 0
  · rw [h0]; simp
  · obtain ⟨z1, z2⟩ := hz u v h0
    by_cases h1 : u < H
    · rw [if_pos h1, if_pos h1]
      by_cases h2 : H ≤ v
      · rw [if_pos h2, if_pos h2, cnt_append, cnt_one]
        have := z1 ⟨h1, h2⟩
        simp only [this, if_false, Nat.add_zero]
      · rw [if_neg h2, if_neg h2]
    · rw [if_neg h1, if_neg h1]
      by_cases h2 : v < H
      · rw [if_pos h2, if_pos h2, cnt_append, cnt_one]
        have := z2 ⟨by omega, h2⟩
        simp only [this, if_false, Nat.add_zero]
      · rw [if_neg h2, if_neg h2]
theorem fillG_put {f : Nat → Nat → Int} {b : Nat → Nat → Bool} {i j : Nat} {up : Bool} {H M : Nat} (pre : List (Cell H M)) {k l : Nat} (hk : k < H) (hl : l < M) (hh : hid b i j k l = true) :
    upd (upd (fillG H f b i j up pre) k (H + l) (rc f up f k l)) (H + l) k (cr f up f k l) = fillG H f b i j up (pre ++ [⟨(k, l), hk, hl⟩]) := by
  funext u v
  have hs : H + l - H = l := by omega
  by_cases q1 : u = H + l ∧ v = k
  · obtain ⟨rfl, rfl⟩ := q1
    rw [upd_at]
    unfold fillG
    rw [if_neg (by omega), if_pos hk, cnt_append, cnt_one, hs, roomG_cr (by omega) hk (by rw [hs]; exact hh), hs]
    simp
  · rw [upd_ne q1]
    by_cases q2 : u = k ∧ v = H + l
    · obtain ⟨rfl, rfl⟩ := q2
      rw [upd_at]
      unfold fillG
      rw [if_pos hk, if_pos (by omega), cnt_append, cnt_one, hs, roomG_rc hk (by omega) (by rw [hs]; exact hh), hs]
      simp
    · rw [upd_ne q2]
      unfold fillG
      by_cases h1 : u < H
      · rw [if_pos h1, if_pos h1]
        by_cases h2 : H ≤ v
        · rw [if_pos h2, if_pos h2, cnt_append, cnt_one]
          have : ¬ (u = k ∧ v - H = l) := fun e => q2 ⟨e.1, by omega⟩
          simp only [this, if_false, Nat.add_zero]
        · rw [if_neg h2, if_neg h2]
      · rw [if_neg h1, if_neg h1]
        by_cases h2 : v < H
        · rw [if_pos h2, if_pos h2, cnt_append, cnt_one]
          have : ¬ (v = k ∧ u - H = l) := fun e => q1 ⟨by omega, e.1⟩
          simp only [this, if_false, Nat.add_zero]
        · rw [if_neg h2, if_neg h2]
/-- How much (i, j) can be changed. -/
def ShiftOut (H M : Nat) (f : Nat → Nat → Int) (b : Nat → Nat → Bool) (i j : Nat) (up : Bool) (w : World) (e : Ending) (w' : World) : Prop :=
  ∃ (F : Int) (x : Nat → Nat → Int) (R C : Nat → Bool), e = .returned (.int .i64 F) ∧ Near H M f b i j x ∧ x i j = f i j + sgn up F ∧ Cut H M b i j up x R C ∧ Ext w w'
/-- Five new boxes. -/
structure Box5 (W : World) (n : Nat) (T1 T2 T3 T4 : TypeId) (u1 u2 u3 u4 u5 : Value) : Prop where
  b1 : Box W n T1 u1
  b2 : Box W (n + 1) T2 u2
  b3 : Box W (n + 1 + 1) T3 u3
  b4 : Box W (n + 1 + 1 + 1) T3 u4
  b5 : Box W (n + 1 + 1 + 1 + 1) T4 u5
  size : W.heap.size = n + 5
theorem box5 (w : World) (T1 T2 T3 T4 : TypeId) (u1 u2 u3 u4 u5 : Value) : Box5 (((((w.alloc (.cells #[u1] T1)).alloc (.cells #[u2] T2)).alloc (.cells #[u3] T3)).alloc (.cells #[u4] T3)).alloc (.cells #[u5] T4)) w.heap.size T1 T2 T3 T4 u1 u2 u3 u4 u5 := by
  have s1 : (w.alloc (.cells #[u1] T1)).heap.size = w.heap.size + 1 := by simp
  have s2 : ((w.alloc (.cells #[u1] T1)).alloc (.cells #[u2] T2)).heap.size = w.heap.size + 2 := by simp
  have s3 : (((w.alloc (.cells #[u1] T1)).alloc (.cells #[u2] T2)).alloc (.cells #[u3] T3)).heap.size = w.heap.size + 3 := by simp
  have s4 : ((((w.alloc (.cells #[u1] T1)).alloc (.cells #[u2] T2)).alloc (.cells #[u3] T3)).alloc (.cells #[u4] T3)).heap.size = w.heap.size + 4 := by simp
  have n1 := Box.new w T1 u1
  have n2 := Box.new (w.alloc (.cells #[u1] T1)) T2 u2
  have n3 := Box.new ((w.alloc (.cells #[u1] T1)).alloc (.cells #[u2] T2)) T3 u3
  have n4 := Box.new (((w.alloc (.cells #[u1] T1)).alloc (.cells #[u2] T2)).alloc (.cells #[u3] T3)) T3 u4
  have n5 := Box.new ((((w.alloc (.cells #[u1] T1)).alloc (.cells #[u2] T2)).alloc (.cells #[u3] T3)).alloc (.cells #[u4] T3)) T4 u5
  rw [s1] at n2
  rw [s2] at n3
  rw [s3] at n4
  rw [s4] at n5
  exact ⟨(((n1.ext ((Ext.refl _).alloc _)).ext ((Ext.refl _).alloc _)).ext ((Ext.refl _).alloc _)).ext ((Ext.refl _).alloc _), ((n2.ext ((Ext.refl _).alloc _)).ext ((Ext.refl _).alloc _)).ext ((Ext.refl _).alloc _), (n3.ext ((Ext.refl _).alloc _)).ext ((Ext.refl _).alloc _), n4.ext ((Ext.refl _).alloc _), n5, by simp⟩
/-- A table's sums are small. -/
theorem small_of {t : List (List Int)} {mk : List (List Bool)} (h : maskOk t mk = true) : Small t.length (wide t) (get 0 t) := by
  obtain ⟨_, h1, h4, m1, m4, hc⟩ := tabOk_rect (maskOk_rect h).1
  refine ⟨fun k hk => ?_, fun l hl => ?_, hc⟩
  · have e : sumN (wide t) (get 0 t k) ≤ sumN (wide t) (fun _ => 99) := sumN_le fun l hl => (hc k l hk hl).2
    rw [sumN_const] at e
    omega
  · have e : sumN t.length (fun k => get 0 t k l) ≤ sumN t.length (fun _ => 99) := sumN_le fun k hk => (hc k l hk hl).2
    rw [sumN_const] at e
    omega
end Go.Proofs.Ytfompehpoanhaaa

/- The bounds of a cell; whether there is a cell. -/
namespace Go.Proofs.Ytfompehpoanhaaa
open Go.RowKit Go.DC
/-- There is a cell (i, j). -/
def hasC (t : List (List Int)) (mk : List (List Bool)) (i j : Int) : Bool := maskOk t mk && (decide (0 ≤ i) && decide (i < t.length) && (decide (0 ≤ j) && decide (j < wide t)))
theorem hasC_no {t : List (List Int)} {mk : List (List Bool)} {i j : Int} (h : maskOk t mk = false) : hasC t mk i j = false := by unfold hasC; rw [h]; rfl
theorem hasC_iff {t : List (List Int)} {mk : List (List Bool)} {i j : Int} : hasC t mk i j = true ↔ maskOk t mk = true ∧ 0 ≤ i ∧ i < t.length ∧ 0 ≤ j ∧ j < wide t := by
  unfold hasC
  simp only [Bool.and_eq_true, decide_eq_true_eq]
  constructor
  · rintro ⟨h1, ⟨h2, h3⟩, h4, h5⟩; exact ⟨h1, h2, h3, h4, h5⟩
  · rintro ⟨h1, h2, h3, h4, h5⟩; exact ⟨h1, ⟨h2, h3⟩, h4, h5⟩
theorem hasC_nat {t : List (List Int)} {mk : List (List Bool)} {i j : Int} (h : hasC t mk i j = true) : ∃ i' j' : Nat, i = i' ∧ j = j' ∧ i' < t.length ∧ j' < wide t ∧ maskOk t mk = true := by
  obtain ⟨h1, h2, h3, h4, h5⟩ := hasC_iff.1 h
  exact ⟨i.toNat, j.toNat, by omega, by omega, by omega, by omega, h1⟩
/-- The greatest and the least number of a cell, -1 where there is none. -/
noncomputable def highV (t : List (List Int)) (mk : List (List Bool)) (i j : Int) : Int := if hasC t mk i j then high t.length (wide t) (get 0 t) (get false mk) i.toNat j.toNat else -1
noncomputable def lowV (t : List (List Int)) (mk : List (List Bool)) (i j : Int) : Int := if hasC t mk i j then low t.length (wide t) (get 0 t) (get false mk) i.toNat j.toNat else -1
theorem highV_no {t : List (List Int)} {mk : List (List Bool)} {i j : Int} (h : hasC t mk i j = false) : highV t mk i j = -1 := by unfold highV; rw [h]; rfl
theorem lowV_no {t : List (List Int)} {mk : List (List Bool)} {i j : Int} (h : hasC t mk i j = false) : lowV t mk i j = -1 := by unfold lowV; rw [h]; rfl
theorem highV_at {t : List (List Int)} {mk : List (List Bool)} {i j : Nat} (h : maskOk t mk = true) (hi : i < t.length) (hj : j < wide t) : highV t mk i j = high t.length (wide t) (get 0 t) (get false mk) i j := by
  unfold highV; rw [if_pos (hasC_iff.2 ⟨h, by omega, by omega, by omega, by omega⟩)]; rfl
theorem lowV_at {t : List (List Int)} {mk : List (List Bool)} {i j : Nat} (h : maskOk t mk = true) (hi : i < t.length) (hj : j < wide t) : lowV t mk i j = low t.length (wide t) (get 0 t) (get false mk) i j := by
  unfold lowV; rw [if_pos (hasC_iff.2 ⟨h, by omega, by omega, by omega, by omega⟩)]; rfl
theorem maskOk_pos {t : List (List Int)} {mk : List (List Bool)} (h : maskOk t mk = true) : Pos t.length (wide t) (get 0 t) := fun k l hk hl => ((tabOk_rect (maskOk_rect h).1).2.2.2.2.2 k l hk hl).1
theorem maskOk_lens {t : List (List Int)} {mk : List (List Bool)} (h : maskOk t mk = true) : 1 ≤ t.length ∧ t.length ≤ 4 ∧ 1 ≤ wide t ∧ wide t ≤ 4 := by
  obtain ⟨_, h1, h4, m1, m4, _⟩ := tabOk_rect (maskOk_rect h).1
  exact ⟨h1, h4, m1, m4⟩
theorem high_bd {t : List (List Int)} {mk : List (List Bool)} (h : maskOk t mk = true) {i j : Nat} (hi : i < t.length) (hj : j < wide t) : 0 ≤ high t.length (wide t) (get 0 t) (get false mk) i j ∧ high t.length (wide t) (get 0 t) (get false mk) i j ≤ 396 := by
  obtain ⟨_, h1, h4, m1, m4, hc⟩ := tabOk_rect (maskOk_rect h).1
  have h0 := maskOk_pos h
  have a := high_ge (b := get false mk) h0 hi hj
  have c := h0 i j hi hj
  have d := high_row_le (b := get false mk) h0 hi hj
  have e : sumN (wide t) (get 0 t i) ≤ sumN (wide t) (fun _ => 99) := sumN_le fun l hl => (hc i l hi hl).2
  rw [sumN_const] at e
  omega
theorem low_bd {t : List (List Int)} {mk : List (List Bool)} (h : maskOk t mk = true) {i j : Nat} (hi : i < t.length) (hj : j < wide t) : 0 ≤ low t.length (wide t) (get 0 t) (get false mk) i j ∧ low t.length (wide t) (get 0 t) (get false mk) i j ≤ 99 := by
  obtain ⟨_, h1, h4, m1, m4, hc⟩ := tabOk_rect (maskOk_rect h).1
  have h0 := maskOk_pos h
  have a := low_le (b := get false mk) h0 hi hj
  have c := low_pos (b := get false mk) h0 hi hj
  have d := (hc i j hi hj).2
  omega
end Go.Proofs.Ytfompehpoanhaaa

/- The two stores of a round of impl.shift's first loop. No conditions. -/
namespace Go.Proofs.Ytfompehpoanhaaa
open Go.RowKit Go.DC Go.Shelf
attribute [local go_sem] Oper.semAt_some
end Go.Proofs.Ytfompehpoanhaaa

/- A round of impl.shift's first loop. No conditions. -/
namespace Go.Proofs.Ytfompehpoanhaaa
open Go.RowKit Go.DC Go.Shelf
attribute [local go_sem] Oper.semAt_some
end Go.Proofs.Ytfompehpoanhaaa
