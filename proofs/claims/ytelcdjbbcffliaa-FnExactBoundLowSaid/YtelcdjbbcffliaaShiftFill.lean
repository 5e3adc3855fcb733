/- The room, as it is filled; the boxes of the walk of impl.shift. -/
import Derived.Test.YtelcdjbbcffliaaReach
import Derived.Test.YtelcdjbbcffliaaTabEqB
import Derived.Test.YtelcdjbbcffliaaTurn
import Derived.Test.YtelcdjbbcffliaaBase
import Derived.Sort.LoopGhostIn
import Derived.Test.YtelcdjbbcffliaaFlow
/- The room, as it is filled; the boxes of the walk of impl.shift. -/
namespace Go.Proofs.Ytelcdjbbcffliaa
open Go.RowKit Go.DC Go.Shelf
attribute [local go_sem] Oper.semAt_some
/-- The boxes of the walk. -/
structure Env (W : World) (n p11 p13 : Nat) (vt vm : Value) (i j : Nat) (up : Bool) (H : Nat) (vr : Value) : Prop where
  bT : Box W n 23 vt
  bM : Box W (n + 1) 24 vm
  bI : Box W (n + 1 + 1) 3 (.int .i64 i)
  bJ : Box W (n + 1 + 1 + 1) 3 (.int .i64 j)
  bU : Box W (n + 1 + 1 + 1 + 1) 4 (.bool up)
  bH : Box W p11 3 (.int .i64 H)
  bR : Box W p13 23 vr
theorem Env.cel {W W' : World} {n p11 p13 : Nat} {vt vm : Value} {i j : Nat} {up : Bool} {H : Nat} {vr : Value} (h : Env W n p11 p13 vt vm i j up H vr) (k : Cel W W') : Env W' n p11 p13 vt vm i j up H vr :=
  ⟨h.bT.cel k, h.bM.cel k, h.bI.cel k, h.bJ.cel k, h.bU.cel k, h.bH.cel k, h.bR.cel k⟩
theorem Env.ext {W W' : World} {n p11 p13 : Nat} {vt vm : Value} {i j : Nat} {up : Bool} {H : Nat} {vr : Value} (h : Env W n p11 p13 vt vm i j up H vr) (k : Ext W W') : Env W' n p11 p13 vt vm i j up H vr := h.cel (Cel.of_ext k)
theorem Env.other {W : World} {n p11 p13 : Nat} {vt vm : Value} {i j : Nat} {up : Bool} {H : Nat} {vr : Value} (h : Env W n p11 p13 vt vm i j up H vr) (p : Addr) (u : Value) (h1 : n + 4 < p.block) (h2 : p.block ≠ p11) (h3 : p.block ≠ p13) : Env (W.setCell p u) n p11 p13 vt vm i j up H vr :=
  ⟨h.bT.other p u (by omega), h.bM.other p u (by omega), h.bI.other p u (by omega), h.bJ.other p u (by omega), h.bU.other p u (by omega), h.bH.other p u h2, h.bR.other p u h3⟩
/-- The room behind the first cells. -/
def fillG (h : Nat) (f : Nat → Nat → Int) (b : Nat → Nat → Bool) (i j : Nat) (up : Bool) {H M : Nat} (pre : List (Cell H M)) (u v : Nat) : Int :=
  if u < h then (if h ≤ v then (if cnt pre u (v - h) = 0 then 0 else roomG h f b i j up f u v) else 0)
  else (if v < h then (if cnt pre v (u - h) = 0 then 0 else roomG h f b i j up f u v) else 0)
theorem fillG_nil (h : Nat) (f : Nat → Nat → Int) (b : Nat → Nat → Bool) (i j : Nat) (up : Bool) {H M : Nat} : fillG h f b i j up ([] : List (Cell H M)) = fun _ _ => 0 := by
  funext u v
  unfold fillG
  simp [cnt_nil]
theorem fillG_all {f : Nat → Nat → Int} {b : Nat → Nat → Bool} {i j : Nat} {up : Bool} {H M : Nat} {u v : Nat} (hu : u < H + M) (hv : v < H + M) : fillG H f b i j up (allCells H M) u v = roomG H f b i j up f u v := by
  unfold fillG
  by_cases h1 : u < H
  · rw [if_pos h1]
    by_cases h2 : H ≤ v
    · rw [if_pos h2, cnt_all h1 (by omega)]; simp
    · rw [if_neg h2]; unfold roomG; rw [if_pos h1, if_neg h2]
  · rw [if_neg h1]
    by_cases h2 : v < H
    · rw [if_pos h2, cnt_all h2 (by omega)]; simp
    · rw [if_neg h2]; unfold roomG; rw [if_neg h1, if_neg h2]
theorem fillG_skip {f : Nat → Nat → Int} {b : Nat → Nat → Bool} {i j : Nat} {up : Bool} {H M : Nat} (pre : List (Cell H M)) {k l : Nat} (hk : k < H) (hl : l < M) (hh : hid b i j k l = false) : fillG H f b i j up (pre ++ [⟨(k, l), hk, hl⟩]) = fillG H f b i j up pre := by
  funext u v
  have hz : ∀ u v, roomG H f b i j up f u v ≠ 0 → (u < H ∧ H ≤ v → ¬ (u = k ∧ v - H = l)) ∧ (H ≤ u ∧ v < H → ¬ (v = k ∧ u - H = l)) := fun u v hne => by
    refine ⟨fun ⟨a1, a2⟩ ⟨a3, a4⟩ => hne ?_, fun ⟨a1, a2⟩ ⟨a3, a4⟩ => hne ?_⟩
    · unfold roomG; rw [if_pos a1, if_pos a2, a3, a4, hh]; rfl
    · unfold roomG; rw [if_neg (by omega), if_pos a2, a3, a4, hh]; rfl
  unfold fillG
  by_cases h0 : roomG H f b i j up f u v = 0
  · rw [h0]; simp
  · obtain ⟨z1, z2⟩ := hz u v h0
    by_cases h1 : u < H
    · rw [if_pos h1, if_pos h1]
      by_cases h2 : H ≤ v
      · rw [if_pos h2, if_pos h2, cnt_append, cnt_one]
        have := z1 ⟨h1, h2⟩
        simp only [this, if_false, Nat.add_zero]
      · rw [if_neg h2, if_neg h2]
    · rw [if_neg h1, if_neg h1]
      by_cases h2 : v < H
      · rw [if_pos h2, if_pos h2, cnt_append, cnt_one]
        have := z2 ⟨by omega, h2⟩
        simp only [this, if_false, Nat.add_zero]
      · rw [if_neg h2, if_neg h2]
theorem fillG_put {f : Nat → Nat → Int} {b : Nat → Nat → Bool} {i j : Nat} {up : Bool} {H M : Nat} (pre : List (Cell H M)) {k l : Nat} (hk : k < H) (hl : l < M) (hh : hid b i j k l = true) :
    upd (upd (fillG H f b i j up pre) k (H + l) (rc f up f k l)) (H + l) k (cr f up f k l) = fillG H f b i j up (pre ++ [⟨(k, l), hk, hl⟩]) := by
  funext u v
  have hs : H + l - H = l := by omega
  by_cases q1 : u = H + l ∧ v = k
  · obtain ⟨rfl, rfl⟩ := q1
    rw [upd_at]
    unfold fillG
    rw [if_neg (by omega), if_pos hk, cnt_append, cnt_one, hs, roomG_cr (by omega) hk (by rw [hs]; exact hh), hs]
    simp
  · rw [upd_ne q1]
    by_cases q2 : u = k ∧ v = H + l
    · obtain ⟨rfl, rfl⟩ := q2
      rw [upd_at]
      unfold fillG
      rw [if_pos hk, if_pos (by omega), cnt_append, cnt_one, hs, roomG_rc hk (by omega) (by rw [hs]; exact hh), hs]
      simp
    · rw [upd_ne q2]
      unfold fillG
      by_cases h1 : u < H
      · rw [if_pos h1, if_pos h1]
        by_cases h2 : H ≤ v
        · rw [if_pos h2, if_pos h2, cnt_append, cnt_one]
          have : ¬ (u = k ∧ v - H = l) := fun e => q2 ⟨e.1, by omega⟩
          simp only [this, if_false, Nat.add_zero]
        · rw [if_neg h2, if_neg h2]
      · rw [if_neg h1, if_neg h1]
        by_cases h2 : v < H
        · rw [if_pos h2, if_pos h2, cnt_append, cnt_one]
          have : ¬ (v = k ∧ u - H = l) := fun e => q1 ⟨by omega, e.1⟩
          simp only [this, if_false, Nat.add_zero]
        · rw [if_neg h2, if_neg h2]
/-- How much (i, j) can be changed. -/
def ShiftOut (H M : Nat) (f : Nat → Nat → Int) (b : Nat → Nat → Bool) (i j : Nat) (up : Bool) (w : World) (e : Ending) (w' : World) : Prop :=
  ∃ (F : Int) (x : Nat → Nat → Int) (R C : Nat → Bool), e = .returned (.int .i64 F) ∧ Near H M f b i j x ∧ x i j = f i j + sgn up F ∧ Cut H M b i j up x R C ∧ Ext w w'
/-- Five new boxes. -/
structure Box5 (W : World) (n : Nat) (T1 T2 T3 T4 : TypeId) (u1 u2 u3 u4 u5 : Value) : Prop where
  b1 : Box W n T1 u1
  b2 : Box W (n + 1) T2 u2
  b3 : Box W (n + 1 + 1) T3 u3
  b4 : Box W (n + 1 + 1 + 1) T3 u4
  b5 : Box W (n + 1 + 1 + 1 + 1) T4 u5
  size : W.heap.size = n + 5
theorem box5 (w : World) (T1 T2 T3 T4 : TypeId) (u1 u2 u3 u4 u5 : Value) : Box5 (((((w.alloc (.cells #[u1] T1)).alloc (.cells #[u2] T2)).alloc (.cells #[u3] T3)).alloc (.cells #[u4] T3)).alloc (.cells #[u5] T4)) w.heap.size T1 T2 T3 T4 u1 u2 u3 u4 u5 := by
  have s1 : (w.alloc (.cells #[u1] T1)).heap.size = w.heap.size + 1 := by simp
  have s2 : ((w.alloc (.cells #[u1] T1)).alloc (.cells #[u2] T2)).heap.size = w.heap.size + 2 := by simp
  have s3 : (((w.alloc (.cells #[u1] T1)).alloc (.cells #[u2] T2)).alloc (.cells #[u3] T3)).heap.size = w.heap.size + 3 := by simp
  have s4 : ((((w.alloc (.cells #[u1] T1)).alloc (.cells #[u2] T2)).alloc (.cells #[u3] T3)).alloc (.cells #[u4] T3)).heap.size = w.heap.size + 4 := by simp
  have n1 := Box.new w T1 u1
  have n2 := Box.new (w.alloc (.cells #[u1] T1)) T2 u2
  have n3 := Box.new ((w.alloc (.cells #[u1] T1)).alloc (.cells #[u2] T2)) T3 u3
  have n4 := Box.new (((w.alloc (.cells #[u1] T1)).alloc (.cells #[u2] T2)).alloc (.cells #[u3] T3)) T3 u4
  have n5 := Box.new ((((w.alloc (.cells #[u1] T1)).alloc (.cells #[u2] T2)).alloc (.cells #[u3] T3)).alloc (.cells #[u4] T3)) T4 u5
  rw [s1] at n2
  rw [s2] at n3
  rw [s3] at n4
  rw [s4] at n5
  exact ⟨(((n1.ext ((Ext.refl _).alloc _)).ext ((Ext.refl _).alloc _)).ext ((Ext.refl _).alloc _)).ext ((Ext.refl _).alloc _), ((n2.ext ((Ext.refl _).alloc _)).ext ((Ext.refl _).alloc _)).ext ((Ext.refl _).alloc _), (n3.ext ((Ext.refl _).alloc _)).ext ((Ext.refl _).alloc _), n4.ext ((Ext.refl _).alloc _), n5, by simp⟩
/-- A table's sums are small. -/
theorem small_of {t : List (List Int)} {mk : List (List Bool)} (h : maskOk t mk = true) : Small t.length (wide t) (get 0 t) := by
  obtain ⟨_, h1, h4, m1, m4, hc⟩ := tabOk_rect (maskOk_rect h).1
  refine ⟨fun k hk => ?_, fun l hl => ?_, hc⟩
  · have e : sumN (wide t) (get 0 t k) ≤ sumN (wide t) (fun _ => 99) := sumN_le fun l hl => (hc k l hk hl).2
    rw [sumN_const] at e
    omega
  · have e : sumN t.length (fun k => get 0 t k l) ≤ sumN t.length (fun _ => 99) := sumN_le fun k hk => (hc k l hk hl).2
    rw [sumN_const] at e
    omega
end Go.Proofs.Ytelcdjbbcffliaa

/- The bounds of a cell; whether there is a cell. -/
namespace Go.Proofs.Ytelcdjbbcffliaa
open Go.RowKit Go.DC
/-- There is a cell (i, j). -/
def hasC (t : List (List Int)) (mk : List (List Bool)) (i j : Int) : Bool := maskOk t mk && (decide (0 ≤ i) && decide (i < t.length) && (decide (0 ≤ j) && decide (j < wide t)))
theorem hasC_no {t : List (List Int)} {mk : List (List Bool)} {i j : Int} (h : maskOk t mk = false) : hasC t mk i j = false := by unfold hasC; rw [h]; rfl
theorem hasC_iff {t : List (List Int)} {mk : List (List Bool)} {i j : Int} : hasC t mk i j = true ↔ maskOk t mk = true ∧ 0 ≤ i ∧ i < t.length ∧ 0 ≤ j ∧ j < wide t := by
  unfold hasC
  simp only [Bool.and_eq_true, decide_eq_true_eq]
  constructor
  · rintro ⟨h1, ⟨h2, h3⟩, h4, h5⟩; exact ⟨h1, h2, h3, h4, h5⟩
  · rintro ⟨h1, h2, h3, h4, h5⟩; exact ⟨h1, ⟨h2, h3⟩, h4, h5⟩
theorem hasC_nat {t : List (List Int)} {mk : List (List Bool)} {i j : Int} (h : hasC t mk i j = true) : ∃ i' j' : Nat, i = i' ∧ j = j' ∧ i' < t.length ∧ j' < wide t ∧ maskOk t mk = true := by
  obtain ⟨h1, h2, h3, h4, h5⟩ := hasC_iff.1 h
  exact ⟨i.toNat, j.toNat, by omega, by omega, by omega, by omega, h1⟩
/-- The greatest and the least number of a cell, -1 where there is none. -/
noncomputable def highV (t : List (List Int)) (mk : List (List Bool)) (i j : Int) : Int := if hasC t mk i j then high t.length (wide t) (get 0 t) (get false mk) i.toNat j.toNat else -1
noncomputable def lowV (t : List (List Int)) (mk : List (List Bool)) (i j : Int) : Int := if hasC t mk i j then low t.length (wide t) (get 0 t) (get false mk) i.toNat j.toNat else -1
theorem highV_no {t : List (List Int)} {mk : List (List Bool)} {i j : Int} (h : hasC t mk i j = false) : highV t mk i j = -1 := by unfold highV; rw [h]; rfl
theorem lowV_no {t : List (List Int)} {mk : List (List Bool)} {i j : Int} (h : hasC t mk i j = false) : lowV t mk i j = -1 := by unfold lowV; rw [h]; rfl
theorem highV_at {t : List (List Int)} {mk : List (List Bool)} {i j : Nat} (h : maskOk t mk = true) (hi : i < t.length) (hj : j < wide t) : highV t mk i j = high t.length (wide t) (get 0 t) (get false mk) i j := by
  unfold highV; rw [if_pos (hasC_iff.2 ⟨h, by omega, by omega, by omega, by omega⟩)]; rfl
theorem lowV_at {t : List (List Int)} {mk : List (List Bool)} {i j : Nat} (h : maskOk t mk = true) (hi : i < t.length) (hj : j < wide t) : lowV t mk i j = low t.length (wide t) (get 0 t) (get false mk) i j := by
  unfold lowV; rw [if_pos (hasC_iff.2 ⟨h, by omega, by omega, by omega, by omega⟩)]; rfl
theorem maskOk_pos {t : List (List Int)} {mk : List (List Bool)} (h : maskOk t mk = true) : Pos t.length (wide t) (get 0 t) := fun k l hk hl => ((tabOk_rect (maskOk_rect h).1).2.2.2.2.2 k l hk hl).1
theorem maskOk_lens {t : List (List Int)} {mk : List (List Bool)} (h : maskOk t mk = true) : 1 ≤ t.length ∧ t.length ≤ 4 ∧ 1 ≤ wide t ∧ wide t ≤ 4 := by
  obtain ⟨_, h1, h4, m1, m4, _⟩ := tabOk_rect (maskOk_rect h).1
  exact ⟨h1, h4, m1, m4⟩
theorem high_bd {t : List (List Int)} {mk : List (List Bool)} (h : maskOk t mk = true) {i j : Nat} (hi : i < t.length) (hj : j < wide t) : 0 ≤ high t.length (wide t) (get 0 t) (get false mk) i j ∧ high t.length (wide t) (get 0 t) (get false mk) i j ≤ 396 := by
  obtain ⟨_, h1, h4, m1, m4, hc⟩ := tabOk_rect (maskOk_rect h).1
  have h0 := maskOk_pos h
  have a := high_ge (b := get false mk) h0 hi hj
  have c := h0 i j hi hj
  have d := high_row_le (b := get false mk) h0 hi hj
  have e : sumN (wide t) (get 0 t i) ≤ sumN (wide t) (fun _ => 99) := sumN_le fun l hl => (hc i l hi hl).2
  rw [sumN_const] at e
  omega
theorem low_bd {t : List (List Int)} {mk : List (List Bool)} (h : maskOk t mk = true) {i j : Nat} (hi : i < t.length) (hj : j < wide t) : 0 ≤ low t.length (wide t) (get 0 t) (get false mk) i j ∧ low t.length (wide t) (get 0 t) (get false mk) i j ≤ 99 := by
  obtain ⟨_, h1, h4, m1, m4, hc⟩ := tabOk_rect (maskOk_rect h).1
  have h0 := maskOk_pos h
  have a := low_le (b := get false mk) h0 hi hj
  have c := low_pos (b := get false mk) h0 hi hj
  have d := (hc i j hi hj).2
  omega
set_option maxHeartbeats 1000000 in
theorem hasCell_any (a mb : Option Addr) (c d : Nat) (t : List (List Int)) (mk : List (List Bool)) (i j : Int) (w : World) (ht : IRows w a t) (hmk : BRows w mb mk) (hm : t.length ≤ 9223372036854775807) (hm2 : mk.length ≤ 9223372036854775807) :
    Calls Try.prog 42 #[.slice a t.length c, .slice mb mk.length d, .int .i64 i, .int .i64 j] w fun e w' => e = .returned (.bool (hasC t mk i j)) ∧ w = w' := by
  have HT := Lib.hid ht; clear ht
  have HM := Lib.hid hmk; clear hmk
  go_enter Try.func42, Try.ntmps42
  go_wp2_with fail
  refine (MaskValid_any _ _ _ _ t mk _ HT.out HM.out hm hm2).mono ?_
  rintro e w' ⟨rfl, rfl⟩
  cases o1 : maskOk t mk
  · have HD := Lib.hid (hasC_no (i := i) (j := j) o1); clear o1
    go_wp2_with fail
    go_ret
    exact ⟨ret_bool HD.out.symm, rfl⟩
  have O1 := Lib.hid o1; clear o1
  obtain ⟨h1, _, _, _⟩ := maskOk_lens O1.out
  obtain ⟨b0, off0, a0, c0, rfl, hc0, _, _, _⟩ := HT.out 0 (by omega)
  rw [← wide_eq (by omega)] at hc0
  simp only [Nat.add_zero] at hc0
  have h0z : (0 : Int) < (t.length : Int) := by omega
  by_cases e1 : 0 ≤ i
  · by_cases e2 : i < t.length
    · by_cases e3 : 0 ≤ j
      · by_cases e4 : j < wide t
        · have hd : hasC t mk i j = true := hasC_iff.2 ⟨O1.out, e1, e2, e3, e4⟩
          have HD := Lib.hid hd; clear hd
          have hb1 : decide (0 ≤ i) = true := by simpa using e1
          have hb2 : decide (i < (t.length : Int)) = true := by simpa using e2
          have hb3 : decide (0 ≤ j) = true := by simpa using e3
          have hb4 : decide (j < (wide t : Int)) = true := by simpa using e4
          go_wp2_with fail
          go_ret
          exact ⟨ret_bool HD.out.symm, rfl⟩
        · have hd : hasC t mk i j = false := Bool.eq_false_iff.2 fun h => e4 (hasC_iff.1 h).2.2.2.2
          have HD := Lib.hid hd; clear hd
          have hb1 : decide (0 ≤ i) = true := by simpa using e1
          have hb2 : decide (i < (t.length : Int)) = true := by simpa using e2
          have hb3 : decide (0 ≤ j) = true := by simpa using e3
          have hb4 : decide (j < (wide t : Int)) = false := by simpa using e4
          go_wp2_with fail
          go_ret
          exact ⟨ret_bool HD.out.symm, rfl⟩
      · have hd : hasC t mk i j = false := Bool.eq_false_iff.2 fun h => e3 (hasC_iff.1 h).2.2.2.1
        have HD := Lib.hid hd; clear hd
        have hb1 : decide (0 ≤ i) = true := by simpa using e1
        have hb2 : decide (i < (t.length : Int)) = true := by simpa using e2
        have hb3 : decide (0 ≤ j) = false := by simpa using e3
        go_wp2_with fail
        go_ret
        exact ⟨ret_bool HD.out.symm, rfl⟩
    · have hd : hasC t mk i j = false := Bool.eq_false_iff.2 fun h => e2 (hasC_iff.1 h).2.2.1
      have HD := Lib.hid hd; clear hd
      have hb1 : decide (0 ≤ i) = true := by simpa using e1
      have hb2 : decide (i < (t.length : Int)) = false := by simpa using e2
      go_wp2_with fail
      go_ret
      exact ⟨ret_bool HD.out.symm, rfl⟩
  · have hd : hasC t mk i j = false := Bool.eq_false_iff.2 fun h => e1 (hasC_iff.1 h).2.1
    have HD := Lib.hid hd; clear hd
    have hb1 : decide (0 ≤ i) = false := by simpa using e1
    go_wp2_with fail
    go_ret
    exact ⟨ret_bool HD.out.symm, rfl⟩
end Go.Proofs.Ytelcdjbbcffliaa

/- The two stores of a round of impl.shift's first loop. No conditions. -/
namespace Go.Proofs.Ytelcdjbbcffliaa
open Go.RowKit Go.DC Go.Shelf
attribute [local go_sem] Oper.semAt_some
noncomputable def putCode9 : Code := ((Try.f43.body.bind (regionAt 9)).getD .skip)
set_option maxRecDepth 1000000 in
set_option maxHeartbeats 8000000 in
theorem put9_any (u0 u1 u2 u3 u4 u5 u6 u7 u8 u9 u10 u12 u18 u19 u20 u21 u22 u23 u24 u25 u26 u27 u28 u29 u30 u31 u32 u33 u34 u35 u36 u37 u38 u39 u40 u41 u42 u43 u44 u45 u46 u47 u48 u49 u50 u51 u52 u53 u54 u55 u56 u57 u58 u59 u60 u61 u62 u63 u64 u65 u66 u67 u68 u69 u70 u71 u72 u73 u74 u75 u76 u77 u78 u79 u80 u81 u82 u83 u84 u85 u86 u87 u88 u89 u90 u91 u92 u93 u94 u95 u96 u97 u98 u99 u100 u101 u102 u103 u104 u105 u106 u107 u108 u109 u110 u111 u112 u113 u114 u115 u116 u117 u118 u119 u120 u121 u122 u123 u124 u125 u126 u127 u128 u129 u130 u131 u132 u133 u134 u135 u136 u137 u138 u139 u140 u141 u142 u143 u144 u145 u146 u147 u148 u149 u150 u151 u152 u153 u154 u155 u156 u157 u158 u159 u160 u161 u162 u163 u164 u165 u166 u167 u168 u169 u170 u171 u172 u173 : Value) {ll n : Nat} {Q : Exit → Act → World → Prop} (p11 p13 H N k l v : Nat) (y : Int) (o g g' ck ck' cr : Nat) (W : World)
    (hvc : (H : Int) + (l : Int) = (v : Int)) (hvw : IntKind.i64.wrap (v : Int) = (v : Int)) (hvN : (v : Int) < (N : Int)) (hkN : (k : Int) < (N : Int))
    (cH : W.cell? ⟨p11, 0, none⟩ = some (.int .i64 (H : Int))) (cR : W.cell? ⟨p13, 0, none⟩ = some (.slice (some ⟨o, 0, none⟩) N cr))
    (co1 : W.cell? ⟨o, k, none⟩ = some (.slice (some ⟨g, 0, none⟩) N ck)) (co2 : W.cell? ⟨o, v, none⟩ = some (.slice (some ⟨g', 0, none⟩) N ck'))
    (z z' : Int) (cg : W.cell? ⟨g, v, none⟩ = some (.int .i64 z)) (fg : W.frozen? ⟨g, v, none⟩ = false) (cg' : W.cell? ⟨g', k, none⟩ = some (.int .i64 z')) (fg' : W.frozen? ⟨g', k, none⟩ = false)
    (hgg2 : g' ≠ g) (hop : g ≠ p13) (hop' : g' ≠ p13) (hop11 : g ≠ p11) (hop11' : g' ≠ p11)
    (hP : ∀ c a a' w, Q (.panic c) a w → Q (.panic c) a' w)
    (hQ : ∀ a, Q .normal a (((W.setCell ⟨g, v, none⟩ (.int .i64 y)).setCell ⟨g', k, none⟩ (.int .i64 3168)).drew)) :
    putCode9.wpIn (Fence.wide.inRound ll) n Try.prog Q ⟨#[u0, u1, u2, u3, u4, u5, u6, u7, u8, u9, u10, .pointer (some ⟨p11, 0, none⟩), u12, .pointer (some ⟨p13, 0, none⟩), .int .i64 (k : Int), .int .i64 (l : Int), .int .i64 y, .int .i64 3168, u18, u19, u20, u21, u22, u23, u24, u25, u26, u27, u28, u29, u30, u31, u32, u33, u34, u35, u36, u37, u38, u39, u40, u41, u42, u43, u44, u45, u46, u47, u48, u49, u50, u51, u52, u53, u54, u55, u56, u57, u58, u59, u60, u61, u62, u63, u64, u65, u66, u67, u68, u69, u70, u71, u72, u73, u74, u75, u76, u77, u78, u79, u80, u81, u82, u83, u84, u85, u86, u87, u88, u89, u90, u91, u92, u93, u94, u95, u96, u97, u98, u99, u100, u101, u102, u103, u104, u105, u106, u107, u108, u109, u110, u111, u112, u113, u114, u115, u116, u117, u118, u119, u120, u121, u122, u123, u124, u125, u126, u127, u128, u129, u130, u131, u132, u133, u134, u135, u136, u137, u138, u139, u140, u141, u142, u143, u144, u145, u146, u147, u148, u149, u150, u151, u152, u153, u154, u155, u156, u157, u158, u159, u160, u161, u162, u163, u164, u165, u166, u167, u168, u169, u170, u171, u172, u173], []⟩ W := by
  have HQ := Lib.hid hQ; clear hQ
  have hmix : Try.prog.follows .mixedOrders = true := by kernel_rfl
  conv => arg 4; whnf
  refine wpR_any hmix (by kernel_rfl) ?_
  change wpAny _ _ _ _ _ _ _ (World.drew _)
  refine wpAny_take (i := 13) (v := .int .i64 k) rfl (by kernel_rfl) (by kernel_rfl) (by kernel_rfl) (fun _ _ _ h => ⟨by simp, hP _ _ _ _ h.2⟩) (Or.inl ⟨by rfl, fun w => by go_simp⟩) ?_
  refine wpAny_take (i := 15) (v := .int .i64 3168) rfl (by kernel_rfl) (by kernel_rfl) (by kernel_rfl) (fun _ _ _ h => ⟨by simp, hP _ _ _ _ h.2⟩) (Or.inl ⟨by rfl, fun w => by go_simp⟩) ?_
  refine wpAny_ordL (hd := fun k => decide (k < 17)) 17 [0, 1, 2, 3, 4, 5, 6, 7, 8, 9, 10, 11, 12, 14, 16] (fun l => l.take 13 ++ ((l.drop 14).take 1 ++ (l.drop 16).take 1)) (by kernel_rfl) (by rfl) (by kernel_rfl) (by kernel_rfl) (by kernel_rfl) ?_
  simp only [List.take_succ_cons, List.take_zero, List.drop_succ_cons, List.drop_zero, List.cons_append, List.nil_append]
  repeat still_step
  refine wpStill_nil ?_
  go_wp2_with fail
  refine noOut_normal ?_
  exact HQ.out _
noncomputable def putCode10 : Code := ((Try.f43.body.bind (regionAt 10)).getD .skip)
set_option maxRecDepth 1000000 in
set_option maxHeartbeats 8000000 in
theorem put10_any (u0 u1 u2 u3 u4 u5 u6 u7 u8 u9 u10 u12 u18 u19 u20 u21 u22 u23 u24 u25 u26 u27 u28 u29 u30 u31 u32 u33 u34 u35 u36 u37 u38 u39 u40 u41 u42 u43 u44 u45 u46 u47 u48 u49 u50 u51 u52 u53 u54 u55 u56 u57 u58 u59 u60 u61 u62 u63 u64 u65 u66 u67 u68 u69 u70 u71 u72 u73 u74 u75 u76 u77 u78 u79 u80 u81 u82 u83 u84 u85 u86 u87 u88 u89 u90 u91 u92 u93 u94 u95 u96 u97 u98 u99 u100 u101 u102 u103 u104 u105 u106 u107 u108 u109 u110 u111 u112 u113 u114 u115 u116 u117 u118 u119 u120 u121 u122 u123 u124 u125 u126 u127 u128 u129 u130 u131 u132 u133 u134 u135 u136 u137 u138 u139 u140 u141 u142 u143 u144 u145 u146 u147 u148 u149 u150 u151 u152 u153 u154 u155 u156 u157 u158 u159 u160 u161 u162 u163 u164 u165 u166 u167 u168 u169 u170 u171 u172 u173 : Value) {ll n : Nat} {Q : Exit → Act → World → Prop} (p11 p13 H N k l v : Nat) (y : Int) (o g g' ck ck' cr : Nat) (W : World)
    (hvc : (H : Int) + (l : Int) = (v : Int)) (hvw : IntKind.i64.wrap (v : Int) = (v : Int)) (hvN : (v : Int) < (N : Int)) (hkN : (k : Int) < (N : Int))
    (cH : W.cell? ⟨p11, 0, none⟩ = some (.int .i64 (H : Int))) (cR : W.cell? ⟨p13, 0, none⟩ = some (.slice (some ⟨o, 0, none⟩) N cr))
    (co1 : W.cell? ⟨o, k, none⟩ = some (.slice (some ⟨g, 0, none⟩) N ck)) (co2 : W.cell? ⟨o, v, none⟩ = some (.slice (some ⟨g', 0, none⟩) N ck'))
    (z z' : Int) (cg : W.cell? ⟨g, v, none⟩ = some (.int .i64 z)) (fg : W.frozen? ⟨g, v, none⟩ = false) (cg' : W.cell? ⟨g', k, none⟩ = some (.int .i64 z')) (fg' : W.frozen? ⟨g', k, none⟩ = false)
    (hgg2 : g' ≠ g) (hop : g ≠ p13) (hop' : g' ≠ p13) (hop11 : g ≠ p11) (hop11' : g' ≠ p11)
    (hP : ∀ c a a' w, Q (.panic c) a w → Q (.panic c) a' w)
    (hQ : ∀ a, Q .normal a (((W.setCell ⟨g, v, none⟩ (.int .i64 3168)).setCell ⟨g', k, none⟩ (.int .i64 y)).drew)) :
    putCode10.wpIn (Fence.wide.inRound ll) n Try.prog Q ⟨#[u0, u1, u2, u3, u4, u5, u6, u7, u8, u9, u10, .pointer (some ⟨p11, 0, none⟩), u12, .pointer (some ⟨p13, 0, none⟩), .int .i64 (k : Int), .int .i64 (l : Int), .int .i64 y, .int .i64 3168, u18, u19, u20, u21, u22, u23, u24, u25, u26, u27, u28, u29, u30, u31, u32, u33, u34, u35, u36, u37, u38, u39, u40, u41, u42, u43, u44, u45, u46, u47, u48, u49, u50, u51, u52, u53, u54, u55, u56, u57, u58, u59, u60, u61, u62, u63, u64, u65, u66, u67, u68, u69, u70, u71, u72, u73, u74, u75, u76, u77, u78, u79, u80, u81, u82, u83, u84, u85, u86, u87, u88, u89, u90, u91, u92, u93, u94, u95, u96, u97, u98, u99, u100, u101, u102, u103, u104, u105, u106, u107, u108, u109, u110, u111, u112, u113, u114, u115, u116, u117, u118, u119, u120, u121, u122, u123, u124, u125, u126, u127, u128, u129, u130, u131, u132, u133, u134, u135, u136, u137, u138, u139, u140, u141, u142, u143, u144, u145, u146, u147, u148, u149, u150, u151, u152, u153, u154, u155, u156, u157, u158, u159, u160, u161, u162, u163, u164, u165, u166, u167, u168, u169, u170, u171, u172, u173], []⟩ W := by
  have HQ := Lib.hid hQ; clear hQ
  have hmix : Try.prog.follows .mixedOrders = true := by kernel_rfl
  conv => arg 4; whnf
  refine wpR_any hmix (by kernel_rfl) ?_
  change wpAny _ _ _ _ _ _ _ (World.drew _)
  refine wpAny_take (i := 13) (v := .int .i64 k) rfl (by kernel_rfl) (by kernel_rfl) (by kernel_rfl) (fun _ _ _ h => ⟨by simp, hP _ _ _ _ h.2⟩) (Or.inl ⟨by rfl, fun w => by go_simp⟩) ?_
  refine wpAny_take (i := 15) (v := .int .i64 y) rfl (by kernel_rfl) (by kernel_rfl) (by kernel_rfl) (fun _ _ _ h => ⟨by simp, hP _ _ _ _ h.2⟩) (Or.inl ⟨by rfl, fun w => by go_simp⟩) ?_
  refine wpAny_ordL (hd := fun k => decide (k < 17)) 17 [0, 1, 2, 3, 4, 5, 6, 7, 8, 9, 10, 11, 12, 14, 16] (fun l => l.take 13 ++ ((l.drop 14).take 1 ++ (l.drop 16).take 1)) (by kernel_rfl) (by rfl) (by kernel_rfl) (by kernel_rfl) (by kernel_rfl) ?_
  simp only [List.take_succ_cons, List.take_zero, List.drop_succ_cons, List.drop_zero, List.cons_append, List.nil_append]
  repeat still_step
  refine wpStill_nil ?_
  go_wp2_with fail
  refine noOut_normal ?_
  exact HQ.out _
end Go.Proofs.Ytelcdjbbcffliaa

/- A round of impl.shift's first loop. No conditions. -/
namespace Go.Proofs.Ytelcdjbbcffliaa
open Go.RowKit Go.DC Go.Shelf
attribute [local go_sem] Oper.semAt_some
noncomputable def roundCode : Code := ((Try.f43.body.bind rangeBody).getD .skip)
/-- What a round hands on. -/
def RoundOut (D : Nat) (w W' : World) (p11 p13 : Nat) (vt vm : Value) (i j : Nat) (up : Bool) (H N B : Nat) (vr : Value) (vs : List Value) (R : Nat → Nat → Int) (W : World) : Prop :=
  KeepsFrom D W' W ∧ Below w.heap.size W' W ∧ (Env W w.heap.size p11 p13 vt vm i j up H vr ∧ OwnI W B vr vs (tabOf N N R)) ∧ Ext w W
set_option maxRecDepth 1000000 in
set_option maxHeartbeats 16000000 in
theorem round_any (u0 u1 u2 u3 u4 u10 u12 u16 u17 u18 u19 u20 u21 u22 u23 u24 u25 u26 u27 u28 u29 u30 u31 u32 u33 u34 u35 u36 u37 u38 u39 u40 u41 u42 u43 u44 u45 u46 u47 u48 u49 u50 u51 u52 u53 u54 u55 u56 u57 u58 u59 u60 u61 u62 u63 u64 u65 u66 u67 u68 u69 u70 u71 u72 u73 u74 u75 u76 u77 u78 u79 u80 u81 u82 u83 u84 u85 u86 u87 u88 u89 u90 u91 u92 u93 u94 u95 u96 u97 u98 u99 u100 u101 u102 u103 u104 u105 u106 u107 u108 u109 u110 u111 u112 u113 u114 u115 u116 u117 u118 u119 u120 u121 u122 u123 u124 u125 u126 u127 u128 u129 u130 u131 u132 u133 u134 u135 u136 u137 u138 u139 u140 u141 u142 u143 u144 u145 u146 u147 u148 u149 u150 u151 u152 u153 u154 u155 u156 u157 u158 u159 u160 u161 u162 u163 u164 u165 u166 u167 u168 u169 u170 u171 u172 u173 : Value) {ll n : Nat} {Q : Exit → Act → World → Prop} (D : Nat) (b0 off0 mb mf c d : Nat) (t : List (List Int)) (mk : List (List Bool)) (i j : Nat) (up : Bool) (w W' : World) (H M N : Nat) (f : Nat → Nat → Int) (b : Nat → Nat → Bool) (p11 p13 W6s : Nat) (ar : Option Addr) (cr : Nat) (vs : List Value) (k l : Nat) (pre : List (Cell H M)) (hk : k < H) (hl : l < M)
    (HT : Hid (IRows w (some ⟨b0, off0, none⟩) t)) (HM : Hid (BRows w (some ⟨mb, mf, none⟩) mk)) (R : Hid (Rect t H M)) (RM : Hid (Rect mk H M)) (CL : Hid (∀ i j, i < H → j < M → 0 ≤ f i j ∧ f i j ≤ 99)) (HF : Hid (get 0 t = f)) (HBF : Hid (get false mk = b))
    (h4 : H ≤ 4) (m4 : M ≤ 4) (hi : i < H) (hj : j < M) (hN : H + M = N) (hw6 : w.heap.size + 5 ≤ p11) (hs6p : p11 < W6s) (HI7 : Hid (∀ (k : Nat) (hk : k < vs.length) (g : Nat), vs[k].ownBlock = some g → W6s ≤ g ∧ g < p13))
    (env : Env W' w.heap.size p11 p13 (.slice (some ⟨b0, off0, none⟩) H c) (.slice (some ⟨mb, mf, none⟩) H d) i j up H (.slice ar N cr)) (ow : OwnI W' W6s (.slice ar N cr) vs (tabOf N N (fillG H f b i j up pre))) (hE : Ext w W')
    (hP : ∀ c a a' w, Q (.panic c) a w → Q (.panic c) a' w)
    (hQ : ∀ a W, RoundOut D w W' p11 p13 (.slice (some ⟨b0, off0, none⟩) H c) (.slice (some ⟨mb, mf, none⟩) H d) i j up H N W6s (.slice ar N cr) vs (fillG H f b i j up (pre ++ [⟨(k, l), hk, hl⟩])) W → Q .normal a W) :
    roundCode.wpIn (Fence.wide.inRound ll) n Try.prog Q ⟨#[u0, u1, u2, u3, u4, .pointer (some ⟨w.heap.size, 0, none⟩), .pointer (some ⟨w.heap.size + 1, 0, none⟩), .pointer (some ⟨w.heap.size + 1 + 1, 0, none⟩), .pointer (some ⟨w.heap.size + 1 + 1 + 1, 0, none⟩), .pointer (some ⟨w.heap.size + 1 + 1 + 1 + 1, 0, none⟩), u10, .pointer (some ⟨p11, 0, none⟩), u12, .pointer (some ⟨p13, 0, none⟩), .int .i64 (k : Int), .int .i64 (l : Int), u16, u17, u18, u19, u20, u21, u22, u23, u24, u25, u26, u27, u28, u29, u30, u31, u32, u33, u34, u35, u36, u37, u38, u39, u40, u41, u42, u43, u44, u45, u46, u47, u48, u49, u50, u51, u52, u53, u54, u55, u56, u57, u58, u59, u60, u61, u62, u63, u64, u65, u66, u67, u68, u69, u70, u71, u72, u73, u74, u75, u76, u77, u78, u79, u80, u81, u82, u83, u84, u85, u86, u87, u88, u89, u90, u91, u92, u93, u94, u95, u96, u97, u98, u99, u100, u101, u102, u103, u104, u105, u106, u107, u108, u109, u110, u111, u112, u113, u114, u115, u116, u117, u118, u119, u120, u121, u122, u123, u124, u125, u126, u127, u128, u129, u130, u131, u132, u133, u134, u135, u136, u137, u138, u139, u140, u141, u142, u143, u144, u145, u146, u147, u148, u149, u150, u151, u152, u153, u154, u155, u156, u157, u158, u159, u160, u161, u162, u163, u164, u165, u166, u167, u168, u169, u170, u171, u172, u173], []⟩ W' := by
  have HQ := Lib.hid hQ; clear hQ
  have HP := Lib.hid hP; clear hP
  have hN8 : N ≤ 8 := by omega
  conv => arg 4; whnf
  dsimp only
  obtain ⟨_, _, tb2, tf2, tk, ea, ct1, ct2⟩ := (HT.out.ext hE).atC 0 R.out hk hl
  cases ea
  obtain ⟨_, _, mb2, mf2, mk2, ea, cm1, cm2⟩ := (HM.out.ext hE).atC false RM.out hk hl
  cases ea
  rw [HF.out] at ct2
  rw [HBF.out] at cm2
  have hx := CL.out k l hk hl
  have cT := env.bT.cell; have cM := env.bM.cell; have cI := env.bI.cell; have cJ := env.bJ.cell; have cU := env.bU.cell; have cH := env.bH.cell; have cR := env.bR.cell
  have hkz : (k : Int) < (H : Int) := by omega
  have hlz : (l : Int) < (M : Int) := by omega
  have EN := Lib.hid env; have OW := Lib.hid ow; have HEE := Lib.hid hE
  clear env ow hE
  unfold encI at ct2
  unfold encB at cm2
  have skip : hid b i j k l = false → KeepsFrom D W' W' ∧ Below w.heap.size W' W' ∧ (Env W' w.heap.size p11 p13 (.slice (some ⟨b0, off0, none⟩) H c) (.slice (some ⟨mb, mf, none⟩) H d) i j up H (.slice ar N cr) ∧ OwnI W' W6s (.slice ar N cr) vs (tabOf N N (fillG H f b i j up (pre ++ [⟨(k, l), hk, hl⟩])))) ∧ Ext w W' := fun hh =>
    ⟨(Stp.refl w.heap.size _ W').from_, (Stp.refl _ D W').below, ⟨EN.out, by rw [fillG_skip pre hk hl hh]; exact OW.out⟩, HEE.out⟩
  have SK := Lib.hid skip; clear skip
  cases hf : b k l with
  | false =>
    rw [hf] at cm2
    have hh : hid b i j k l = false := by unfold hid; rw [hf]; rfl
    have HH := Lib.hid hh; clear hh hf
    gi_wp2_with fail
    exact HQ.out _ _ (SK.out HH.out)
  | true =>
    rw [hf] at cm2
    have HFB := Lib.hid hf; clear hf
    have put : hid b i j k l = true → ∃ o co g ck g' ck', ar = some ⟨o, 0, none⟩ ∧ W'.cell? ⟨o, k, none⟩ = some (.slice (some ⟨g, 0, none⟩) N ck) ∧ W'.cell? ⟨o, H + l, none⟩ = some (.slice (some ⟨g', 0, none⟩) N ck') ∧ W6s ≤ g ∧ W6s ≤ g' ∧ g < p13 ∧ g' < p13 ∧ g ≠ g' ∧ co = cr
        ∧ W'.cell? ⟨g, H + l, none⟩ = some (.int .i64 (fillG H f b i j up pre k (H + l))) ∧ W'.frozen? ⟨g, H + l, none⟩ = false ∧ W'.cell? ⟨g', k, none⟩ = some (.int .i64 (fillG H f b i j up pre (H + l) k)) ∧ W'.frozen? ⟨g', k, none⟩ = false
        ∧ OwnI ((W'.setCell ⟨g, H + l, none⟩ (.int .i64 (rc f up f k l))).setCell ⟨g', k, none⟩ (.int .i64 (DC.cr f up f k l))) W6s (.slice ar N co) vs (tabOf N N (fillG H f b i j up (pre ++ [⟨(k, l), hk, hl⟩]))) := fun hh => by
      obtain ⟨o, co, g, ck, ev, ho, co1, hg, hgo, hvs, cg, fg, _⟩ := OW.out.atC (i := k) (j := H + l) (by omega) (by omega)
      obtain ⟨o', co', g', ck', ev', _, co1', hg', hgo', hvs', cg', fg', _⟩ := OW.out.atC (i := H + l) (j := k) (by omega) (by omega)
      cases ev
      cases ev'
      obtain ⟨hkv, ekv⟩ := List.getElem?_eq_some_iff.1 hvs
      obtain ⟨hlv, elv⟩ := List.getElem?_eq_some_iff.1 hvs'
      have hgg : g ≠ g' := fun e => OW.out.apart k (H + l) hkv hlv (by omega) g (by rw [ekv]; rfl) (by rw [elv, e]; rfl)
      have s1 := OW.out.setC (j := H + l) (show k < N by omega) hvs (rc f up f k l)
      have s2 := s1.setC (j := k) (show H + l < N by omega) hvs' (DC.cr f up f k l)
      rw [fillG_put pre hk hl hh] at s2
      exact ⟨o, _, g, ck, g', ck', rfl, co1, co1', hg, hg', (HI7.out k hkv g (by rw [ekv]; rfl)).2, (HI7.out (H + l) hlv g' (by rw [elv]; rfl)).2, hgg, rfl, cg, fg, cg', fg', s2⟩
    have PUT := Lib.hid put; clear put
    obtain ⟨y, hy⟩ : ∃ y, f k l = y := ⟨_, rfl⟩
    rw [hy] at ct2 hx
    have HY := Lib.hid hy; clear hy
    obtain ⟨hx0, hx1⟩ := hx
    obtain ⟨v, hv⟩ : ∃ v, H + l = v := ⟨_, rfl⟩
    have hvc : (H : Int) + (l : Int) = (v : Int) := by omega
    have hvw : IntKind.i64.wrap (v : Int) = (v : Int) := IntWalk.i64_in _ (by omega)
    have hvN : (v : Int) < (N : Int) := by omega
    have hkN : (k : Int) < (N : Int) := by omega
    by_cases hkl : k = i ∧ l = j
    · have hh : hid b i j k l = false := by unfold hid; rw [hkl.1, hkl.2]; simp
      have HH := Lib.hid hh
      have e1 : ((k : Int) == (i : Int)) = true := by rw [hkl.1]; simp
      have e2 : ((l : Int) == (j : Int)) = true := by rw [hkl.2]; simp
      clear hh hkl
      gi_wp2_with fail
      exact HQ.out _ _ (SK.out HH.out)
    · have hh : hid b i j k l = true := hid_iff.2 ⟨HFB.out, hkl⟩
      obtain ⟨o, co, g, ck, g', ck', rfl, co1, co2, hg, hg', hgp, hgp', hgg, rfl, cg, fg, cg', fg', own2⟩ := PUT.out hh
      rw [hv] at co2 cg fg cg' own2
      have OW2 := Lib.hid own2
      clear own2 hh
      have e12 : ((k : Int) == (i : Int)) = false ∨ ((k : Int) == (i : Int)) = true ∧ ((l : Int) == (j : Int)) = false := by
        by_cases e : k = i
        · right; exact ⟨by rw [e]; simp, by have : l ≠ j := fun e2 => hkl ⟨e, e2⟩; rw [beq_eq_false_iff_ne]; omega⟩
        · left; rw [beq_eq_false_iff_ne]; omega
      have hop : g ≠ p13 := by omega
      have hop' : g' ≠ p13 := by omega
      have hop11 : g ≠ p11 := by omega
      have hop11' : g' ≠ p11 := by omega
      have hgg2 : g' ≠ g := fun e => hgg e.symm
      have hgw : w.heap.size ≤ g := by omega
      have hgw' : w.heap.size ≤ g' := by omega
      have hgn : w.heap.size + 4 < g := by omega
      have hgn' : w.heap.size + 4 < g' := by omega
      have fin : ∀ y1 y2 : Int, OwnI ((W'.setCell ⟨g, v, none⟩ (.int .i64 y1)).setCell ⟨g', k, none⟩ (.int .i64 y2)) W6s (.slice (some ⟨o, 0, none⟩) N co) vs (tabOf N N (fillG H f b i j up (pre ++ [⟨(k, l), hk, hl⟩]))) →
          KeepsFrom D W' ((W'.setCell ⟨g, v, none⟩ (.int .i64 y1)).setCell ⟨g', k, none⟩ (.int .i64 y2)).drew ∧ Below w.heap.size W' ((W'.setCell ⟨g, v, none⟩ (.int .i64 y1)).setCell ⟨g', k, none⟩ (.int .i64 y2)).drew
            ∧ (Env ((W'.setCell ⟨g, v, none⟩ (.int .i64 y1)).setCell ⟨g', k, none⟩ (.int .i64 y2)).drew w.heap.size p11 p13 (.slice (some ⟨b0, off0, none⟩) H c) (.slice (some ⟨mb, mf, none⟩) H d) i j up H (.slice (some ⟨o, 0, none⟩) N co)
              ∧ OwnI ((W'.setCell ⟨g, v, none⟩ (.int .i64 y1)).setCell ⟨g', k, none⟩ (.int .i64 y2)).drew W6s (.slice (some ⟨o, 0, none⟩) N co) vs (tabOf N N (fillG H f b i j up (pre ++ [⟨(k, l), hk, hl⟩])))) ∧ Ext w ((W'.setCell ⟨g, v, none⟩ (.int .i64 y1)).setCell ⟨g', k, none⟩ (.int .i64 y2)).drew := fun y1 y2 ho => by
        have st : Stp w.heap.size D W' ((W'.setCell ⟨g, v, none⟩ (.int .i64 y1)).setCell ⟨g', k, none⟩ (.int .i64 y2)).drew := (((Stp.refl _ _ W').setCell (p := ⟨g, v, none⟩) hgw _).setCell (p := ⟨g', k, none⟩) hgw' _).drew
        exact ⟨st.from_, st.below, ⟨((EN.out.other ⟨g, v, none⟩ _ hgn hop11 hop).other ⟨g', k, none⟩ _ hgn' hop11' hop').ext ((Ext.refl _).drew), ho.ext ((Ext.refl _).drew)⟩, ((HEE.out.setCell (p := ⟨g, v, none⟩) hgw _).setCell (p := ⟨g', k, none⟩) hgw' _).drew⟩
      have FIN := Lib.hid fin; clear fin
      cases up with
      | true =>
        have er : rc f true f k l = y := by unfold rc; rw [HY.out]; rfl
        have ec : DC.cr f true f k l = 3168 := by unfold DC.cr; simp
        rw [er, ec] at OW2
        clear er ec
        rcases e12 with e1 | ⟨e1, e2⟩
        all_goals
          gi_wp2_with fail
          refine code_to (c' := putCode9) (by kernel_rfl) ?_
          refine put9_any _ _ _ _ _ _ _ _ _ _ _ _ _ _ _ _ _ _ _ _ _ _ _ _ _ _ _ _ _ _ _ _ _ _ _ _ _ _ _ _ _ _ _ _ _ _ _ _ _ _ _ _ _ _ _ _ _ _ _ _ _ _ _ _ _ _ _ _ _ _ _ _ _ _ _ _ _ _ _ _ _ _ _ _ _ _ _ _ _ _ _ _ _ _ _ _ _ _ _ _ _ _ _ _ _ _ _ _ _ _ _ _ _ _ _ _ _ _ _ _ _ _ _ _ _ _ _ _ _ _ _ _ _ _ _ _ _ _ _ _ _ _ _ _ _ _ _ _ _ _ _ _ _ _ _ _ _ _ _ _ _ _ _ _ _ _ _ _ p11 p13 H N k l v y o g g' ck ck' co W' hvc hvw hvN hkN cH cR co1 co2 _ _ cg fg cg' fg' hgg2 hop hop' hop11 hop11' (fun _ _ _ _ h => HP.out _ _ _ _ h) (fun a => HQ.out _ _ (FIN.out _ _ OW2.out))
      | false =>
        have er : rc f false f k l = 3168 := by unfold rc; simp
        have ec : DC.cr f false f k l = y := by unfold DC.cr; rw [HY.out]; rfl
        rw [er, ec] at OW2
        clear er ec
        rcases e12 with e1 | ⟨e1, e2⟩
        all_goals
          gi_wp2_with fail
          refine code_to (c' := putCode10) (by kernel_rfl) ?_
          refine put10_any _ _ _ _ _ _ _ _ _ _ _ _ _ _ _ _ _ _ _ _ _ _ _ _ _ _ _ _ _ _ _ _ _ _ _ _ _ _ _ _ _ _ _ _ _ _ _ _ _ _ _ _ _ _ _ _ _ _ _ _ _ _ _ _ _ _ _ _ _ _ _ _ _ _ _ _ _ _ _ _ _ _ _ _ _ _ _ _ _ _ _ _ _ _ _ _ _ _ _ _ _ _ _ _ _ _ _ _ _ _ _ _ _ _ _ _ _ _ _ _ _ _ _ _ _ _ _ _ _ _ _ _ _ _ _ _ _ _ _ _ _ _ _ _ _ _ _ _ _ _ _ _ _ _ _ _ _ _ _ _ _ _ _ _ _ _ _ _ p11 p13 H N k l v y o g g' ck ck' co W' hvc hvw hvN hkN cH cR co1 co2 _ _ cg fg cg' fg' hgg2 hop hop' hop11 hop11' (fun _ _ _ _ h => HP.out _ _ _ _ h) (fun a => HQ.out _ _ (FIN.out _ _ OW2.out))
end Go.Proofs.Ytelcdjbbcffliaa
