/- Whether rows fit a table: the reference. -/
import Derived.Test.YtelcdjbbcffliaaFitMath
import Derived.Test.YtelcdjbbcffliaaSums
import Derived.Test.YtelcdjbbcffliaaTabDraw
namespace Go.DC
/-- What the sums of rows and of columns are after k rows and l cells of the next one. -/
def RP (y : Nat → Nat → Int) (m k l i : Nat) : Int := if i < k then sumN m (y i) else if i = k then sumN l (y k) else 0
def CP (y : Nat → Nat → Int) (k l j : Nat) : Int := sumN k (fun i => y i j) + if j < l then y k j else 0
theorem RP_zero (y : Nat → Nat → Int) (m i : Nat) : RP y m 0 0 i = 0 := by unfold RP; simp [sumN]
theorem CP_zero (y : Nat → Nat → Int) (j : Nat) : CP y 0 0 j = 0 := by unfold CP; simp [sumN]
theorem RP_step (y : Nat → Nat → Int) (m k l i : Nat) : RP y m k (l + 1) i = if i = k then RP y m k l k + y k l else RP y m k l i := by
  unfold RP
  by_cases e : i = k
  · subst e; simp [sumN]
  · simp [e]
theorem CP_step (y : Nat → Nat → Int) (k l j : Nat) : CP y k (l + 1) j = if j = l then CP y k l l + y k l else CP y k l j := by
  unfold CP
  by_cases e : j = l
  · subst e; simp
  · have h : (j < l + 1) = (j < l) := by rw [eq_iff_iff]; omega
    simp [e, h]
theorem RP_row (y : Nat → Nat → Int) (m k i : Nat) : RP y m k m i = RP y m (k + 1) 0 i := by
  unfold RP
  by_cases h1 : i < k
  · simp [h1, show i < k + 1 by omega]
  · by_cases h2 : i = k
    · subst h2; simp
    · simp [h1, h2, show ¬ i < k + 1 by omega, sumN]
theorem CP_row (y : Nat → Nat → Int) {m k j : Nat} (hj : j < m) : CP y k m j = CP y (k + 1) 0 j := by
  unfold CP; simp [hj, sumN]
theorem RP_end (y : Nat → Nat → Int) {m n i : Nat} (hi : i < n) : RP y m n 0 i = sumN m (y i) := by unfold RP; simp [hi]
theorem CP_end (y : Nat → Nat → Int) (n j : Nat) : CP y n 0 j = sumN n (fun i => y i j) := by unfold CP; simp
/-- The cells that have been seen are numbers of this size. -/
def Seen (y : Nat → Nat → Int) (m k l : Nat) : Prop := ∀ i j, (i < k ∧ j < m) ∨ (i = k ∧ j < l) → 0 ≤ y i j ∧ y i j ≤ 396
theorem sum_in {F : Nat → Int} {n : Nat} (h : ∀ i, i < n → 0 ≤ F i ∧ F i ≤ 396) (h4 : n ≤ 4) : 0 ≤ sumN n F ∧ sumN n F ≤ 1584 := by
  refine ⟨sumN_nonneg fun i hi => (h i hi).1, ?_⟩
  have e : sumN n F ≤ sumN n (fun _ => 396) := sumN_le fun i hi => (h i hi).2
  rw [sumN_const] at e
  omega
theorem RP_bd {y : Nat → Nat → Int} {m k l : Nat} (h : Seen y m k l) (m4 : m ≤ 4) (hl : l ≤ m) (i : Nat) : 0 ≤ RP y m k l i ∧ RP y m k l i ≤ 1584 := by
  unfold RP
  by_cases h1 : i < k
  · rw [if_pos h1]; exact sum_in (fun j hj => h i j (.inl ⟨h1, hj⟩)) m4
  · rw [if_neg h1]
    by_cases h2 : i = k
    · rw [if_pos h2]; exact sum_in (fun j hj => h k j (.inr ⟨rfl, hj⟩)) (by omega)
    · rw [if_neg h2]; omega
theorem CP_bd {y : Nat → Nat → Int} {m k l j : Nat} (h : Seen y m k l) (k4 : k ≤ 4) (hj : j < m) : 0 ≤ CP y k l j ∧ CP y k l j ≤ 1980 := by
  unfold CP
  have h1 := sum_in (F := fun i => y i j) (n := k) (fun i hi => h i j (.inl ⟨hi, hj⟩)) k4
  by_cases h2 : j < l
  · have h3 := h k j (.inr ⟨rfl, h2⟩)
    rw [if_pos h2]; omega
  · rw [if_neg h2]; omega
theorem Seen.step {y : Nat → Nat → Int} {m k l : Nat} (h : Seen y m k l) (h1 : 0 ≤ y k l ∧ y k l ≤ 396) : Seen y m k (l + 1) := fun i j hij => by
  rcases hij with h2 | ⟨rfl, h2⟩
  · exact h i j (.inl h2)
  · by_cases e : j = l
    · rw [e]; exact h1
    · exact h i j (.inr ⟨rfl, by omega⟩)
theorem Seen.row {y : Nat → Nat → Int} {m k : Nat} (h : Seen y m k m) : Seen y m (k + 1) 0 := fun i j hij => by
  rcases hij with ⟨h2, h3⟩ | ⟨_, h2⟩
  · by_cases e : i = k
    · exact h i j (.inr ⟨e, h3⟩)
    · exact h i j (.inl ⟨by omega, h3⟩)
  · omega
theorem eqN_sub {F G : Nat → Int} : ∀ n, eqN (fun i => F i - G i) (fun _ => 0) n = eqN F G n
  | 0 => rfl
  | n + 1 => by
    unfold eqN
    rw [eqN_sub n]
    congr 1
    rw [decide_eq_decide]
    omega
theorem eqN_congr {F F' G : Nat → Int} {n : Nat} (h : ∀ i, i < n → F i = F' i) : eqN F G n = eqN F' G n := by
  rw [Bool.eq_iff_iff, eqN_iff, eqN_iff]
  exact ⟨fun e i hi => by rw [← h i hi]; exact e i hi, fun e i hi => by rw [h i hi]; exact e i hi⟩
end Go.DC
namespace Go.Proofs.Ytelcdjbbcffliaa
open Go.RowKit Go.DC Go.Shelf
attribute [local go_sem] Oper.semAt_some
/-- Two new rows of sums. -/
def SumsNew (n m : Nat) (f : Nat → Nat → Int) (w : World) (e : Ending) (w' : World) : Prop :=
  ∃ g1 g2, g1 ≠ g2 ∧ e = .returned (.tuple #[.slice (some ⟨g1, 0, none⟩) n n, .slice (some ⟨g2, 0, none⟩) m m, .bool true]) ∧ w'.ownsRow w.heap.size 3 1 (.slice (some ⟨g1, 0, none⟩) n n) n (rowOf n fun i => sumN m (f i))
    ∧ w'.ownsRow w.heap.size 3 1 (.slice (some ⟨g2, 0, none⟩) m m) m (rowOf m fun j => sumN n (fun i => f i j)) ∧ Ext w w'
theorem owns_ge {w : World} {B n c g : Nat} {e : TypeId} {xs : List Value} (h : w.ownsRow B e 1 (.slice (some ⟨g, 0, none⟩) n c) n xs) : B ≤ g := by
  rcases h.2 with ⟨h', _⟩ | ⟨g', cap', cur, h', hb, _⟩
  · simp at h'
  · simp only [Value.slice.injEq, Option.some.injEq, Addr.mk.injEq, and_true, true_and] at h'
    obtain ⟨rfl, rfl⟩ := h'
    exact hb
set_option maxRecDepth 10000 in
set_option maxHeartbeats 4000000 in
theorem sTableSums_tab (a : Option Addr) (c n m : Nat) (f : Nat → Nat → Int) (w : World) (ht : IRows w a (tabOf n m f)) (hf : InT n m f) :
    Calls Try.prog 55 #[.slice a n c] w (SumsNew n m f w) := by
  have HT := Lib.hid ht; have HF := Lib.hid hf
  obtain ⟨⟨hn1, hn4⟩, hm1, hm4⟩ : (1 ≤ n ∧ n ≤ 4) ∧ 1 ≤ m ∧ m ≤ 4 := ⟨⟨hf.1.1, hf.1.2.1⟩, hf.1.2.2⟩
  have VAL : Hid (Calls Try.prog 48 #[.slice a n c] w (Ret (.bool true) w)) := by
    have h := sTableValid_any a c (tabOf n m f) w ht (by rw [tabOf_length]; omega)
    rw [tabOf_length, tabOk_tabOf.2 hf] at h
    exact h
  clear ht hf
  obtain ⟨tb, tf, _, _, ea, _⟩ := HT.out.rowC (rect_tabOf n m f) (i := 0) (by omega)
  subst ea
  have HROW : Hid (∀ (k : Nat) (wx : World), Ext w wx → k < n → ∃ a2 ck2, wx.cell? ⟨tb, tf + k, none⟩ = some (.slice a2 m ck2)) := fun k wx ex hk => by
    obtain ⟨_, _, a2, ck2, ea, c2⟩ := (HT.out.ext ex).rowC (rect_tabOf n m f) hk
    cases ea
    exact ⟨a2, ck2, c2⟩
  have HCELL : Hid (∀ (k l : Nat) (wx : World), Ext w wx → k < n → l < m → ∃ tb2 tf2 tk2, wx.cell? ⟨tb, tf + k, none⟩ = some (.slice (some ⟨tb2, tf2, none⟩) m tk2) ∧ wx.cell? ⟨tb2, tf2 + l, none⟩ = some (.int .i64 (f k l))) := fun k l wx ex hk hl => by
    obtain ⟨_, _, mb2, mf2, mk2, e, c1, c2⟩ := (HT.out.ext ex).atC 0 (rect_tabOf n m f) (i := k) (j := l) hk hl
    rw [get_tabOf f hk hl] at c2
    cases e
    exact ⟨mb2, mf2, mk2, c1, c2⟩
  have hmk1 := run_make_row' (P := Try.prog) 28 3 (.int .i64 0) 8 Try.underlying28 Try.dcInfoInt rfl .i64 .i64 n (by omega) (by omega)
  have hmk2 := run_make_row' (P := Try.prog) 28 3 (.int .i64 0) 8 Try.underlying28 Try.dcInfoInt rfl .i64 .i64 m (by omega) (by omega)
  have h0z : (0 : Int) < (n : Int) := by omega
  go_enter Try.func55, Try.ntmps55
  go_wp2_with fail
  refine VAL.out.mono ?_
  rintro e w1 ⟨rfl, e1⟩
  obtain ⟨a2, ck2, c00⟩ := HROW.out 0 w1 e1 (by omega)
  simp only [Nat.add_zero] at c00
  have hlt0 : tb < w1.heap.size := World.block_lt_of_cell? _ _ c00
  have c01 : (w1.alloc (.cells (madeCells #[.int .i64 0] n) 3)).cell? ⟨tb, tf, none⟩ = some (.slice a2 m ck2) := ((Ext.refl w1).alloc _).cell c00
  go_wp2_with fail
  obtain ⟨W2, hW2⟩ : ∃ W2, (w1.alloc (.cells (madeCells #[.int .i64 0] n) 3)).alloc (.cells (madeCells #[.int .i64 0] m) 3) = W2 := ⟨_, rfl⟩
  have x2 : Ext w1 W2 := by rw [← hW2]; exact ((Ext.refl w1).alloc _).alloc _
  have hg1 : W2.heap[w1.heap.size]? = some (.cells (madeCells #[.int .i64 0] n) 3) := by rw [← hW2]; exact heap_alloc2_old _ _ _
  have hg2 : W2.heap[w1.heap.size + 1]? = some (.cells (madeCells #[.int .i64 0] m) 3) := by rw [← hW2]; exact heap_alloc2_new _ _ _
  try rw [hW2]
  have hle : w.heap.size ≤ w1.heap.size := e1.size
  obtain ⟨g1, hg1'⟩ : ∃ g, w1.heap.size = g := ⟨_, rfl⟩
  obtain ⟨g2, hg2'⟩ : ∃ g, g1 + 1 = g := ⟨_, rfl⟩
  rw [hg1'] at hg1 hg2 hle ⊢
  rw [hg2'] at hg2 ⊢
  have hne : ¬ g1 = g2 := by omega
  have hne2 : ¬ g2 = g1 := by omega
  have hle2 : w.heap.size ≤ g2 := by omega
  have o1 : W2.ownsRow w.heap.size 3 1 (.slice (some ⟨g1, 0, none⟩) n n) n (rowOf n (RP f m 0 0)) := by
    have := own_zeros (B := w.heap.size) hg1 hle (by omega)
    rwa [rowOf_congr (G := RP f m 0 0) (fun i _ => (RP_zero f m i).symm)] at this
  have o2 : W2.ownsRow w.heap.size 3 1 (.slice (some ⟨g2, 0, none⟩) m m) m (rowOf m (CP f 0 0)) := by
    have := own_zeros (B := w.heap.size) hg2 hle2 (by omega)
    rwa [rowOf_congr (G := CP f 0 0) (fun i _ => (CP_zero f i).symm)] at this
  have O1 := Lib.hid o1; have O2 := Lib.hid o2; have E2 := Lib.hid (e1.trans x2)
  have HLE := Lib.hid hle; have HLE2 := Lib.hid hle2
  have SEEN : Hid (∀ k l, k < n → l ≤ m → Seen f m k l) := fun k l hk hl i j hij => by
    have := HF.out.2 i j (by omega) (by omega); omega
  clear hmk1 hmk2 c00 hlt0 c01 hW2 x2 hg1 hg2 hle hg1' hg2' hle2 o1 o2 e1
  go_loopg [7] n (fun g' i wr => ∃ k : Nat, k ≤ n ∧ g' = n - k ∧ i = .int .i64 k ∧ Hid (wr.ownsRow w.heap.size 3 1 (.slice (some ⟨g1, 0, none⟩) n n) n (rowOf n (RP f m k 0))) ∧ Hid (wr.ownsRow w.heap.size 3 1 (.slice (some ⟨g2, 0, none⟩) m m) m (rowOf m (CP f k 0))) ∧ Ext w wr)
  case atStart => exact ⟨0, Nat.zero_le _, rfl, rfl, O1.out, O2.out, E2.out⟩
  case round =>
    clear O1 O2 E2
    obtain ⟨k, hk, rfl, rfl, ho1, ho2, hext⟩ := hrel
    by_cases hlt : k < n
    · have hz : (k : Int) < (n : Int) := by omega
      go_wp2_with fail
      go_loopg [8] m (fun g' i wr => ∃ l : Nat, l ≤ m ∧ g' = m - l ∧ i = .int .i64 l ∧ Hid (wr.ownsRow w.heap.size 3 1 (.slice (some ⟨g1, 0, none⟩) n n) n (rowOf n (RP f m k l))) ∧ Hid (wr.ownsRow w.heap.size 3 1 (.slice (some ⟨g2, 0, none⟩) m m) m (rowOf m (CP f k l))) ∧ Ext w wr)
      case atStart => exact ⟨0, Nat.zero_le _, rfl, rfl, ho1, ho2, hext⟩
      case round =>
        clear ho1 ho2 hext
        obtain ⟨l, hl, rfl, rfl, ho1, ho2, hext⟩ := hrel
        obtain ⟨a2, ck2, c2⟩ := HROW.out k _ hext hlt
        by_cases hlt2 : l < m
        · have hlz : (l : Int) < (m : Int) := by omega
          clear c2
          obtain ⟨tb2, tf2, tk2, ct1, ct2⟩ := HCELL.out k l _ hext hlt hlt2
          have hy := HF.out.2 k l hlt hlt2
          have hu := RP_bd (SEEN.out k l hlt (by omega)) hm4 (by omega) k
          have hv := CP_bd (SEEN.out k l hlt (by omega)) (by omega) hlt2
          have cr := World.ownsRow.cellAt ho1.out k (by simpa using hlt)
          rw [rowOf_at _ hlt] at cr
          have fr := World.ownsRow.frozenAt ho1.out k
          have hrow : ∀ i, i < n → RP f m k (l + 1) i = if i = k then RP f m k l k + f k l else RP f m k l i := fun i _ => RP_step f m k l i
          have hcol : ∀ j, j < m → CP f k (l + 1) j = if j = l then CP f k l l + f k l else CP f k l j := fun j _ => CP_step f k l j
          obtain ⟨y, hyy⟩ : ∃ y, f k l = y := ⟨_, rfl⟩
          obtain ⟨u, huu⟩ : ∃ u, RP f m k l k = u := ⟨_, rfl⟩
          obtain ⟨v, hvv⟩ : ∃ v, CP f k l l = v := ⟨_, rfl⟩
          rw [hyy] at ct2 hy hrow hcol
          rw [huu] at cr hu hrow
          rw [hvv] at hv hcol
          have s1 := (World.ownsRow.stored ho1.out k (encI (u + y))).1
          rw [rowOf_set _ _ _ hrow] at s1
          have s2 := owns_other ho2.out ⟨g1, k, none⟩ (encI (u + y)) (fun g hg e => by cases hg; exact hne2 e)
          have e3 := hext.setCell (p := ⟨g1, k, none⟩) HLE.out (encI (u + y))
          unfold encI at cr s1 s2 e3
          have S1 := Lib.hid (owns_ext s1 ((Ext.refl _).drew)); have S2 := Lib.hid (owns_ext s2 ((Ext.refl _).drew)); have E3 := Lib.hid e3.drew
          have HVV := Lib.hid hvv; have HCOL := Lib.hid hcol; have HYY := Lib.hid hyy
          obtain ⟨hy0, hy1⟩ := hy
          obtain ⟨hu0, hu1⟩ := hu
          obtain ⟨hv0, hv1⟩ := hv
          clear hyy huu hvv hrow hcol s1 s2 e3 ho1 ho2 hext
          go_wp2_with fail
          go_still_tail 15, (by kernel_rfl)
          go_wp2_with fail
          obtain ⟨X, hX⟩ : ∃ X, (wr.setCell ⟨g1, k, none⟩ (.int .i64 (u + y))).drew = X := ⟨_, rfl⟩
          rw [hX] at S1 S2 E3
          try rw [← World.setCell_drew, hX]
          try rw [hX]
          clear hX cr fr ct1 ct2
          obtain ⟨tb2, tf2, tk2, ct1, ct2⟩ := HCELL.out k l _ E3.out hlt hlt2
          rw [HYY.out] at ct2
          have cc := World.ownsRow.cellAt S2.out l (by simpa using hlt2)
          rw [rowOf_at _ hlt2, HVV.out] at cc
          have fc := World.ownsRow.frozenAt S2.out l
          have s1 := (World.ownsRow.stored S2.out l (encI (v + y))).1
          rw [rowOf_set _ _ _ HCOL.out] at s1
          have s2 := owns_other S1.out ⟨g2, l, none⟩ (encI (v + y)) (fun g hg e => by cases hg; exact hne e)
          have e3 := E3.out.setCell (p := ⟨g2, l, none⟩) HLE2.out (encI (v + y))
          unfold encI at cc s1 s2 e3
          have T1 := Lib.hid (owns_ext s1 ((Ext.refl _).drew)); have T2 := Lib.hid (owns_ext s2 ((Ext.refl _).drew)); have E4 := Lib.hid e3.drew
          clear s1 s2 e3 S1 S2 E3
          go_wp2_with fail
          go_still_tail 15, (by kernel_rfl)
          go_wp2_with fail
          go_roundg (m - (l + 1))
          case measure => omega
          case rel => exact ⟨l + 1, by omega, rfl, by go_num, T2.out, T1.out, E4.out⟩
        · have hlz : ¬ (l : Int) < (m : Int) := by omega
          obtain rfl : l = m := by omega
          have p1 := ho1.out; have p2 := ho2.out
          rw [rowOf_congr (G := RP f l (k + 1) 0) (fun i _ => RP_row f l k i)] at p1
          rw [rowOf_congr (G := CP f (k + 1) 0) (fun j hj => CP_row f hj)] at p2
          have P1 := Lib.hid p1; have P2 := Lib.hid p2
          clear p1 p2
          go_wp2_with fail
          go_roundg (n - (k + 1))
          case measure => omega
          case rel => exact ⟨k + 1, by omega, rfl, by go_num, P1.out, P2.out, hext⟩
    · have hz : ¬ (k : Int) < (n : Int) := by omega
      obtain rfl : k = n := by omega
      have p1 := ho1.out; have p2 := ho2.out
      rw [rowOf_congr (G := fun i => sumN m (f i)) (fun i hi => RP_end f hi)] at p1
      rw [rowOf_congr (G := fun j => sumN k (fun i => f i j)) (fun j _ => CP_end f k j)] at p2
      have P1 := Lib.hid p1; have P2 := Lib.hid p2
      clear p1 p2
      go_wp2_with fail
      refine bodyPost_ret (results_tmp3 rfl _ _ _) rfl ?_
      exact ⟨g1, g2, hne, rfl, P1.out, P2.out, hext⟩
set_option maxHeartbeats 1000000 in
theorem l13Zero_any (a : Option Addr) (c n B : Nat) (F : Nat → Int) (w : World) (hr : w.ownsRow B 3 1 (.slice a n c) n (rowOf n F)) (hn : n ≤ 1000) :
    Calls Try.prog 56 #[.slice a n c] w fun e w' => e = .returned (.bool (eqN F (fun _ => 0) n)) ∧ w = w' := by
  have HR := Lib.hid hr; clear hr
  go_enter Try.func56, Try.ntmps56
  go_wp2_with fail
  go_loop [3] (fun i => ∃ k : Nat, k ≤ n ∧ i = .int .i64 k ∧ Hid (∀ j, j < k → F j = 0)) (fun i => n - (intOf i).toNat)
  case atStart => exact ⟨0, Nat.zero_le _, rfl, fun j h => absurd h (Nat.not_lt_zero _)⟩
  case round =>
    obtain ⟨k, hk, rfl, HA⟩ := hrel
    by_cases hlt : k < n
    · have hz : (k : Int) < (n : Int) := by omega
      obtain ⟨a', c', e', _, hxx⟩ := owns_cells HR.out
      cases e'
      obtain ⟨g1, rfl, _, hc1, _⟩ := hxx k _ (rowOf_at F hlt)
      clear hxx
      obtain ⟨u, hu⟩ : ∃ u, F k = u := ⟨_, rfl⟩
      rw [hu] at hc1
      have HU := Lib.hid hu
      clear hu
      unfold encI at hc1
      by_cases he : u = 0
      · subst he
        go_wp2_with fail
        go_round
        case rel => exact ⟨k + 1, by omega, by go_num, fun j hj => by
          by_cases e : j = k
          · rw [e]; exact HU.out
          · exact HA.out j (by omega)⟩
        case measure => simp [intOf]; omega
      · have hb : (u != 0) = true := by rw [bne_iff_ne]; exact he
        have hb2 : (u == 0) = false := by rw [beq_eq_false_iff_ne]; exact he
        have hne : eqN F (fun _ => 0) n = false := by
          cases e : eqN F (fun _ => 0) n with
          | false => rfl
          | true => exact absurd (eqN_iff.1 e k hlt) (by rw [HU.out]; exact he)
        have HNE := Lib.hid hne
        clear hne
        go_wp2_with fail
        go_ret
        exact ⟨by rw [HNE.out]; rfl, rfl⟩
    · have hz : ¬ (k : Int) < (n : Int) := by omega
      go_wp2_with fail
      go_ret
      exact ⟨by rw [eqN_iff.2 fun j hj => HA.out j (by omega)]; rfl, rfl⟩
set_option maxRecDepth 10000 in
set_option maxHeartbeats 1000000 in
theorem sFitTables_no (a mb ax : Option Addr) (c d cx : Nat) (t : List (List Int)) (mk : List (List Bool)) (x : List (List Int)) (w : World) (ht : IRows w a t) (hmk : BRows w mb mk) (hm : t.length ≤ 9223372036854775807) (hm2 : mk.length ≤ 9223372036854775807) (_hm3 : x.length ≤ 9223372036854775807) (hno : maskOk t mk = false ∨ ¬ x.length = t.length) :
    Calls Try.prog 24 #[.slice a t.length c, .slice mb mk.length d, .slice ax x.length cx] w (Ret (.bool false) w) := by
  have MV := sMaskValid_any a mb c d t mk w ht hmk hm hm2
  cases o1 : maskOk t mk with
  | false =>
    rw [o1] at MV
    have MV' := Lib.hid MV
    clear MV o1 ht hmk hno
    go_enter Try.func24, Try.ntmps24
    go_wp2_with fail
    refine MV'.out.mono ?_
    rintro e w1 ⟨rfl, e1⟩
    go_wp2_with fail
    go_ret
    exact ⟨rfl, e1⟩
  | true =>
    have hl : ¬ x.length = t.length := by
      rcases hno with h | h
      · rw [o1] at h; cases h
      · exact h
    have hlb : ((x.length : Int) != (t.length : Int)) = true := by rw [bne_iff_ne]; omega
    have hlb2 : ¬ (x.length : Int) = (t.length : Int) := by omega
    rw [o1] at MV
    have MV' := Lib.hid MV
    clear MV o1 ht hmk hno hl
    go_enter Try.func24, Try.ntmps24
    go_wp2_with fail
    refine MV'.out.mono ?_
    rintro e w1 ⟨rfl, e1⟩
    go_wp2_with fail
    go_ret
    exact ⟨rfl, e1⟩
set_option maxRecDepth 10000 in
set_option maxHeartbeats 4000000 in
theorem sFitTables_yes (a mb ax : Option Addr) (c d cx n m : Nat) (f y : Nat → Nat → Int) (b : Nat → Nat → Bool) (len : Nat → Nat) (V : Bool) (w : World) (ht : IRows w a (tabOf n m f)) (hmk : BRows w mb (tabOf n m b)) (hf : InT n m f)
    (hx : Hid (∃ xb xo, ax = some ⟨xb, xo, none⟩ ∧ ∀ (k : Nat) (wx : World), Ext w wx → k < n → ∃ ak ck, wx.cell? ⟨xb, xo + k, none⟩ = some (.slice ak (len k) ck) ∧ ∀ l, l < len k → ∃ g3 o3, ak = some ⟨g3, o3, none⟩ ∧ wx.cell? ⟨g3, o3 + l, none⟩ = some (.int .i64 (y k l))))
    (h1 : Hid (∀ k, k < n → ¬ len k = m → V = false)) (h2 : Hid (∀ k l, k < n → l < m → badF f b y k l = true → V = false))
    (h3 : Hid ((∀ k, k < n → len k = m) → (∀ k l, k < n → l < m → badF f b y k l = false) → V = (eqN (fun i => sumN m (f i)) (fun i => sumN m (y i)) n && eqN (fun j => sumN n (fun i => f i j)) (fun j => sumN n (fun i => y i j)) m))) :
    Calls Try.prog 24 #[.slice a n c, .slice mb n d, .slice ax n cx] w (Ret (.bool V) w) := by
  have HT := Lib.hid ht; have HM := Lib.hid hmk; have HF := Lib.hid hf
  obtain ⟨⟨hn1, hn4⟩, hm1, hm4⟩ : (1 ≤ n ∧ n ≤ 4) ∧ 1 ≤ m ∧ m ≤ 4 := ⟨⟨hf.1.1, hf.1.2.1⟩, hf.1.2.2⟩
  have MV : Hid (Calls Try.prog 54 #[.slice a n c, .slice mb n d] w (Ret (.bool true) w)) := by
    have h := sMaskValid_any a mb c d (tabOf n m f) (tabOf n m b) w ht hmk (by rw [tabOf_length]; omega) (by rw [tabOf_length]; omega)
    rw [tabOf_length, tabOf_length, maskOk_tabOf hf] at h
    exact h
  clear ht hmk hf
  obtain ⟨xb, xo, rfl, hxc⟩ := hx.out
  have XC := Lib.hid hxc
  clear hx hxc
  obtain ⟨tb, tf, _, _, ea, _⟩ := HT.out.rowC (rect_tabOf n m f) (i := 0) (by omega)
  subst ea
  obtain ⟨nb, nf, _, _, _, eb, _, _⟩ := HM.out.atC false (rect_tabOf n m b) (i := 0) (j := 0) (by omega) (by omega)
  subst eb
  have HROW : Hid (∀ (wx : World), Ext w wx → ∃ a2 ck2, wx.cell? ⟨tb, tf, none⟩ = some (.slice a2 m ck2)) := fun wx ex => by
    obtain ⟨_, _, a2, ck2, ea, c2⟩ := (HT.out.ext ex).rowC (rect_tabOf n m f) (i := 0) (by omega)
    cases ea
    exact ⟨a2, ck2, c2⟩
  have HCELL : Hid (∀ (k l : Nat) (wx : World), Ext w wx → k < n → l < m → ∃ tb2 tf2 tk2, wx.cell? ⟨tb, tf + k, none⟩ = some (.slice (some ⟨tb2, tf2, none⟩) m tk2) ∧ wx.cell? ⟨tb2, tf2 + l, none⟩ = some (.int .i64 (f k l))) := fun k l wx ex hk hl => by
    obtain ⟨_, _, mb2, mf2, mk2, e, c1, c2⟩ := (HT.out.ext ex).atC 0 (rect_tabOf n m f) (i := k) (j := l) hk hl
    rw [get_tabOf f hk hl] at c2
    cases e
    exact ⟨mb2, mf2, mk2, c1, c2⟩
  have HMASK : Hid (∀ (k l : Nat) (wx : World), Ext w wx → k < n → l < m → ∃ tb2 tf2 tk2, wx.cell? ⟨nb, nf + k, none⟩ = some (.slice (some ⟨tb2, tf2, none⟩) m tk2) ∧ wx.cell? ⟨tb2, tf2 + l, none⟩ = some (.bool (b k l))) := fun k l wx ex hk hl => by
    obtain ⟨_, _, mb2, mf2, mk2, e, c1, c2⟩ := (HM.out.ext ex).atC false (rect_tabOf n m b) (i := k) (j := l) hk hl
    rw [get_tabOf b hk hl] at c2
    cases e
    exact ⟨mb2, mf2, mk2, c1, c2⟩
  have HR : Hid (∀ i, i < n → 0 ≤ sumN m (f i) ∧ sumN m (f i) ≤ 1584) := fun i hi => sum_in (fun j hj => by have := HF.out.2 i j hi hj; omega) hm4
  have HC : Hid (∀ j, j < m → 0 ≤ sumN n (fun i => f i j) ∧ sumN n (fun i => f i j) ≤ 1584) := fun j hj => sum_in (F := fun i => f i j) (fun i hi => by have := HF.out.2 i j hi hj; omega) hn4
  have SUMS : Hid (∀ wx, Ext w wx → Calls Try.prog 55 #[.slice (some ⟨tb, tf, none⟩) n c] wx (SumsNew n m f wx)) := fun wx ex => sTableSums_tab _ c n m f wx (HT.out.ext ex) HF.out
  have hnn : ((n : Int) != (n : Int)) = false := by simp
  have h0z : (0 : Int) < (n : Int) := by omega
  go_enter Try.func24, Try.ntmps24
  go_wp2_with fail
  refine MV.out.mono ?_
  rintro e w1 ⟨rfl, e1⟩
  go_wp2_with fail
  refine (SUMS.out w1 e1).mono ?_
  rintro e w2 ⟨g1, g2, hne, rfl, o1, o2, e2⟩
  have hg1 : w.heap.size ≤ g1 := Nat.le_trans e1.size (owns_ge o1)
  have hg2 : w.heap.size ≤ g2 := Nat.le_trans e1.size (owns_ge o2)
  have hne2 : g2 ≠ g1 := fun e => hne e.symm
  have p1 := owns_base o1 e1.size
  have p2 := owns_base o2 e1.size
  rw [rowOf_congr (G := fun i => sumN m (f i) - RP y m 0 0 i) (fun i _ => by rw [RP_zero, Int.sub_zero])] at p1
  rw [rowOf_congr (G := fun j => sumN n (fun i => f i j) - CP y 0 0 j) (fun j _ => by rw [CP_zero, Int.sub_zero])] at p2
  have P1 := Lib.hid p1; have P2 := Lib.hid p2; have E2 := Lib.hid (e1.trans e2); have HG1 := Lib.hid hg1; have HG2 := Lib.hid hg2; have HNE := Lib.hid hne; have HNE2 := Lib.hid hne2
  clear o1 o2 p1 p2 e1 e2 hg1 hg2 hne hne2
  go_wp2_with fail
  go_loopg [10] n (fun g' i wr => ∃ k : Nat, k ≤ n ∧ g' = n - k ∧ i = .int .i64 k ∧ Hid (∀ i, i < k → len i = m) ∧ Hid (∀ i j, (i < k ∧ j < m) ∨ (i = k ∧ j < 0) → badF f b y i j = false)
    ∧ Hid (wr.ownsRow w.heap.size 3 1 (.slice (some ⟨g1, 0, none⟩) n n) n (rowOf n fun i => sumN m (f i) - RP y m k 0 i)) ∧ Hid (wr.ownsRow w.heap.size 3 1 (.slice (some ⟨g2, 0, none⟩) m m) m (rowOf m fun j => sumN n (fun i => f i j) - CP y k 0 j)) ∧ Ext w wr)
  case atStart => exact ⟨0, Nat.zero_le _, rfl, rfl, fun i h => absurd h (Nat.not_lt_zero _), fun i j h => by omega, P1.out, P2.out, E2.out⟩
  case round =>
    clear P1 P2 E2
    obtain ⟨k, hk, rfl, rfl, hlen, hok, ho1, ho2, hext⟩ := hrel
    by_cases hlt : k < n
    · have hz : (k : Int) < (n : Int) := by omega
      obtain ⟨ak, ck, cx1, _⟩ := XC.out k _ hext hlt
      obtain ⟨a2, ck2, c00⟩ := HROW.out _ hext
      by_cases hrow : len k = m
      case neg =>
        have hV := h1.out k hlt hrow
        have hl1 : (((len k : Nat) : Int) != (m : Int)) = true := by rw [bne_iff_ne]; omega
        have hl2 : (((len k : Nat) : Int) == (m : Int)) = false := by rw [beq_eq_false_iff_ne]; omega
        obtain ⟨q, hq⟩ : ∃ q, len k = q := ⟨_, rfl⟩
        rw [hq] at cx1 hl1 hl2
        clear hrow hq
        go_wp2_with fail
        go_quiet (fail)
        go_wp2_with fail
        go_ret
        exact ⟨by rw [hV]; rfl, hext.drewN _⟩
      rw [hrow] at cx1
      have hmm : ((m : Int) != (m : Int)) = false := by simp
      have HROWK := Lib.hid hrow
      clear hrow
      go_wp2_with fail
      go_quiet (fail)
      go_wp2_with fail
      go_loopg [11] m (fun g' i wr => ∃ l : Nat, l ≤ m ∧ g' = m - l ∧ i = .int .i64 l ∧ Hid (∀ i j, (i < k ∧ j < m) ∨ (i = k ∧ j < l) → badF f b y i j = false)
        ∧ Hid (wr.ownsRow w.heap.size 3 1 (.slice (some ⟨g1, 0, none⟩) n n) n (rowOf n fun i => sumN m (f i) - RP y m k l i)) ∧ Hid (wr.ownsRow w.heap.size 3 1 (.slice (some ⟨g2, 0, none⟩) m m) m (rowOf m fun j => sumN n (fun i => f i j) - CP y k l j)) ∧ Ext w wr)
      case atStart => exact ⟨0, Nat.zero_le _, rfl, rfl, hok, owns_ext ho1.out ((Ext.refl _).drewN _), owns_ext ho2.out ((Ext.refl _).drewN _), hext.drewN _⟩
      case round =>
        clear hok ho1 ho2 hext cx1 c00
        obtain ⟨l, hl, rfl, rfl, hok, ho1, ho2, hext⟩ := hrel
        by_cases hlt2 : l < m
        · have hlz : (l : Int) < (m : Int) := by omega
          obtain ⟨ak, ck, cx1, hcx⟩ := XC.out k _ hext hlt
          rw [HROWK.out] at cx1
          obtain ⟨xb2, xf2, rfl, cx2⟩ := hcx l (by rw [HROWK.out]; exact hlt2)
          obtain ⟨tb2, tf2, tk2, ct1, ct2⟩ := HCELL.out k l _ hext hlt hlt2
          obtain ⟨mb2, mf2, mk2, cm1, cm2⟩ := HMASK.out k l _ hext hlt hlt2
          have HBF := Lib.hid (h2.out k l hlt hlt2)
          have hseen : Seen y m k l := fun i j hij => by have := badF_no (hok.out i j hij); exact ⟨this.1, this.2.1⟩
          have HSEEN := Lib.hid hseen
          have hbk : badF f b y k l = (decide (y k l < 0) || (decide (396 < y k l) || (!b k l && decide (y k l ≠ f k l)))) := rfl
          have HSTEP : Hid (badF f b y k l = false → ∀ i j, (i < k ∧ j < m) ∨ (i = k ∧ j < l + 1) → badF f b y i j = false) := fun h i j hij => by
            rcases hij with h4 | ⟨rfl, h4⟩
            · exact hok.out i j (.inl h4)
            · by_cases e : j = l
              · rw [e]; exact h
              · exact hok.out i j (.inr ⟨rfl, by omega⟩)
          obtain ⟨xv, hxv⟩ : ∃ z, y k l = z := ⟨_, rfl⟩
          obtain ⟨tv, htv⟩ : ∃ z, f k l = z := ⟨_, rfl⟩
          obtain ⟨bv, hbv⟩ : ∃ z, b k l = z := ⟨_, rfl⟩
          rw [hxv] at cx2 hbk
          rw [htv] at ct2 hbk
          rw [hbv] at cm2 hbk
          have HBK := Lib.hid hbk; have HXV := Lib.hid hxv; have XVV := Lib.hid hxv
          clear hbk hxv htv hbv hseen hcx hok
          by_cases q1 : xv < 0
          · have hV := HBF.out (by rw [HBK.out, decide_eq_true q1]; rfl)
            have q1b : decide (xv < 0) = true := decide_eq_true q1
            clear ho1 ho2
            go_wp2_with fail
            go_quiet (fail)
            go_wp2_with fail
            go_ret
            exact ⟨by rw [hV]; rfl, hext.drewN _⟩
          have q1b : decide (xv < 0) = false := decide_eq_false q1
          by_cases q2 : 396 < xv
          · have hV := HBF.out (by rw [HBK.out, decide_eq_true q2, Bool.true_or, Bool.or_true])
            have q2b : decide (396 < xv) = true := decide_eq_true q2
            clear ho1 ho2
            go_wp2_with fail
            go_quiet (fail)
            go_wp2_with fail
            go_ret
            exact ⟨by rw [hV]; rfl, hext.drewN _⟩
          have q2b : decide (396 < xv) = false := decide_eq_false q2
          have hxx : (xv != xv) = false := by simp
          have hxx2 : (xv == xv) = true := by simp
          by_cases q3 : bv = false ∧ ¬ xv = tv
          · obtain ⟨q4, q5⟩ := q3
            subst q4
            have hV := HBF.out (by rw [HBK.out, q1b, q2b, decide_eq_true (show xv ≠ tv from q5)]; rfl)
            have q5b : (xv != tv) = true := by rw [bne_iff_ne]; exact q5
            have q5c : (xv == tv) = false := by rw [beq_eq_false_iff_ne]; exact q5
            clear ho1 ho2
            go_wp2_with fail
            go_quiet (fail)
            go_wp2_with fail
            go_ret
            exact ⟨by rw [hV]; rfl, hext.drewN _⟩
          have hgood : bv = true ∨ (bv = false ∧ xv = tv) := by
            cases bv with
            | true => exact .inl rfl
            | false => exact .inr ⟨rfl, Classical.byContradiction fun h => q3 ⟨rfl, h⟩⟩
          have hnb : badF f b y k l = false := by
            rw [HBK.out, q1b, q2b]
            rcases hgood with rfl | ⟨rfl, rfl⟩
            · rfl
            · simp
          have HNB := Lib.hid (HSTEP.out hnb)
          have hu1 := HR.out k hlt
          have hu2 := RP_bd HSEEN.out hm4 (by omega) k
          have hv1 := HC.out l hlt2
          have hv2 := CP_bd HSEEN.out (by omega) hlt2
          have hrow : ∀ i, i < n → sumN m (f i) - RP y m k (l + 1) i = if i = k then (sumN m (f k) - RP y m k l k) - xv else sumN m (f i) - RP y m k l i := fun i _ => by
            rw [RP_step, HXV.out]
            by_cases e : i = k
            · subst e; rw [if_pos rfl, if_pos rfl]; omega
            · rw [if_neg e, if_neg e]
          have hcol : ∀ j, j < m → sumN n (fun i => f i j) - CP y k (l + 1) j = if j = l then (sumN n (fun i => f i l) - CP y k l l) - xv else sumN n (fun i => f i j) - CP y k l j := fun j _ => by
            rw [CP_step, HXV.out]
            by_cases e : j = l
            · subst e; rw [if_pos rfl, if_pos rfl]; omega
            · rw [if_neg e, if_neg e]
          have hub : -1584 ≤ sumN m (f k) - RP y m k l k ∧ sumN m (f k) - RP y m k l k ≤ 1584 := by omega
          have hvb : -1980 ≤ sumN n (fun i => f i l) - CP y k l l ∧ sumN n (fun i => f i l) - CP y k l l ≤ 1584 := by omega
          have HHO1 := Lib.hid (rowOf_at (fun i => sumN m (f i) - RP y m k l i) hlt); have HHO2 := Lib.hid (rowOf_at (fun j => sumN n (fun i => f i j) - CP y k l j) hlt2)
          obtain ⟨u, huu⟩ : ∃ u, sumN m (f k) - RP y m k l k = u := ⟨_, rfl⟩
          obtain ⟨v, hvv⟩ : ∃ v, sumN n (fun i => f i l) - CP y k l l = v := ⟨_, rfl⟩
          simp only [huu] at HHO1 hrow hub
          simp only [hvv] at HHO2 hcol hvb
          have HRW := Lib.hid hrow; have HCW := Lib.hid hcol
          obtain ⟨hub0, hub1⟩ := hub
          obtain ⟨hvb0, hvb1⟩ := hvb
          have HE := Lib.hid hext
          clear hu1 hu2 hv1 hv2 hrow hcol huu hvv hnb q3 HBF HBK HXV HSEEN HSTEP hext
          rcases hgood with rfl | ⟨rfl, rfl⟩
          all_goals
            go_wp2_with fail
            go_quiet (fail)
            obtain ⟨X1, hX1⟩ : ∃ X, wr.drewN nq = X := ⟨_, rfl⟩
            have x1 : Ext wr X1 := by rw [← hX1]; exact (Ext.refl wr).drewN nq
            rw [hX1]
            have o1 := owns_ext ho1.out x1
            have o2 := owns_ext ho2.out x1
            have e1 := HE.out.trans x1
            clear hX1 ho1 ho2 cx1 cx2 ct1 ct2 cm1 cm2 x1
            obtain ⟨ak, ck, cx1, hcx⟩ := XC.out k _ e1 hlt
            rw [HROWK.out] at cx1
            obtain ⟨xb2, xf2, rfl, cx2⟩ := hcx l (by rw [HROWK.out]; exact hlt2)
            rw [XVV.out] at cx2
            have cr := World.ownsRow.cellAt o1 k (by simpa using hlt)
            rw [HHO1.out] at cr
            have fr := World.ownsRow.frozenAt o1 k
            have s1 := (World.ownsRow.stored o1 k (encI (u - xv))).1
            rw [rowOf_set _ _ _ HRW.out] at s1
            have s2 := owns_other o2 ⟨g1, k, none⟩ (encI (u - xv)) (fun g hg e => by cases hg; exact HNE2.out e)
            have e3 := e1.setCell (p := ⟨g1, k, none⟩) HG1.out (encI (u - xv))
            unfold encI at cr s1 s2 e3
            have S1 := Lib.hid (owns_ext s1 ((Ext.refl _).drew)); have S2 := Lib.hid (owns_ext s2 ((Ext.refl _).drew)); have E3 := Lib.hid e3.drew
            clear s1 s2 e3 e1 o1 o2 hcx
            go_wp2_with fail
            go_still_tail 15, (by kernel_rfl)
            go_wp2_with fail
            obtain ⟨X, hX⟩ : ∃ X, (X1.setCell ⟨g1, k, none⟩ (.int .i64 (u - xv))).drew = X := ⟨_, rfl⟩
            rw [hX] at S1 S2 E3
            try rw [← World.setCell_drew, hX]
            try rw [hX]
            clear hX cr fr cx1 cx2
            obtain ⟨ak, ck, cx1, hcx⟩ := XC.out k _ E3.out hlt
            rw [HROWK.out] at cx1
            obtain ⟨xb2, xf2, rfl, cx2⟩ := hcx l (by rw [HROWK.out]; exact hlt2)
            rw [XVV.out] at cx2
            have cc := World.ownsRow.cellAt S2.out l (by simpa using hlt2)
            rw [HHO2.out] at cc
            have fc := World.ownsRow.frozenAt S2.out l
            have s1 := (World.ownsRow.stored S2.out l (encI (v - xv))).1
            rw [rowOf_set _ _ _ HCW.out] at s1
            have s2 := owns_other S1.out ⟨g2, l, none⟩ (encI (v - xv)) (fun g hg e => by cases hg; exact HNE.out e)
            have e3 := E3.out.setCell (p := ⟨g2, l, none⟩) HG2.out (encI (v - xv))
            unfold encI at cc s1 s2 e3
            have T1 := Lib.hid (owns_ext s1 ((Ext.refl _).drew)); have T2 := Lib.hid (owns_ext s2 ((Ext.refl _).drew)); have E4 := Lib.hid e3.drew
            clear s1 s2 e3 S1 S2 E3 hcx
            go_wp2_with fail
            go_still_tail 15, (by kernel_rfl)
            go_wp2_with fail
            go_roundg (m - (l + 1))
            case measure => omega
            case rel => exact ⟨l + 1, by omega, rfl, by go_num, HNB.out, T2.out, T1.out, E4.out⟩
        · have hlz : ¬ (l : Int) < (m : Int) := by omega
          obtain rfl : l = m := by omega
          obtain ⟨ak, ck, cx1, _⟩ := XC.out k _ hext hlt
          rw [HROWK.out] at cx1
          have p1 := ho1.out; have p2 := ho2.out
          rw [rowOf_congr (G := fun i => sumN l (f i) - RP y l (k + 1) 0 i) (fun i _ => by rw [RP_row])] at p1
          rw [rowOf_congr (G := fun j => sumN n (fun i => f i j) - CP y (k + 1) 0 j) (fun j hj => by rw [CP_row y hj])] at p2
          have P1 := Lib.hid p1; have P2 := Lib.hid p2
          have hok' : Hid (∀ i j, (i < k + 1 ∧ j < l) ∨ (i = k + 1 ∧ j < 0) → badF f b y i j = false) := fun i j hij => by
            rcases hij with ⟨h4, h5⟩ | ⟨_, h4⟩
            · by_cases e : i = k
              · exact hok.out i j (.inr ⟨e, h5⟩)
              · exact hok.out i j (.inl ⟨by omega, h5⟩)
            · omega
          have hlen' : Hid (∀ i, i < k + 1 → len i = l) := fun i hi => by
            by_cases e : i = k
            · rw [e]; exact HROWK.out
            · exact hlen.out i (by omega)
          clear p1 p2 hok hlen
          go_wp2_with fail
          go_roundg (n - (k + 1))
          case measure => omega
          case rel => exact ⟨k + 1, by omega, rfl, by go_num, hlen', hok', P1.out, P2.out, hext⟩
    · have hz : ¬ (k : Int) < (n : Int) := by omega
      obtain rfl : k = n := by omega
      have hV := h3.out (fun i hi => hlen.out i hi) (fun i j hi hj => hok.out i j (.inl ⟨hi, hj⟩))
      rw [← eqN_sub k, ← eqN_sub m] at hV
      have z1 : eqN (fun i => sumN m (f i) - RP y m k 0 i) (fun _ => 0) k = eqN (fun i => sumN m (f i) - sumN m (y i)) (fun _ => 0) k := eqN_congr fun i hi => by rw [RP_end y hi]
      have z2 : eqN (fun j => sumN k (fun i => f i j) - CP y k 0 j) (fun _ => 0) m = eqN (fun j => sumN k (fun i => f i j) - sumN k (fun i => y i j)) (fun _ => 0) m := eqN_congr fun j _ => by rw [CP_end]
      rw [← z1, ← z2] at hV
      have Z1 : Hid (∀ wx, Ext wr wx → Calls Try.prog 56 #[.slice (some ⟨g1, 0, none⟩) k k] wx fun e w' => e = .returned (.bool (eqN (fun i => sumN m (f i) - RP y m k 0 i) (fun _ => 0) k)) ∧ wx = w') := fun wx ex => l13Zero_any _ k k _ _ wx (owns_ext ho1.out ex) (by omega)
      have Z2 : Hid (∀ wx, Ext wr wx → Calls Try.prog 56 #[.slice (some ⟨g2, 0, none⟩) m m] wx fun e w' => e = .returned (.bool (eqN (fun j => sumN k (fun i => f i j) - CP y k 0 j) (fun _ => 0) m)) ∧ wx = w') := fun wx ex => l13Zero_any _ m m _ _ wx (owns_ext ho2.out ex) (by omega)
      obtain ⟨q1, hq1⟩ : ∃ q, eqN (fun i => sumN m (f i) - RP y m k 0 i) (fun _ => 0) k = q := ⟨_, rfl⟩
      obtain ⟨q2, hq2⟩ : ∃ q, eqN (fun j => sumN k (fun i => f i j) - CP y k 0 j) (fun _ => 0) m = q := ⟨_, rfl⟩
      rw [hq1] at Z1 hV
      rw [hq2] at Z2 hV
      have HV := Lib.hid hV
      clear hq1 hq2 z1 z2 hV ho1 ho2 hlen hok
      cases q1 with
      | false =>
        go_wp2_with fail
        refine (Z1.out wr (Ext.refl _)).mono ?_
        rintro e w' ⟨rfl, rfl⟩
        go_wp2_with fail
        go_ret
        exact ⟨by rw [HV.out]; rfl, hext⟩
      | true =>
        go_wp2_with fail
        refine (Z1.out wr (Ext.refl _)).mono ?_
        rintro e w' ⟨rfl, rfl⟩
        go_wp2_with fail
        refine (Z2.out wr (Ext.refl _)).mono ?_
        rintro e w' ⟨rfl, rfl⟩
        go_wp2_with fail
        go_ret
        exact ⟨by rw [HV.out]; rfl, hext⟩
theorem sFitTables_any (a mb ax : Option Addr) (c d cx : Nat) (t : List (List Int)) (mk : List (List Bool)) (x : List (List Int)) (w : World) (ht : IRows w a t) (hmk : BRows w mb mk) (hx : IRows w ax x) (hm : t.length ≤ 9223372036854775807) (hm2 : mk.length ≤ 9223372036854775807) (hm3 : x.length ≤ 9223372036854775807) :
    Calls Try.prog 24 #[.slice a t.length c, .slice mb mk.length d, .slice ax x.length cx] w (Ret (.bool (fitV t mk x)) w) := by
  cases o1 : maskOk t mk with
  | false =>
    have := sFitTables_no a mb ax c d cx t mk x w ht hmk hm hm2 hm3 (.inl o1)
    rwa [← fitV_no1 (x := x) o1] at this
  | true =>
    by_cases hl : x.length = t.length
    case neg =>
      have := sFitTables_no a mb ax c d cx t mk x w ht hmk hm hm2 hm3 (.inr hl)
      rwa [← fitV_no2 (t := t) (mk := mk) (x := x) (fun e => hl (shape_len e).symm)] at this
    obtain ⟨r1, r2⟩ := maskOk_rect o1
    obtain ⟨et, hf⟩ := tabOk_form r1
    have rt := (tabOk_rect r1).1
    rw [hl, r2.1]
    have hn1 := hf.1.1
    refine sFitTables_yes a mb ax c d cx t.length (wide t) (get 0 t) (get 0 x) (get false mk) (fun k => (x.getD k []).length) (fitV t mk x) w (by rw [← et]; exact ht) (by rw [← r2.eq false]; exact hmk) hf ?_ ?_ ?_ ?_
    · obtain ⟨xb, xo, _, _, ea, _⟩ := hx 0 (by omega)
      refine ⟨xb, xo, ea, fun k wx ex hk => ?_⟩
      have hkx : k < x.length := by omega
      obtain ⟨_, _, ak, ck, eb, c1, _, _, rk⟩ := (hx.ext ex) k hkx
      rw [ea] at eb
      cases eb
      have e1 : x.getD k [] = x[k] := by simp [List.getD, hkx]
      refine ⟨ak, ck, by rw [e1]; exact c1, fun l hl2 => ?_⟩
      rw [e1] at hl2
      obtain ⟨g3, o3, e3, c3⟩ := rk l hl2
      refine ⟨g3, o3, e3, ?_⟩
      rw [get_cell hkx hl2]
      exact c3
    · intro k hk hne
      refine fitV_no2 fun e => hne ?_
      have hkx : k < x.length := by omega
      have e1 : x.getD k [] = x[k] := by simp [List.getD, hkx]
      show (x.getD k []).length = wide t
      rw [e1, (shape_rect r1 e).2 k hkx]
    · intro k l hk hl2 hb
      by_cases hs : shape t = shape x
      · rw [fitV_at o1 hs]; exact fitF_bad hk hl2 hb
      · exact fitV_no2 hs
    · intro h1 h2
      have hs : shape t = shape x := shape_eq hl.symm fun k h3 h4 => by
        have e1 : x.getD k [] = x[k] := by simp [List.getD, h4]
        have := h1 k h3
        simp only [e1] at this
        rw [this, rt.2 k h3]
      rw [fitV_at o1 hs]
      exact fitF_good h2
end Go.Proofs.Ytelcdjbbcffliaa
