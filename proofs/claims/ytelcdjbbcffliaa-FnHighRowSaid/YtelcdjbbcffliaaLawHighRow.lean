/- The law FnHighRow. -/
import Derived.Test.YtelcdjbbcffliaaBndLaw
import Derived.Test.YtelcdjbbcffliaaSPath
import Derived.Test.YtelcdjbbcffliaaTabDraw
namespace Go.Proofs.Ytelcdjbbcffliaa
open Go.RowKit Go.DC
/-- A sum without one of its parts. -/
def offN (j : Nat) (g : Nat → Int) (L : Nat) : Int := sumN L (fun l => if l = j then 0 else g l)
theorem offN_skip {j : Nat} (g : Nat → Int) : offN j g (j + 1) = offN j g j := by unfold offN; rw [sumN, if_pos rfl, Int.add_zero]
theorem offN_add {j L : Nat} (g : Nat → Int) (h : L ≠ j) : offN j g (L + 1) = offN j g L + g L := by unfold offN; rw [sumN, if_neg h]
theorem offN_bd {j L : Nat} {g : Nat → Int} (hL : L ≤ 4) (hg : ∀ l, l < L → 0 ≤ g l ∧ g l ≤ 396) : 0 ≤ offN j g L ∧ offN j g L ≤ 1584 := by
  refine ⟨sumN_nonneg fun l hl => ?_, ?_⟩
  · have := hg l hl; split <;> omega
  · have e : offN j g L ≤ sumN L (fun _ => 396) := sumN_le fun l hl => by have := hg l hl; split <;> omega
    rw [sumN_const] at e; omega
set_option maxRecDepth 10000 in
set_option maxHeartbeats 4000000 in
theorem FnHighRow_walk (a0 : Option Addr) (c0 : Nat) (xs : List Int) (w : World) (hx : Bytes w a0 xs) (hm0 : xs.length ≤ 9223372036854775807) (hl0 : xs.length ≤ c0) :
    Calls Try.prog 3 #[.slice a0 xs.length c0] w fun e w' => e = .returned (.bool true) ∧ Ext w w' := by
  by_cases hX : 1048576 < xs.length
  · have hz : (1048576 : Int) < (xs.length : Int) := by omega
    go_enter Try.func3, Try.ntmps3
    go_wp2_with fail
    go_ret
    exact ⟨rfl, Ext.refl _⟩
  have hz0 : ¬ (1048576 : Int) < (xs.length : Int) := by omega
  have hb0 : decide (1048576 < xs.length) = false := by simpa using hX
  have HX := Lib.hid hx; clear hx
  go_enter Try.func3, Try.ntmps3
  go_wp2_with fail
  refine (DrawBoundHigh_any _ _ xs _ HX.out hm0 hl0).mono ?_
  rintro e w1 ⟨a, c, A, mb, d, mk, i, j, rfl, ra, rb, hA4, hM5, hi, hj, e1⟩
  have RA0 := Lib.hid ra; have RB0 := Lib.hid rb
  clear ra rb
  go_wp2_with fail
  refine (BoundHigh_any _ _ _ _ A mk i j _ RA0.out RB0.out (by omega) (by omega)).mono ?_
  rintro e w2 ⟨rfl, e2⟩
  go_wp2_with fail
  refine (sBoundHigh_any _ _ _ _ A mk i j _ (RA0.out.ext e2) (RB0.out.ext e2) (by omega) (by omega) (by omega) (by omega)).mono ?_
  rintro e w3 ⟨rfl, e3⟩
  have E3 := (e1.trans e2).trans e3
  cases o1 : hasC A mk i j
  · have hv := highV_no o1
    rw [hv]
    clear hv o1
    go_wp2_with fail
    go_ret
    exact ⟨rfl, E3⟩
  obtain ⟨k, l, rfl, rfl, hk, hl, hok⟩ := hasC_nat o1
  obtain ⟨n, m, f, b, rfl, rfl, hf⟩ := maskOk_ex hok
  have RA := Lib.hid (RA0.out.ext (e2.trans e3)); have RB := Lib.hid (RB0.out.ext (e2.trans e3))
  have hh := hf.1
  rw [wide_tabOf f (by omega)] at hl
  rw [tabOf_length] at hk
  simp only [tabOf_length]
  rw [highV_tab hf hk hl]
  obtain ⟨hu0, hu1⟩ := hf.high_bd (b := b) hk hl
  obtain ⟨u, hu⟩ : ∃ u, high n m f b k l = u := ⟨_, rfl⟩
  rw [hu] at hu0 hu1 ⊢
  have HU := Lib.hid hu; have HF := Lib.hid hf
  have hkz : (k : Int) < (n : Int) := by omega
  have hlz : (l : Int) < (m : Int) := by omega
  have hbb : (u != u) = false := by simp
  have hbb2 : decide (u < 0) = false := by simpa using hu0
  obtain ⟨⟨hn1, hn4⟩, hm1, hm4⟩ : (1 ≤ n ∧ n ≤ 4) ∧ 1 ≤ m ∧ m ≤ 4 := ⟨⟨hh.1, hh.2.1⟩, hh.2.2⟩
  clear hu hf hh o1 hok RA0 RB0 e1 e2 e3 hA4 hM5 hi hj
  obtain ⟨hrow1, hrow2⟩ := high_row (b := b) HF.out.pos hk hl
  rw [HU.out] at hrow1
  have HR1 := Lib.hid hrow1; have HR2 := Lib.hid hrow2
  obtain ⟨tb, tf, a1, ck1, ea, ct0⟩ := RA.out.rowC (rect_tabOf n m f) (i := 0) (by omega)
  subst ea
  simp only [Nat.add_zero] at ct0
  have h0z : (0 : Int) < (n : Int) := by omega
  have hlow4 : ∀ L, L ≤ m → 0 ≤ offN l (fun l => low n m f b k l) L ∧ offN l (fun l => low n m f b k l) L ≤ 1584 := fun L hL => offN_bd (by omega) fun l' hl' => by have := HF.out.low_bd (b := b) hk (show l' < m by omega); omega
  have hhigh4 : ∀ L, L ≤ m → 0 ≤ offN l (fun l => high n m f b k l) L ∧ offN l (fun l => high n m f b k l) L ≤ 1584 := fun L hL => offN_bd (by omega) fun l' hl' => by have := HF.out.high_bd (b := b) hk (show l' < m by omega); omega
  have HL4 := Lib.hid hlow4; have HH4 := Lib.hid hhigh4
  clear hrow1 hrow2 hlow4 hhigh4
  go_wp2_with fail
  go_loopg [9, 10, 11] m (fun g s t p wr => ∃ (L : Nat), L ≤ m ∧ g = m - L ∧ p = .int .i64 L ∧ s = .int .i64 (offN l (fun l => low n m f b k l) L) ∧ t = .int .i64 (offN l (fun l => high n m f b k l) L) ∧ Ext w3 wr)
  case atStart => exact ⟨0, Nat.zero_le _, rfl, rfl, rfl, rfl, Ext.refl _⟩
  case round =>
    obtain ⟨L, hL, rfl, rfl, rfl, rfl, hext⟩ := hrel
    obtain ⟨hs0, hs1⟩ := HL4.out L hL
    obtain ⟨ht0, ht1⟩ := HH4.out L hL
    have ct0' := hext.cell ct0
    by_cases hLm : L < m
    · have hLz : (L : Int) < (m : Int) := by omega
      by_cases hLl : L = l
      · subst hLl
        have e1 := offN_skip (j := L) (fun l => low n m f b k l)
        have e2 := offN_skip (j := L) (fun l => high n m f b k l)
        obtain ⟨s, hs⟩ : ∃ s, offN L (fun l => low n m f b k l) L = s := ⟨_, rfl⟩
        obtain ⟨t, ht⟩ : ∃ t, offN L (fun l => high n m f b k l) L = t := ⟨_, rfl⟩
        rw [hs] at e1 ⊢
        rw [ht] at e2 ⊢
        have E1' := Lib.hid e1; have E2' := Lib.hid e2
        clear e1 e2 hs ht hs0 hs1 ht0 ht1
        go_wp2_with fail
        go_roundg (m - (L + 1))
        case measure => omega
        case rel => exact ⟨L + 1, by omega, rfl, by go_num, by rw [E1'.out], by rw [E2'.out], hext⟩
      · have hne : ((L : Int) != (l : Int)) = true := by rw [bne_iff_ne]; omega
        have e1 := offN_add (fun l => low n m f b k l) hLl
        have e2 := offN_add (fun l => high n m f b k l) hLl
        obtain ⟨s, hs⟩ : ∃ s, offN l (fun l => low n m f b k l) L = s := ⟨_, rfl⟩
        obtain ⟨t, ht⟩ : ∃ t, offN l (fun l => high n m f b k l) L = t := ⟨_, rfl⟩
        obtain ⟨x, hx⟩ : ∃ x, low n m f b k L = x := ⟨_, rfl⟩
        obtain ⟨y, hy⟩ : ∃ y, high n m f b k L = y := ⟨_, rfl⟩
        have hxb := HF.out.low_bd (b := b) hk hLm
        have hyb := HF.out.high_bd (b := b) hk hLm
        rw [hx] at e1 hxb
        rw [hy] at e2 hyb
        rw [hs] at e1 hs0 hs1 ⊢
        rw [ht] at e2 ht0 ht1 ⊢
        have E1' := Lib.hid e1; have E2' := Lib.hid e2; have HX' := Lib.hid hx; have HY' := Lib.hid hy
        obtain ⟨hx0, hx1⟩ := hxb
        obtain ⟨hy0, hy1⟩ := hyb
        clear e1 e2 hs ht hx hy
        go_wp2_with fail
        refine (BoundLow_tab _ mb c d n m k L f b wr wr (RA.out.ext hext) (RB.out.ext hext) HF.out hk hLm (Ext.refl _)).mono ?_
        rintro e w4 ⟨rfl, e4⟩
        rw [HX'.out]
        go_wp2_with fail
        refine (BoundHigh_tab _ mb c d n m k L f b w4 w4 (RA.out.ext (hext.trans e4)) (RB.out.ext (hext.trans e4)) HF.out hk hLm (Ext.refl _)).mono ?_
        rintro e w5 ⟨rfl, e5⟩
        rw [HY'.out]
        go_wp2_with fail
        go_roundg (m - (L + 1))
        case measure => omega
        case rel => exact ⟨L + 1, by omega, rfl, by go_num, by rw [E1'.out], by rw [E2'.out], (hext.trans e4).trans e5⟩
    · have hLz : ¬ (L : Int) < (m : Int) := by omega
      obtain rfl : L = m := by omega
      have hrow : ∃ off2 ck, ∃ bk, wr.cell? ⟨tb, tf + k, none⟩ = some (.slice (some ⟨bk, off2, none⟩) L ck) ∧ ∀ j, j < L → wr.cell? ⟨bk, off2 + j, none⟩ = some (.int .i64 (f k j)) := by
        obtain ⟨_, _, tb2, tf2, ck2, ea, c1, _⟩ := (RA.out.ext hext).atC 0 (rect_tabOf n L f) hk hl
        cases ea
        refine ⟨tf2, ck2, tb2, c1, fun j hj => ?_⟩
        obtain ⟨_, _, tb3, tf3, ck3, ea, c3, c4⟩ := (RA.out.ext hext).atC 0 (rect_tabOf n L f) hk hj
        cases ea
        have e1 := c1.symm.trans c3
        cases e1
        rw [get_tabOf f hk hj] at c4
        exact c4
      obtain ⟨off2, ck, bk, crow, hcells⟩ := hrow
      have SUM : Hid (Calls Try.prog 19 #[.slice (some ⟨bk, off2, none⟩) L ck] wr fun e w' => e = .returned (.int .i64 (sumN L (f k))) ∧ wr = w') := sumOf_cells bk off2 ck L (f k) wr hcells (fun j hj => by have := HF.out.2 k j hk hj; omega) hm4
      have hr1 : u ≤ sumN L (f k) - offN l (fun l => low n L f b k l) L := HR1.out
      have hr2 : sumN L (f k) - offN l (fun l => high n L f b k l) L ≤ low n L f b k l := HR2.out
      have hsb : 0 ≤ sumN L (f k) ∧ sumN L (f k) ≤ 396 := by
        refine ⟨sumN_nonneg fun j hj => (HF.out.2 k j hk hj).1, ?_⟩
        have e : sumN L (f k) ≤ sumN L (fun _ => 99) := sumN_le fun j hj => (HF.out.2 k j hk hj).2
        rw [sumN_const] at e; omega
      have hlb := HF.out.low_bd (b := b) hk hl
      obtain ⟨s, hs⟩ : ∃ s, offN l (fun l => low n L f b k l) L = s := ⟨_, rfl⟩
      obtain ⟨t, ht⟩ : ∃ t, offN l (fun l => high n L f b k l) L = t := ⟨_, rfl⟩
      obtain ⟨v, hv⟩ : ∃ v, low n L f b k l = v := ⟨_, rfl⟩
      obtain ⟨z, hz⟩ : ∃ z, sumN L (f k) = z := ⟨_, rfl⟩
      rw [hs] at hr1 hs0 hs1 ⊢
      rw [ht] at hr2 ht0 ht1 ⊢
      rw [hv] at hr2 hlb
      rw [hz] at hr1 hr2 hsb SUM
      have HV := Lib.hid hv
      have hb1 : decide (u ≤ z - s) = true := by simpa using hr1
      have hb2 : decide (z - t ≤ v) = true := by simpa using hr2
      obtain ⟨hsb0, hsb1⟩ := hsb
      clear hs ht hv hz hcells
      go_wp2_with fail
      refine SUM.out.mono ?_
      rintro e w4 ⟨rfl, rfl⟩
      go_wp2_with fail
      refine (BoundLow_tab _ mb c d n L k l f b wr wr (RA.out.ext hext) (RB.out.ext hext) HF.out hk hl (Ext.refl _)).mono ?_
      rintro e w5 ⟨rfl, e5⟩
      rw [HV.out]
      go_wp2_with fail
      go_ret
      exact ⟨by simp, (E3.trans hext).trans e5⟩
end Go.Proofs.Ytelcdjbbcffliaa
