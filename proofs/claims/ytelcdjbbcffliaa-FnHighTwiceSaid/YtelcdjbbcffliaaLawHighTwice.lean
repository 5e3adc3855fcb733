/- The law FnHighTwice. -/
import Derived.Test.YtelcdjbbcffliaaBndLaw
import Derived.Test.YtelcdjbbcffliaaSPath
import Derived.Test.YtelcdjbbcffliaaTabDraw
namespace Go.Proofs.Ytelcdjbbcffliaa
open Go.RowKit Go.DC
/-- The table is doubled up to a cell. -/
def dblG (f : Nat → Nat → Int) (K L i j : Nat) : Int := if i < K ∨ (i = K ∧ j < L) then 2 * f i j else f i j
theorem dblG_zero (f : Nat → Nat → Int) : dblG f 0 0 = f := by
  funext i j; unfold dblG; rw [if_neg (by omega)]
theorem dblG_at (f : Nat → Nat → Int) (K L : Nat) : dblG f K L K L = f K L := by unfold dblG; rw [if_neg (by omega)]
theorem dblG_step (f : Nat → Nat → Int) (K L : Nat) : upd (dblG f K L) K L (2 * f K L) = dblG f K (L + 1) := by
  funext i j
  unfold upd dblG
  by_cases h1 : i = K ∧ j = L
  · rw [if_pos h1, if_pos (by omega), h1.1, h1.2]
  · rw [if_neg h1]
    by_cases h2 : i < K ∨ (i = K ∧ j < L)
    · rw [if_pos h2, if_pos (by omega)]
    · rw [if_neg h2, if_neg (by omega)]
theorem dblG_row {n m : Nat} (f : Nat → Nat → Int) (K : Nat) : tabOf n m (dblG f K m) = tabOf n m (dblG f (K + 1) 0) := tabOf_congr fun i j _ hj => by
  unfold dblG
  by_cases h : i < K ∨ (i = K ∧ j < m)
  · rw [if_pos h, if_pos (by omega)]
  · rw [if_neg h, if_neg (by omega)]
theorem dblG_all {n m : Nat} (f : Nat → Nat → Int) : tabOf n m (dblG f n 0) = tabOf n m (fun i j => 2 * f i j) := tabOf_congr fun i j hi _ => by
  unfold dblG; rw [if_pos (by omega)]
set_option maxRecDepth 10000 in
set_option maxHeartbeats 4000000 in
theorem FnHighTwice_walk (a0 : Option Addr) (c0 : Nat) (xs : List Int) (w : World) (hx : Bytes w a0 xs) (hm0 : xs.length ≤ 9223372036854775807) (hl0 : xs.length ≤ c0) :
    Calls Try.prog 4 #[.slice a0 xs.length c0] w fun e w' => e = .returned (.bool true) ∧ Ext w w' := by
  by_cases hX : 1048576 < xs.length
  · have hz : (1048576 : Int) < (xs.length : Int) := by omega
    go_enter Try.func4, Try.ntmps4
    go_wp2_with fail
    go_ret
    exact ⟨rfl, Ext.refl _⟩
  have hz0 : ¬ (1048576 : Int) < (xs.length : Int) := by omega
  have hb0 : decide (1048576 < xs.length) = false := by simpa using hX
  have HX := Lib.hid hx; clear hx
  go_enter Try.func4, Try.ntmps4
  go_wp2_with fail
  refine (DrawBoundHigh_any _ _ xs _ HX.out hm0 hl0).mono ?_
  rintro e w1 ⟨a, c, A, mb, d, mk, i, j, rfl, ra, rb, hA4, hM5, hi, hj, e1⟩
  have RA0 := Lib.hid ra; have RB0 := Lib.hid rb
  clear ra rb
  go_wp2_with fail
  refine (BoundHigh_any _ _ _ _ A mk i j _ RA0.out RB0.out (by omega) (by omega)).mono ?_
  rintro e w2 ⟨rfl, e2⟩
  go_wp2_with fail
  refine (sBoundHigh_any _ _ _ _ A mk i j _ (RA0.out.ext e2) (RB0.out.ext e2) (by omega) (by omega) (by omega) (by omega)).mono ?_
  rintro e w3 ⟨rfl, e3⟩
  have E3 := (e1.trans e2).trans e3
  cases o1 : hasC A mk i j
  · have hv := highV_no o1
    rw [hv]
    clear hv o1
    go_wp2_with fail
    go_ret
    exact ⟨rfl, E3⟩
  obtain ⟨k, l, rfl, rfl, hk, hl, hok⟩ := hasC_nat o1
  obtain ⟨n, m, f, b, rfl, rfl, hf⟩ := maskOk_ex hok
  have RA := Lib.hid (RA0.out.ext (e2.trans e3)); have RB := Lib.hid (RB0.out.ext (e2.trans e3))
  have hh := hf.1
  rw [wide_tabOf f (by omega)] at hl
  rw [tabOf_length] at hk
  simp only [tabOf_length]
  rw [highV_tab hf hk hl]
  obtain ⟨hu0, hu1⟩ := hf.high_bd (b := b) hk hl
  obtain ⟨u, hu⟩ : ∃ u, high n m f b k l = u := ⟨_, rfl⟩
  rw [hu] at hu0 hu1 ⊢
  have HU := Lib.hid hu; have HF := Lib.hid hf
  have hkz : (k : Int) < (n : Int) := by omega
  have hlz : (l : Int) < (m : Int) := by omega
  have hbb : (u != u) = false := by simp
  have hbb2 : decide (u < 0) = false := by simpa using hu0
  obtain ⟨⟨hn1, hn4⟩, hm1, hm4⟩ : (1 ≤ n ∧ n ≤ 4) ∧ 1 ≤ m ∧ m ≤ 4 := ⟨⟨hh.1, hh.2.1⟩, hh.2.2⟩
  clear hu hf hh o1 hok RA0 RB0 e1 e2 e3 hA4 hM5 hi hj
  have hll : ∀ k (hk : k < (tabOf n m f).length), (tabOf n m f)[k].length ≤ 2000000 := fun k hk => by rw [tabOf_rowlen]; omega
  have CP : Hid (Calls Try.prog 20 #[.slice a n c] w3 (NewTab encI 3 28 (tabOf n m f) w3)) := by
    have := copyRows_any a c (tabOf n m f) w3 RA.out (by rw [tabOf_length]; omega) hll
    rwa [tabOf_length] at this
  clear hll
  go_wp2_with fail
  refine CP.out.mono ?_
  rintro e w4 ⟨v, vs, rfl, own, e4⟩
  obtain ⟨o, co, _, _, ev, _⟩ := own.atC (i := 0) (j := 0) (by omega) (by omega)
  subst ev
  rw [← dblG_zero f] at own
  have OW := Lib.hid own
  clear own CP
  go_wp2_with fail
  go_loopg [10] n (fun g s wr => ∃ (K : Nat), K ≤ n ∧ g = n - K ∧ s = .int .i64 K ∧ Hid (OwnI wr w3.heap.size (.slice (some ⟨o, 0, none⟩) n co) vs (tabOf n m (dblG f K 0))) ∧ Ext w3 wr)
  case atStart => exact ⟨0, Nat.zero_le _, rfl, rfl, OW.out, e4⟩
  case round =>
    clear OW e4
    obtain ⟨K, hK, rfl, rfl, how, hext⟩ := hrel
    by_cases hKn : K < n
    · have hKz : (K : Int) < (n : Int) := by omega
      go_wp2_with fail
      go_loopg [11] m (fun g s wr => ∃ (L : Nat), L ≤ m ∧ g = m - L ∧ s = .int .i64 L ∧ Hid (OwnI wr w3.heap.size (.slice (some ⟨o, 0, none⟩) n co) vs (tabOf n m (dblG f K L))) ∧ Ext w3 wr)
      case atStart => exact ⟨0, Nat.zero_le _, rfl, rfl, how.out, hext⟩
      case round =>
        clear how hext
        obtain ⟨L, hL, rfl, rfl, how, hext⟩ := hrel
        obtain ⟨tb, tf, a1, ck, ea, ct1⟩ := (RA.out.ext hext).rowC (rect_tabOf n m f) hKn
        subst ea
        by_cases hLm : L < m
        · have hLz : (L : Int) < (m : Int) := by omega
          obtain ⟨_, _, tb2, tf2, ck2, ea, ct3, ct2⟩ := (RA.out.ext hext).atC 0 (rect_tabOf n m f) hKn hLm
          cases ea
          have e1 := ct1.symm.trans ct3
          cases e1
          rw [get_tabOf f hKn hLm] at ct2
          obtain ⟨_, _, g, ck3, ev, _, co1, hg, _, hvs, cg, fg, _⟩ := how.out.atC (i := K) (j := L) hKn hLm
          cases ev
          have hset := how.out.setC (j := L) hKn hvs (2 * f K L)
          rw [dblG_step] at hset
          rw [dblG_at] at cg
          have hx := HF.out.2 K L hKn hLm
          obtain ⟨y, hy⟩ : ∃ y, f K L = y := ⟨_, rfl⟩
          rw [hy] at ct2 cg hset hx
          unfold encI at ct2 cg hset
          have hw : IntKind.i64.wrap (2 * y) = 2 * y := IntWalk.i64_in _ (by omega)
          have HS := Lib.hid hset
          have hx2 := (hext.setCell (p := ⟨g, L, none⟩) hg (.int .i64 (2 * y))).drew
          have HX2 := Lib.hid hx2
          obtain ⟨hx0, hx1⟩ := hx
          clear hset hvs how hy hx2
          go_wp2_with fail
          go_still_tail 13, (by kernel_rfl)
          go_wp2_with fail
          go_roundg (m - (L + 1))
          case measure => omega
          case rel => exact ⟨L + 1, by omega, rfl, by go_num, HS.out.ext ((Ext.refl _).drew), HX2.out⟩
        · have hLz : ¬ (L : Int) < (m : Int) := by omega
          obtain rfl : L = m := by omega
          have how2 := how.out
          rw [dblG_row] at how2
          have HO2 := Lib.hid how2
          clear how how2
          go_wp2_with fail
          go_roundg (n - (K + 1))
          case measure => omega
          case rel => exact ⟨K + 1, by omega, rfl, by go_num, HO2.out, hext⟩
    · have hKz : ¬ (K : Int) < (n : Int) := by omega
      obtain rfl : K = n := by omega
      have how2 := how.out
      rw [dblG_all] at how2
      obtain ⟨_, _, hv, _, rx, _⟩ := how2.rows
      rw [tabOf_length] at hv
      cases hv
      have RX := Lib.hid rx
      have TV : Hid (Calls Try.prog 21 #[.slice (some ⟨o, 0, none⟩) K co] wr fun e w' => e = .returned (.bool (tabOk (tabOf K m fun i j => 2 * f i j))) ∧ wr = w') := by
        have := TableValid_any (some ⟨o, 0, none⟩) co (tabOf K m fun i j => 2 * f i j) wr rx (by rw [tabOf_length]; omega)
        rwa [tabOf_length] at this
      have htw : high K m (fun i j => 2 * f i j) b k l = 2 * u := by rw [high_twice HF.out.pos hk hl, HU.out]
      have htl : low K m (fun i j => 2 * f i j) b k l = 2 * low K m f b k l := low_twice HF.out.pos hk hl
      obtain ⟨hlb0, hlb1⟩ := HF.out.low_bd (b := b) hk hl
      obtain ⟨v, hv⟩ : ∃ v, low K m f b k l = v := ⟨_, rfl⟩
      rw [hv] at htl hlb0 hlb1
      have HT1 := Lib.hid htw; have HT2 := Lib.hid htl; have HV := Lib.hid hv
      have huu : (2 * u == 2 * u) = true := by simp
      have hvv : (2 * v == 2 * v) = true := by simp
      clear how how2 rx htw htl hv
      go_wp2_with fail
      refine TV.out.mono ?_
      rintro e w5 ⟨rfl, rfl⟩
      cases hok : tabOk (tabOf K m fun i j => 2 * f i j) with
      | false =>
        clear hok
        go_wp2_with fail
        go_ret
        exact ⟨rfl, E3.trans hext⟩
      | true =>
        have hf2 := Lib.hid (tabOk_tabOf.1 hok)
        clear hok TV
        go_wp2_with fail
        refine (BoundHigh_tab _ mb co d K m k l _ _ wr wr RX.out (RB.out.ext hext) hf2.out hk hl (Ext.refl _)).mono ?_
        rintro e w6 ⟨rfl, e6⟩
        rw [HT1.out]
        go_wp2_with fail
        refine (BoundLow_tab _ mb co d K m k l _ _ w6 w6 (RX.out.ext e6) (RB.out.ext (hext.trans e6)) hf2.out hk hl (Ext.refl _)).mono ?_
        rintro e w7 ⟨rfl, e7⟩
        rw [HT2.out]
        have x37 := (hext.trans e6).trans e7
        go_wp2_with fail
        refine (BoundLow_tab a mb c d K m k l _ _ w7 w7 (RA.out.ext x37) (RB.out.ext x37) HF.out hk hl (Ext.refl _)).mono ?_
        rintro e w8 ⟨rfl, e8⟩
        rw [HV.out]
        go_wp2_with fail
        go_ret
        exact ⟨by simp, (E3.trans x37).trans e8⟩
end Go.Proofs.Ytelcdjbbcffliaa
