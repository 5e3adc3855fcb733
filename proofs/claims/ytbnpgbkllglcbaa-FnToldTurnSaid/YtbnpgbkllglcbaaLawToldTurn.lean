/- The law FnToldTurn. -/
import Derived.Test.YtbnpgbkllglcbaaManyLaw
namespace Go.Proofs.Ytbnpgbkllglcbaa
open Go.RowKit Go.DC
/-- A mask without p, up to a cell. -/
def clrG (b p : Nat → Nat → Bool) (K L i j : Nat) : Bool := if i < K ∨ (i = K ∧ j < L) then b i j && !p i j else b i j
theorem clrG_zero (b p : Nat → Nat → Bool) : clrG b p 0 0 = b := by funext i j; unfold clrG; rw [if_neg (by omega)]
theorem clrG_set (b p : Nat → Nat → Bool) (K L : Nat) (h : p K L = true) : upd (clrG b p K L) K L false = clrG b p K (L + 1) := by
  funext i j
  unfold upd clrG
  by_cases h1 : i = K ∧ j = L
  · rw [if_pos h1, if_pos (by omega), h1.1, h1.2, h]; simp
  · rw [if_neg h1]
    by_cases h2 : i < K ∨ (i = K ∧ j < L)
    · rw [if_pos h2, if_pos (by omega)]
    · rw [if_neg h2, if_neg (by omega)]
theorem clrG_skip (b p : Nat → Nat → Bool) (K L : Nat) (h : p K L = false) : clrG b p K L = clrG b p K (L + 1) := by
  funext i j
  unfold clrG
  by_cases h1 : i = K ∧ j = L
  · rw [if_neg (by omega), if_pos (by omega), h1.1, h1.2, h]; simp
  · by_cases h2 : i < K ∨ (i = K ∧ j < L)
    · rw [if_pos h2, if_pos (by omega)]
    · rw [if_neg h2, if_neg (by omega)]
theorem clrG_row {n m : Nat} (b p : Nat → Nat → Bool) (K : Nat) : tabOf n m (clrG b p K m) = tabOf n m (clrG b p (K + 1) 0) := tabOf_congr fun i j _ hj => by
  unfold clrG
  by_cases h : i < K ∨ (i = K ∧ j < m)
  · rw [if_pos h, if_pos (by omega)]
  · rw [if_neg h, if_neg (by omega)]
theorem clrG_all {n m : Nat} (b p : Nat → Nat → Bool) : tabOf n m (clrG b p n 0) = tabOf n m (fun i j => b i j && !p i j) := tabOf_congr fun i j hi _ => by
  unfold clrG; rw [if_pos (by omega)]
theorem told_many_turn {n m : Nat} {f : Nat → Nat → Int} {b : Nat → Nat → Bool} (h0 : Pos n m f) : manyN m n (toldF m n (fun i j => f j i) (fun i j => b j i)) = manyN n m (toldF n m f b) := by
  rw [manyN_congr (q := fun i j => toldF n m f b j i) (fun i j hi hj => toldF_turn h0 hj hi)]
  exact manyN_turn (toldF n m f b) n m
set_option maxRecDepth 10000 in
set_option maxHeartbeats 4000000 in
theorem FnToldTurn_walk (a0 : Option Addr) (c0 : Nat) (xs : List Int) (w : World) (hx : Bytes w a0 xs) (hm0 : xs.length ≤ 9223372036854775807) (hl0 : xs.length ≤ c0) :
    Calls Try.prog 10 #[.slice a0 xs.length c0] w fun e w' => e = .returned (.bool true) ∧ Ext w w' := by
  by_cases hX : 1048576 < xs.length
  · have hz : (1048576 : Int) < (xs.length : Int) := by omega
    go_enter Try.func10, Try.ntmps10
    go_wp2_with fail
    go_ret
    exact ⟨rfl, Ext.refl _⟩
  have hz0 : ¬ (1048576 : Int) < (xs.length : Int) := by omega
  have hb0 : decide (1048576 < xs.length) = false := by simpa using hX
  have HX := Lib.hid hx; clear hx
  go_enter Try.func10, Try.ntmps10
  go_wp2_with fail
  refine (DrawBoundMany_any _ _ xs _ HX.out hm0 hl0).mono ?_
  rintro e w1 ⟨a, c, A, mb, d, mk, rfl, ra, rb, hA4, hM5, e1⟩
  have RA0 := Lib.hid ra; have RB0 := Lib.hid rb
  clear ra rb
  go_wp2_with fail
  refine (BoundMany_any _ _ _ _ A mk _ RA0.out RB0.out (by omega) (by omega)).mono ?_
  rintro e w2 ⟨rfl, e2⟩
  go_wp2_with fail
  refine (sBoundMany_any _ _ _ _ A mk _ (RA0.out.ext e2) (RB0.out.ext e2) (by omega) (by omega)).mono ?_
  rintro e w3 ⟨rfl, e3⟩
  have E3 := (e1.trans e2).trans e3
  cases hok : maskOk A mk
  · have hv : manyV A mk = -1 := by unfold manyV; rw [hok]; rfl
    rw [hv]
    clear hv hok
    go_wp2_with fail
    go_ret
    exact ⟨rfl, E3⟩
  obtain ⟨n, m, f, b, rfl, rfl, hf⟩ := maskOk_ex hok
  have RA := Lib.hid (RA0.out.ext (e2.trans e3)); have RB := Lib.hid (RB0.out.ext (e2.trans e3))
  have hh := hf.1
  simp only [tabOf_length]
  rw [manyV_tab hf]
  obtain ⟨⟨hn1, hn4⟩, hm1, hm4⟩ : (1 ≤ n ∧ n ≤ 4) ∧ 1 ≤ m ∧ m ≤ 4 := ⟨⟨hh.1, hh.2.1⟩, hh.2.2⟩
  obtain ⟨hu0, hu1⟩ := manyN_bd (toldF n m f b) hn4 hm4
  obtain ⟨u, hu⟩ : ∃ u, manyN n m (toldF n m f b) = u := ⟨_, rfl⟩
  rw [hu] at hu0 hu1 ⊢
  have HU := Lib.hid hu; have HF := Lib.hid hf
  have hbb : (u != u) = false := by simp
  have hbb2 : decide (u < 0) = false := by simpa using hu0
  clear hu hf hh hok RA0 RB0 e1 e2 e3 hA4 hM5
  have hturn : manyN m n (toldF m n (fun i j => f j i) (fun i j => b j i)) = u := by rw [told_many_turn HF.out.pos]; exact HU.out
  have HT := Lib.hid hturn
  have hzero : manyN n m (toldF n m f fun i j => b i j && !toldF n m f b i j) = 0 := manyN_zero fun i j hi hj => told_gone HF.out.pos hi hj
  obtain ⟨tb, tf, a1, ck1, ea, ct0⟩ := RA.out.rowC (rect_tabOf n m f) (i := 0) (by omega)
  subst ea
  have htab : ∀ i, i < n → ∃ a2 ck2, w3.cell? ⟨tb, tf + i, none⟩ = some (.slice a2 m ck2) := fun i hi => by
    obtain ⟨_, _, a2, ck2, ea, c2⟩ := RA.out.rowC (rect_tabOf n m f) hi
    cases ea
    exact ⟨a2, ck2, c2⟩
  have HTAB := Lib.hid htab
  obtain ⟨p, hp⟩ : ∃ p, toldF n m f b = p := ⟨_, rfl⟩
  rw [hp] at hzero
  have HZ := Lib.hid hzero
  have HTO : Hid (∀ (k l : Nat) (wx : World), Ext w3 wx → k < n → l < m → Calls Try.prog 20 #[.slice (some ⟨tb, tf, none⟩) n c, .slice mb n d, .int .i64 k, .int .i64 l] wx (BoolOut (p k l) wx)) := fun k l wx ex hk hl => by
    rw [← hp]
    exact BoundTold_tab _ mb c d n m k l f b wx wx (RA.out.ext ex) (RB.out.ext ex) HF.out hk hl (Ext.refl _)
  clear hp htab hzero hturn ct0
  go_wp2_with fail
  refine (TableTurn_tab _ c n m f w3 w3 RA.out HF.out (Ext.refl _)).mono ?_
  rintro e w4 ⟨a4, c4, rfl, r4, e4⟩
  have R4 := Lib.hid r4; clear r4
  go_wp2_with fail
  refine (copyMask_tab mb d n m b w4 (RB.out.ext e4) hn1 hn4 hm1 hm4).mono ?_
  rintro e w5 ⟨o, co, vs, rfl, own, e5⟩
  rw [← clrG_zero b p] at own
  have OW := Lib.hid own
  have X5 := Lib.hid e5
  have E4 := Lib.hid e4
  clear own e4 e5
  go_wp2_with fail
  go_loopg [10] n (fun g s wr => ∃ (K : Nat), K ≤ n ∧ g = n - K ∧ s = .int .i64 K ∧ Hid (OwnB wr w4.heap.size (.slice (some ⟨o, 0, none⟩) n co) vs (tabOf n m (clrG b p K 0))) ∧ Ext w4 wr)
  case atStart => exact ⟨0, Nat.zero_le _, rfl, rfl, OW.out, X5.out⟩
  case round =>
    clear OW X5
    obtain ⟨K, hK, rfl, rfl, how, hext⟩ := hrel
    by_cases hKn : K < n
    · have hKz : (K : Int) < (n : Int) := by omega
      obtain ⟨a2, ck2, c2⟩ := HTAB.out K hKn
      have c20 := E4.out.cell c2
      clear c2
      go_wp2_with fail
      go_loopg [11] m (fun g s wr => ∃ (L : Nat), L ≤ m ∧ g = m - L ∧ s = .int .i64 L ∧ Hid (OwnB wr w4.heap.size (.slice (some ⟨o, 0, none⟩) n co) vs (tabOf n m (clrG b p K L))) ∧ Ext w4 wr)
      case atStart => exact ⟨0, Nat.zero_le _, rfl, rfl, how.out, hext⟩
      case round =>
        clear how hext
        obtain ⟨L, hL, rfl, rfl, how, hext⟩ := hrel
        have c2' := hext.cell c20
        have x3 := Lib.hid (E4.out.trans hext)
        by_cases hLm : L < m
        · have hLz : (L : Int) < (m : Int) := by omega
          cases hp : p K L with
          | true =>
            have HP := Lib.hid hp
            go_wp2_with fail
            refine (HTO.out K L _ x3.out hKn hLm).mono ?_
            rintro e w6 ⟨rfl, e6⟩
            rw [HP.out]
            have how6 := how.out.ext e6
            have hext6 := hext.trans e6
            obtain ⟨_, _, g, ck3, ev, _, co1, hg, _, hvs, cg, fg, _⟩ := how6.atC (i := K) (j := L) hKn hLm
            cases ev
            have hset := how6.setC (j := L) hKn hvs false
            rw [clrG_set b p K L hp] at hset
            have hx2 := hext6.setCell (p := ⟨g, L, none⟩) hg (.bool false)
            unfold encB at cg hset
            have HS := Lib.hid hset; have HX2 := Lib.hid hx2
            clear hset hvs how6 hx2 hp how
            go_wp2_with fail
            go_roundg (m - (L + 1))
            case measure => omega
            case rel => exact ⟨L + 1, by omega, rfl, by go_num, HS.out, HX2.out⟩
          | false =>
            have HP := Lib.hid hp
            have hsk := clrG_skip b p K L hp
            have how2 := how.out
            rw [hsk] at how2
            have HW2 := Lib.hid how2
            clear hp hsk how2 how
            go_wp2_with fail
            refine (HTO.out K L _ x3.out hKn hLm).mono ?_
            rintro e w6 ⟨rfl, e6⟩
            rw [HP.out]
            go_wp2_with fail
            go_roundg (m - (L + 1))
            case measure => omega
            case rel => exact ⟨L + 1, by omega, rfl, by go_num, HW2.out.ext e6, hext.trans e6⟩
        · have hLz : ¬ (L : Int) < (m : Int) := by omega
          obtain rfl : L = m := by omega
          have how2 := how.out
          rw [clrG_row] at how2
          have HO2 := Lib.hid how2
          clear how how2
          go_wp2_with fail
          go_roundg (n - (K + 1))
          case measure => omega
          case rel => exact ⟨K + 1, by omega, rfl, by go_num, HO2.out, hext⟩
    · have hKz : ¬ (K : Int) < (n : Int) := by omega
      obtain rfl : K = n := by omega
      have how2 := how.out
      rw [clrG_all] at how2
      obtain ⟨_, _, hv, _, rx, _⟩ := how2.rows
      rw [tabOf_length] at hv
      cases hv
      have RX := Lib.hid rx
      have x3 := E4.out.trans hext
      clear how how2 rx
      go_wp2_with fail
      refine (turnMask_tab mb d K m b wr wr (RB.out.ext x3) hn1 hn4 hm4 (Ext.refl _)).mono ?_
      rintro e w6 ⟨a6, c6, rfl, r6, e6⟩
      have R6 := Lib.hid r6; clear r6
      go_wp2_with fail
      refine (BoundMany_tab a4 a6 c4 c6 m K _ _ w6 w6 (R4.out.ext (hext.trans e6)) R6.out HF.out.turned (Ext.refl _)).mono ?_
      rintro e w7 ⟨rfl, e7⟩
      rw [HT.out]
      go_wp2_with fail
      refine (BoundMany_tab _ _ c co K m f _ w7 w7 (RA.out.ext (x3.trans (e6.trans e7))) (RX.out.ext (e6.trans e7)) HF.out (Ext.refl _)).mono ?_
      rintro e w8 ⟨rfl, e8⟩
      rw [HZ.out]
      go_wp2_with fail
      go_ret
      exact ⟨by simp, ((E3.trans x3).trans (e6.trans e7)).trans e8⟩
end Go.Proofs.Ytbnpgbkllglcbaa
