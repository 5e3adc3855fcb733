/- The law FnBoundMany. -/
import Derived.Test.YtbnpgbkllglcbaaManyLaw
namespace Go.Proofs.Ytbnpgbkllglcbaa
open Go.RowKit Go.DC
set_option maxRecDepth 10000 in
set_option maxHeartbeats 4000000 in
theorem FnBoundMany_walk (a0 : Option Addr) (c0 : Nat) (xs : List Int) (w : World) (hx : Bytes w a0 xs) (hm0 : xs.length ≤ 9223372036854775807) (hl0 : xs.length ≤ c0) :
    Calls Try.prog 9 #[.slice a0 xs.length c0] w fun e w' => e = .returned (.bool true) ∧ Ext w w' := by
  by_cases hX : 1048576 < xs.length
  · have hz : (1048576 : Int) < (xs.length : Int) := by omega
    go_enter Try.func9, Try.ntmps9
    go_wp2_with fail
    go_ret
    exact ⟨rfl, Ext.refl _⟩
  have hz0 : ¬ (1048576 : Int) < (xs.length : Int) := by omega
  have hb0 : decide (1048576 < xs.length) = false := by simpa using hX
  have HX := Lib.hid hx; clear hx
  go_enter Try.func9, Try.ntmps9
  go_wp2_with fail
  refine (DrawBoundMany_any _ _ xs _ HX.out hm0 hl0).mono ?_
  rintro e w1 ⟨a, c, A, mb, d, mk, rfl, ra, rb, hA4, hM5, e1⟩
  have RA0 := Lib.hid ra; have RB0 := Lib.hid rb
  clear ra rb
  go_wp2_with fail
  refine (BoundMany_any _ _ _ _ A mk _ RA0.out RB0.out (by omega) (by omega)).mono ?_
  rintro e w2 ⟨rfl, e2⟩
  go_wp2_with fail
  refine (sBoundMany_any _ _ _ _ A mk _ (RA0.out.ext e2) (RB0.out.ext e2) (by omega) (by omega)).mono ?_
  rintro e w3 ⟨rfl, e3⟩
  have E3 := (e1.trans e2).trans e3
  cases hok : maskOk A mk
  · have hv : manyV A mk = -1 := by unfold manyV; rw [hok]; rfl
    rw [hv]
    clear hv hok
    go_wp2_with fail
    go_ret
    exact ⟨rfl, E3⟩
  obtain ⟨n, m, f, b, rfl, rfl, hf⟩ := maskOk_ex hok
  have RA := Lib.hid (RA0.out.ext (e2.trans e3)); have RB := Lib.hid (RB0.out.ext (e2.trans e3))
  have hh := hf.1
  simp only [tabOf_length]
  rw [manyV_tab hf]
  obtain ⟨⟨hn1, hn4⟩, hm1, hm4⟩ : (1 ≤ n ∧ n ≤ 4) ∧ 1 ≤ m ∧ m ≤ 4 := ⟨⟨hh.1, hh.2.1⟩, hh.2.2⟩
  obtain ⟨hu0, hu1⟩ := manyN_bd (toldF n m f b) hn4 hm4
  obtain ⟨u, hu⟩ : ∃ u, manyN n m (toldF n m f b) = u := ⟨_, rfl⟩
  rw [hu] at hu0 hu1 ⊢
  have HU := Lib.hid hu; have HF := Lib.hid hf
  have hbb : (u != u) = false := by simp
  have hbb2 : decide (u < 0) = false := by simpa using hu0
  clear hu hf hh hok RA0 RB0 e1 e2 e3 hA4 hM5
  obtain ⟨tb, tf, a1, ck1, ea, ct0⟩ := RA.out.rowC (rect_tabOf n m f) (i := 0) (by omega)
  subst ea
  have htab : ∀ i, i < n → ∃ a2 ck2, w3.cell? ⟨tb, tf + i, none⟩ = some (.slice a2 m ck2) := fun i hi => by
    obtain ⟨_, _, a2, ck2, ea, c2⟩ := RA.out.rowC (rect_tabOf n m f) hi
    cases ea
    exact ⟨a2, ck2, c2⟩
  have HTAB := Lib.hid htab
  obtain ⟨p, hp⟩ : ∃ p, toldF n m f b = p := ⟨_, rfl⟩
  have HTO : Hid (∀ (k l : Nat) (wx : World), Ext w3 wx → k < n → l < m → Calls Try.prog 20 #[.slice (some ⟨tb, tf, none⟩) n c, .slice mb n d, .int .i64 k, .int .i64 l] wx (BoolOut (p k l) wx)) := fun k l wx ex hk hl => by
    rw [← hp]
    exact BoundTold_tab _ mb c d n m k l f b wx wx (RA.out.ext ex) (RB.out.ext ex) HF.out hk hl (Ext.refl _)
  have hle : u ≤ manyN n m b := by
    rw [← HU.out]
    refine manyN_le fun i j _ _ e => ?_
    unfold toldF at e
    simp only [Bool.and_eq_true] at e
    exact e.1
  have hzero : manyN n m (toldF n m f fun _ _ => false) = 0 := manyN_zero fun i j _ _ => toldF_no rfl
  have HZ := Lib.hid hzero
  have HUP : Hid (manyN n m p = u) := by rw [← hp]; exact HU.out
  obtain ⟨v, hv⟩ : ∃ v, manyN n m b = v := ⟨_, rfl⟩
  rw [hv] at hle
  have HV := Lib.hid hv
  have hleb : decide (u ≤ v) = true := by simpa using hle
  clear hp htab hzero hv
  go_wp2_with fail
  go_loopg [7, 8] n (fun g s i wr => ∃ k : Nat, k ≤ n ∧ g = n - k ∧ i = .int .i64 k ∧ s = .int .i64 (sumN k (fun i => sumN m (one p i))) ∧ Ext w3 wr)
  case atStart => exact ⟨0, Nat.zero_le _, rfl, rfl, rfl, Ext.refl _⟩
  case round =>
    obtain ⟨k, hk, rfl, rfl, rfl, hext⟩ := hrel
    by_cases hlt : k < n
    · have hz : (k : Int) < (n : Int) := by omega
      have hub : 0 ≤ sumN k (fun i => sumN m (one p i)) ∧ sumN k (fun i => sumN m (one p i)) ≤ 16 := manyN_bd p (h := k) (m := m) (by omega) hm4
      have hsn : sumN (k + 1) (fun i => sumN m (one p i)) = sumN k (fun i => sumN m (one p i)) + sumN m (one p k) := rfl
      obtain ⟨q, hq⟩ : ∃ q, sumN k (fun i => sumN m (one p i)) = q := ⟨_, rfl⟩
      rw [hq] at hub hsn ⊢
      have HSN := Lib.hid hsn
      obtain ⟨hub0, hub1⟩ := hub
      clear hq hsn
      go_wp2_with fail
      go_loopg [7, 9] m (fun g s i wi => ∃ l : Nat, l ≤ m ∧ g = m - l ∧ i = .int .i64 l ∧ s = .int .i64 (q + sumN l (one p k)) ∧ Ext w3 wi)
      case atStart => exact ⟨0, Nat.zero_le _, rfl, rfl, by simp [sumN], hext⟩
      case round =>
        clear hext
        obtain ⟨l, hl, rfl, rfl, rfl, hext⟩ := hrel
        obtain ⟨a2, ck2, c2⟩ := HTAB.out k hlt
        have c2' := hext.cell c2
        clear c2
        by_cases hlt2 : l < m
        · have hlz : (l : Int) < (m : Int) := by omega
          have hvb : 0 ≤ sumN l (one p k) ∧ sumN l (one p k) ≤ 4 := by
            refine ⟨sumN_nonneg fun j _ => (one_bd p k j).1, ?_⟩
            have e : sumN l (one p k) ≤ sumN l (fun _ => 1) := sumN_le fun j _ => (one_bd p k j).2
            rw [sumN_const] at e; omega
          have hsl : sumN (l + 1) (one p k) = sumN l (one p k) + one p k l := rfl
          obtain ⟨r, hr⟩ : ∃ r, sumN l (one p k) = r := ⟨_, rfl⟩
          rw [hr] at hvb hsl ⊢
          obtain ⟨hvb0, hvb1⟩ := hvb
          clear hr
          cases hp : p k l with
          | true =>
            have h1' : one p k l = 1 := by unfold one; rw [hp]; rfl
            rw [h1'] at hsl
            have HSL := Lib.hid hsl; have HP := Lib.hid hp
            clear hsl h1' hp
            go_wp2_with fail
            refine (HTO.out k l _ hext hlt hlt2).mono ?_
            rintro e w4 ⟨rfl, e4⟩
            rw [HP.out]
            go_wp2_with fail
            go_roundg (m - (l + 1))
            case measure => omega
            case rel => exact ⟨l + 1, by omega, rfl, by go_num, by rw [HSL.out, Int.add_assoc], hext.trans e4⟩
          | false =>
            have h1' : one p k l = 0 := by unfold one; rw [hp]; rfl
            rw [h1', Int.add_zero] at hsl
            have HSL := Lib.hid hsl; have HP := Lib.hid hp
            clear hsl h1' hp
            go_wp2_with fail
            refine (HTO.out k l _ hext hlt hlt2).mono ?_
            rintro e w4 ⟨rfl, e4⟩
            rw [HP.out]
            go_wp2_with fail
            go_roundg (m - (l + 1))
            case measure => omega
            case rel => exact ⟨l + 1, by omega, rfl, by go_num, by rw [HSL.out], hext.trans e4⟩
        · have hlz : ¬ (l : Int) < (m : Int) := by omega
          obtain rfl : l = m := by omega
          go_wp2_with fail
          go_roundg (n - (k + 1))
          case measure => omega
          case rel => exact ⟨k + 1, by omega, rfl, by go_num, by rw [HSN.out], hext⟩
    · have hz : ¬ (k : Int) < (n : Int) := by omega
      obtain rfl : k = n := by omega
      have hsu : sumN k (fun i => sumN m (one p i)) = u := HUP.out
      rw [hsu]
      clear hsu
      go_wp2_with fail
      refine (MaskMany_tab mb d k m b wr (RB.out.ext hext) hn4 hm4).mono ?_
      rintro e w4 ⟨rfl, rfl⟩
      rw [HV.out]
      go_wp2_with fail
      refine (allMask_tab _ c k m f false wr wr (RA.out.ext hext) HF.out (Ext.refl _)).mono ?_
      rintro e w5 ⟨a5, c5, rfl, r5, e5⟩
      have R5 := Lib.hid r5; clear r5
      go_wp2_with fail
      refine (BoundMany_tab _ a5 c c5 k m f _ w5 w5 (RA.out.ext (hext.trans e5)) R5.out HF.out (Ext.refl _)).mono ?_
      rintro e w6 ⟨rfl, e6⟩
      rw [HZ.out]
      go_wp2_with fail
      go_ret
      exact ⟨by simp, ((E3.trans hext).trans e5).trans e6⟩
end Go.Proofs.Ytbnpgbkllglcbaa
