/- The law FnPatternLine. -/
import Derived.Test.YtnlolgooicgfdaaPatGrow
import Derived.Test.YtnlolgooicgfdaaGrowDraw
import Derived.Test.YtnlolgooicgfdaaMaskEq
import Derived.Test.YtnlolgooicgfdaaManyLaw
namespace Go.Proofs.Ytnlolgooicgfdaa
open Go.RowKit Go.DC
set_option maxRecDepth 10000 in
set_option maxHeartbeats 4000000 in
theorem FnPatternLine_walk (a0 : Option Addr) (c0 : Nat) (xs : List Int) (w : World) (hx : Bytes w a0 xs) (hm0 : xs.length ≤ 9223372036854775807) (hl0 : xs.length ≤ c0) :
    Calls Try.prog 9 #[.slice a0 xs.length c0] w fun e w' => e = .returned (.bool true) ∧ Ext w w' := by
  by_cases hX : 1048576 < xs.length
  · have hz : (1048576 : Int) < (xs.length : Int) := by omega
    go_enter Try.func9, Try.ntmps9
    go_wp2_with fail
    go_ret
    exact ⟨rfl, Ext.refl _⟩
  have hz0 : ¬ (1048576 : Int) < (xs.length : Int) := by omega
  have hb0 : decide (1048576 < xs.length) = false := by simpa using hX
  have HX := Lib.hid hx; clear hx
  go_enter Try.func9, Try.ntmps9
  go_wp2_with fail
  refine (DrawPatternGrow_any _ _ xs _ HX.out hm0 hl0).mono ?_
  rintro e w1 ⟨a, c, A, b0, cf, fm, s, rfl, ra, rf, hA4, hF5, hsr, e1⟩
  have RA0 := Lib.hid ra; have RF0 := Lib.hid rf
  clear ra rf
  go_wp2_with fail
  refine (PatternGrow_any _ _ _ _ A fm s _ RA0.out RF0.out (by omega) (by omega) (by omega)).mono ?_
  rintro e w2 ⟨ao, co, vso, r, rfl, hr, oo, e2⟩
  go_wp2_with fail
  refine (sPatternGrows_any _ _ _ _ A fm s _ (RA0.out.ext e2) (RF0.out.ext e2) (by omega) (by omega) (by omega)).mono ?_
  rintro e w3 ⟨aw, cw, vsw, r', rfl, hr', ow, e3⟩
  obtain rfl := hr.uniq hr'
  have E3 := (e1.trans e2).trans e3
  obtain ⟨hd4, hdr, _⟩ := hr.small
  obtain ⟨dt, hdt⟩ : ∃ dt, outT A.length (wide A) r = dt := ⟨_, rfl⟩
  obtain ⟨dk, hdk⟩ : ∃ dk, Option.isSome r = dk := ⟨_, rfl⟩
  rw [hdt] at oo ow hd4 hdr
  simp only [hdt, hdk]
  have RO0 := Lib.hid ((own_read oo).ext e3); have RW0 := Lib.hid (own_read ow)
  have hdn : dt.length ≤ 9223372036854775807 := by omega
  have hdm : ∀ k (h : k < dt.length), dt[k].length ≤ 9223372036854775807 := fun k h => by have := hdr _ (List.getElem_mem h); omega
  have HDT := Lib.hid hdt; have HDK := Lib.hid hdk; have HR := Lib.hid hr; have HDM := Lib.hid hdm; have E23 := Lib.hid (e2.trans e3)
  clear hdt hdk hr hr' oo ow hdr hdm e1 e2 e3
  cases dk with
  | false =>
    go_wp2_with fail
    refine (sameMask_same _ _ _ _ dt _ RO0.out RW0.out hdn HDM.out).mono ?_
    rintro e w4 ⟨rfl, e4⟩
    go_wp2_with fail
    refine (sameMask_same _ _ _ _ dt _ (RO0.out.ext e4) (RW0.out.ext e4) hdn HDM.out).mono ?_
    rintro e w5 ⟨rfl, e5⟩
    go_wp2_with fail
    go_ret
    exact ⟨rfl, (E3.trans e4).trans e5⟩
  | true =>
  go_wp2_with fail
  refine (sameMask_same _ _ _ _ dt _ RO0.out RW0.out hdn HDM.out).mono ?_
  rintro e w4 ⟨rfl, e4⟩
  have E4 := E3.trans e4
  have hno : needOk A fm fm s = true := by
    cases h : needOk A fm fm s with
    | true => rfl
    | false => have := HDK.out; rw [HR.out.2 h] at this; cases this
  have hR := HR.out.1 hno
  obtain ⟨b', rfl⟩ : ∃ b', r = some b' := by
    cases r with
    | none => have := HDK.out; cases this
    | some b' => exact ⟨b', rfl⟩
  obtain ⟨f1, f2, f3, hf, l1, l2, o3⟩ := needOk_forms hno
  have hdt' : tabOf A.length (wide A) b' = dt := HDT.out
  subst hdt'
  have RA1 := Lib.hid (RA0.out.ext (E23.out.trans e4)); have RF1 := Lib.hid (RF0.out.ext (E23.out.trans e4)); have RO1 := Lib.hid (RO0.out.ext e4)
  clear hno HDK HR HDT HDM hdn hd4 RA0 RF0  RO0 RW0 E23 e4
  have RA2 : Hid (IRows w4 a (tabOf A.length (wide A) (get 0 A))) := by rw [← f1]; exact RA1
  have RF2 : Hid (BRows w4 b0 (tabOf A.length (wide A) (get false fm))) := by rw [← f2]; exact RF1
  simp only [l1, tabOf_length]
  clear f1 f2 f3 RA1 RF1  hX
  clear l1 l2 hF5
  generalize get 0 A = f at *
  generalize get false fm = g at *
  generalize A.length = n at *
  generalize wide A = m at *
  have RA := RA2; have RF := RF2; have RO := RO1
  clear RA2 RF2 RO1
  have HG := Lib.hid hR
  obtain ⟨⟨hn1, hn4⟩, hm1, hm4⟩ : (1 ≤ n ∧ n ≤ 4) ∧ 1 ≤ m ∧ m ≤ 4 := ⟨⟨hf.1.1, hf.1.2.1⟩, hf.1.2.2⟩
  have HF := Lib.hid hf; have O3 := Lib.hid o3
  obtain ⟨hs0, hs1⟩ := inCell_iff.1 o3
  clear hf o3 hR hA4 hsr
  obtain ⟨hmore, hzero⟩ := HG.out.ends _ rfl
  have HMORE := Lib.hid hmore; have HZERO := Lib.hid hzero
  clear hmore hzero
  obtain ⟨tb, tf, _, _, ea, ct0⟩ := RA.out.rowC (rect_tabOf n m f) (i := 0) (by omega)
  subst ea
  clear ct0
  have hkey : s = 0 ∨ (1 < n ∧ 1 < m) ∨ manyN n m g = 0 := by
    by_cases h0 : s = 0
    · exact .inl h0
    by_cases hm0 : manyN n m g = 0
    · exact .inr (.inr hm0)
    have hx : ∃ k l, k < n ∧ l < m ∧ g k l = true := by
      refine Classical.byContradiction fun hn => hm0 ?_
      unfold manyN
      rw [sumN_congr (g := fun _ => 0) (fun k hk => ?_), sumN_zero]
      rw [sumN_congr (g := fun _ => 0) (fun l hl => ?_), sumN_zero]
      unfold one
      cases hg : g k l with
      | false => rfl
      | true => exact absurd ⟨k, l, hk, hl, hg⟩ hn
    obtain ⟨k, l, hk, hl, hg⟩ := hx
    have h1 := manyN_none HZERO.out k l hk hl
    unfold notSafeF at h1
    rw [hg, Bool.true_and, Bool.not_eq_false'] at h1
    obtain ⟨⟨j, hj, hne, _⟩, i, hi, hne2, _⟩ := safe_pair HF.out.pos hk hl h1 (by omega)
    exact .inr (.inl ⟨by omega, by omega⟩)
  have HKEY := Lib.hid hkey
  have hb1 := manyN_bd g hn4 hm4
  have MM : Hid (Calls Try.prog 15 #[.slice b0 n cf] w4 fun e w' => e = .returned (.int .i64 (manyN n m g)) ∧ w4 = w') := MaskMany_tab b0 cf n m g w4 RF.out hn4 hm4
  obtain ⟨u, hu⟩ : ∃ u, manyN n m g = u := ⟨_, rfl⟩
  rw [hu] at hkey MM
  obtain ⟨a2, ck2, c2⟩ : ∃ a2 ck2, w4.cell? ⟨tb, tf, none⟩ = some (.slice a2 m ck2) := by
    obtain ⟨_, _, a2, ck2, ea, c2⟩ := RA.out.rowC (rect_tabOf n m f) (i := 0) (by omega)
    cases ea
    exact ⟨a2, ck2, c2⟩
  clear HG HKEY hu hb1
  by_cases hs : s = 0
  · subst hs
    clear hkey
    go_wp2_with fail
    go_ret
    exact ⟨rfl, E4⟩
  have hsb : (s == 0) = false := by rw [beq_eq_false_iff_ne]; exact hs
  by_cases hn : 1 < n
  · have hnz : (1 : Int) < (n : Int) := by omega
    by_cases hm : 1 < m
    · have hmz : (1 : Int) < (m : Int) := by omega
      clear hkey
      go_wp2_with fail
      go_ret
      exact ⟨rfl, E4⟩
    · have hmz : ¬ (1 : Int) < (m : Int) := by omega
      have hu0 : u = 0 := by omega
      subst hu0
      clear hkey
      go_wp2_with fail
      refine MM.out.mono ?_
      rintro e w5 ⟨rfl, rfl⟩
      go_wp2_with fail
      go_ret
      exact ⟨rfl, E4⟩
  · have hnz : ¬ (1 : Int) < (n : Int) := by omega
    have hu0 : u = 0 := by omega
    subst hu0
    clear hkey
    go_wp2_with fail
    refine MM.out.mono ?_
    rintro e w5 ⟨rfl, rfl⟩
    go_wp2_with fail
    go_ret
    exact ⟨rfl, E4⟩
end Go.Proofs.Ytnlolgooicgfdaa
