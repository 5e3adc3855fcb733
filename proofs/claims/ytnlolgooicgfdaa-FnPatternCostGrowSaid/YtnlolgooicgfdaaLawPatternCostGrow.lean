/- The law FnPatternCostGrow. -/
import Derived.Test.YtnlolgooicgfdaaPatGrow
import Derived.Test.YtnlolgooicgfdaaGrowDraw
import Derived.Test.YtnlolgooicgfdaaMaskEq
import Derived.Test.YtnlolgooicgfdaaManyLaw
import Derived.Test.YtnlolgooicgfdaaCost
namespace Go.Proofs.Ytnlolgooicgfdaa
open Go.RowKit Go.DC
theorem costOf_tab {n m : Nat} {f : Nat → Nat → Int} {b : Nat → Nat → Bool} (hf : InT n m f) : costOf (tabOf n m f) (tabOf n m b) = sumN n (fun i => sumN m (fun j => if b i j then f i j else 0)) := by
  unfold costOf
  rw [maskOk_tabOf hf, if_pos rfl]
  unfold costT
  rw [tabOf_length, wide_tabOf f (by have := hf.1; omega)]
  exact sumN_congr fun i hi => sumN_congr fun j hj => by unfold costG; rw [get_tabOf b hi hj, get_tabOf f hi hj]
set_option maxRecDepth 10000 in
set_option maxHeartbeats 4000000 in
theorem FnPatternCostGrow_walk (a0 : Option Addr) (c0 : Nat) (xs : List Int) (w : World) (hx : Bytes w a0 xs) (hm0 : xs.length ≤ 9223372036854775807) (hl0 : xs.length ≤ c0) :
    Calls Try.prog 4 #[.slice a0 xs.length c0] w fun e w' => e = .returned (.bool true) ∧ Ext w w' := by
  by_cases hX : 1048576 < xs.length
  · have hz : (1048576 : Int) < (xs.length : Int) := by omega
    go_enter Try.func4, Try.ntmps4
    go_wp2_with fail
    go_ret
    exact ⟨rfl, Ext.refl _⟩
  have hz0 : ¬ (1048576 : Int) < (xs.length : Int) := by omega
  have hb0 : decide (1048576 < xs.length) = false := by simpa using hX
  have HX := Lib.hid hx; clear hx
  go_enter Try.func4, Try.ntmps4
  go_wp2_with fail
  refine (DrawPatternGrow_any _ _ xs _ HX.out hm0 hl0).mono ?_
  rintro e w1 ⟨a, c, A, b0, cf, fm, s, rfl, ra, rf, hA4, hF5, hsr, e1⟩
  have RA0 := Lib.hid ra; have RF0 := Lib.hid rf
  clear ra rf
  go_wp2_with fail
  refine (PatternGrow_any _ _ _ _ A fm s _ RA0.out RF0.out (by omega) (by omega) (by omega)).mono ?_
  rintro e w2 ⟨ao, co, vso, r, rfl, hr, oo, e2⟩
  go_wp2_with fail
  refine (sPatternGrows_any _ _ _ _ A fm s _ (RA0.out.ext e2) (RF0.out.ext e2) (by omega) (by omega) (by omega)).mono ?_
  rintro e w3 ⟨aw, cw, vsw, r', rfl, hr', ow, e3⟩
  obtain rfl := hr.uniq hr'
  have E3 := (e1.trans e2).trans e3
  obtain ⟨hd4, hdr, _⟩ := hr.small
  obtain ⟨dt, hdt⟩ : ∃ dt, outT A.length (wide A) r = dt := ⟨_, rfl⟩
  obtain ⟨dk, hdk⟩ : ∃ dk, Option.isSome r = dk := ⟨_, rfl⟩
  rw [hdt] at oo ow hd4 hdr
  simp only [hdt, hdk]
  have RO0 := Lib.hid ((own_read oo).ext e3); have RW0 := Lib.hid (own_read ow)
  have hdn : dt.length ≤ 9223372036854775807 := by omega
  have hdm : ∀ k (h : k < dt.length), dt[k].length ≤ 9223372036854775807 := fun k h => by have := hdr _ (List.getElem_mem h); omega
  have HDT := Lib.hid hdt; have HDK := Lib.hid hdk; have HR := Lib.hid hr; have HDM := Lib.hid hdm; have E23 := Lib.hid (e2.trans e3)
  clear hdt hdk hr hr' oo ow hdr hdm e1 e2 e3
  cases dk with
  | false =>
    go_wp2_with fail
    refine (sameMask_same _ _ _ _ dt _ RO0.out RW0.out hdn HDM.out).mono ?_
    rintro e w4 ⟨rfl, e4⟩
    go_wp2_with fail
    refine (sameMask_same _ _ _ _ dt _ (RO0.out.ext e4) (RW0.out.ext e4) hdn HDM.out).mono ?_
    rintro e w5 ⟨rfl, e5⟩
    go_wp2_with fail
    go_ret
    exact ⟨rfl, (E3.trans e4).trans e5⟩
  | true =>
  go_wp2_with fail
  refine (sameMask_same _ _ _ _ dt _ RO0.out RW0.out hdn HDM.out).mono ?_
  rintro e w4 ⟨rfl, e4⟩
  have E4 := E3.trans e4
  have hno : needOk A fm fm s = true := by
    cases h : needOk A fm fm s with
    | true => rfl
    | false => have := HDK.out; rw [HR.out.2 h] at this; cases this
  have hR := HR.out.1 hno
  obtain ⟨b', rfl⟩ : ∃ b', r = some b' := by
    cases r with
    | none => have := HDK.out; cases this
    | some b' => exact ⟨b', rfl⟩
  obtain ⟨f1, f2, f3, hf, l1, l2, o3⟩ := needOk_forms hno
  have hdt' : tabOf A.length (wide A) b' = dt := HDT.out
  subst hdt'
  have RA1 := Lib.hid (RA0.out.ext (E23.out.trans e4)); have RF1 := Lib.hid (RF0.out.ext (E23.out.trans e4)); have RO1 := Lib.hid (RO0.out.ext e4)
  clear hno HDK HR HDT HDM hdn hd4 RA0 RF0  RO0 RW0 E23 e4
  have RA2 : Hid (IRows w4 a (tabOf A.length (wide A) (get 0 A))) := by rw [← f1]; exact RA1
  have RF2 : Hid (BRows w4 b0 (tabOf A.length (wide A) (get false fm))) := by rw [← f2]; exact RF1
  simp only [l1, tabOf_length]
  clear f1 f2 f3 RA1 RF1  hX
  clear l1 l2 hF5
  generalize get 0 A = f at *
  generalize get false fm = g at *
  generalize A.length = n at *
  generalize wide A = m at *
  have RA := RA2; have RF := RF2; have RO := RO1
  clear RA2 RF2 RO1
  have HG := Lib.hid hR
  obtain ⟨⟨hn1, hn4⟩, hm1, hm4⟩ : (1 ≤ n ∧ n ≤ 4) ∧ 1 ≤ m ∧ m ≤ 4 := ⟨⟨hf.1.1, hf.1.2.1⟩, hf.1.2.2⟩
  have HF := Lib.hid hf; have O3 := Lib.hid o3
  obtain ⟨hs0, hs1⟩ := inCell_iff.1 o3
  clear hf o3 hR hA4 hsr
  obtain ⟨hmore, hzero⟩ := HG.out.ends _ rfl
  have HMORE := Lib.hid hmore; have HZERO := Lib.hid hzero
  clear hmore hzero
  have COST : Hid (∀ (b2 : Nat → Nat → Bool) (mx : Option Addr) (dx : Nat) (wx : World), Ext w4 wx → BRows wx mx (tabOf n m b2) → Calls Try.prog 16 #[.slice a n c, .slice mx n dx] wx (AddOut (sumN n (fun i => sumN m (fun j => if b2 i j then f i j else 0))) wx)) := fun b2 mx dx wx ex hb => by
    have h := PatternCost_any a mx c dx (tabOf n m f) (tabOf n m b2) wx (RA.out.ext ex) hb (by rw [tabOf_length]; omega) (by rw [tabOf_length]; omega)
    rw [tabOf_length, tabOf_length, costOf_tab HF.out] at h
    exact h.mono fun _ _ hr => AddOut.of hr (Ext.refl _)
  have hle1 : sumN n (fun i => sumN m (fun j => if g i j then f i j else 0)) ≤ sumN n (fun i => sumN m (fun j => if b' i j then f i j else 0)) := sumN_le fun i hi => sumN_le fun j hj => by
    have h0 := (HF.out.2 i j hi hj).1
    cases hg : g i j with
    | true => rw [HMORE.out i j hg]; exact Int.le_refl _
    | false => simp only [Bool.false_eq_true, if_false]; split <;> omega
  have hle2 : sumN n (fun i => sumN m (fun j => if b' i j then f i j else 0)) ≤ sumN n (fun i => sumN m (f i)) := sumN_le fun i hi => sumN_le fun j hj => by
    have h0 := (HF.out.2 i j hi hj).1
    split <;> omega
  have htot := HF.out.total_bd
  have hpos : 0 ≤ sumN n (fun i => sumN m (fun j => if g i j then f i j else 0)) := sumN_nonneg fun i hi => sumN_nonneg fun j hj => by
    have h0 := (HF.out.2 i j hi hj).1
    split <;> omega
  have TOT : Hid (∀ (wx : World), Ext w4 wx → Calls Try.prog 17 #[.slice a n c] wx (AddOut (sumN n (fun i => sumN m (f i))) wx)) := fun wx ex => TableTotal_tab a c n m f wx wx (RA.out.ext ex) HF.out (Ext.refl _)
  have COB : Hid (∀ (wx : World), Ext w4 wx → Calls Try.prog 16 #[.slice a n c, .slice ao n co] wx (AddOut (sumN n (fun i => sumN m (fun j => if b' i j then f i j else 0))) wx)) := fun wx ex => COST.out b' ao co wx ex (RO.out.ext ex)
  have COF : Hid (∀ (wx : World), Ext w4 wx → Calls Try.prog 16 #[.slice a n c, .slice b0 n cf] wx (AddOut (sumN n (fun i => sumN m (fun j => if g i j then f i j else 0))) wx)) := fun wx ex => COST.out g b0 cf wx ex (RF.out.ext ex)
  generalize sumN n (fun i => sumN m (fun j => if b' i j then f i j else 0)) = y at hle1 hle2 COB
  generalize sumN n (fun i => sumN m (fun j => if g i j then f i j else 0)) = x at hle1 hpos COF
  generalize sumN n (fun i => sumN m (f i)) = z at hle2 htot TOT
  have g1 : ¬ y < x := by omega
  have g1b : decide (y < x) = false := decide_eq_false g1
  have g2 : ¬ z < y := by omega
  have g2b : decide (z < y) = false := decide_eq_false g2
  clear HG COST hle1 hle2 htot hpos
  go_wp2_with fail
  refine (COB.out w4 (Ext.refl _)).mono ?_
  rintro e w5 ⟨rfl, e5⟩
  go_wp2_with fail
  refine (COF.out w5 e5).mono ?_
  rintro e w6 ⟨rfl, e6⟩
  go_wp2_with fail
  refine (COB.out w6 (e5.trans e6)).mono ?_
  rintro e w7 ⟨rfl, e7⟩
  go_wp2_with fail
  refine (TOT.out w7 ((e5.trans e6).trans e7)).mono ?_
  rintro e w8 ⟨rfl, e8⟩
  go_wp2_with fail
  go_ret
  exact ⟨rfl, (((E4.trans e5).trans e6).trans e7).trans e8⟩
end Go.Proofs.Ytnlolgooicgfdaa
