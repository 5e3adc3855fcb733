/- The exact law FnExactPatternStep. -/
import Derived.Test.YtjkkedoncdeofaaPatStepAny
import Derived.Test.YtjkkedoncdeofaaTabMark
import Derived.Test.YtjkkedoncdeofaaTabEqI
import Derived.Test.YtjkkedoncdeofaaTabEqB
namespace Go.Proofs.Ytjkkedoncdeofaa
open Go.RowKit Go.DC
set_option maxHeartbeats 4000000 in
set_option maxRecDepth 100000 in
theorem FnExactPatternStep_walk (a0 : Option Addr) (c0 : Nat) (T0 : List (List Int)) (a1 : Option Addr) (c1 : Nat) (T1 : List (List Bool)) (a2 : Option Addr) (c2 : Nat) (T2 : List (List Bool)) (N0 : Int) (w : World) (hp0 : IRows w a0 T0) (hm0 : T0.length ≤ 9223372036854775807 ∧ ∀ k (h : k < T0.length), T0[k].length ≤ 9223372036854775807) (hp1 : BRows w a1 T1) (hm1 : T1.length ≤ 9223372036854775807 ∧ ∀ k (h : k < T1.length), T1[k].length ≤ 9223372036854775807) (hp2 : BRows w a2 T2) (hm2 : T2.length ≤ 9223372036854775807 ∧ ∀ k (h : k < T2.length), T2[k].length ≤ 9223372036854775807) (i0 : -9223372036854775808 ≤ N0 ∧ N0 ≤ 9223372036854775807) :
    Calls Try.prog 11 #[.slice a0 T0.length c0, .slice a1 T1.length c1, .slice a2 T2.length c2, .int .i64 N0] w fun e w' => e = .returned (.bool true) ∧ Ext w w' := by
  obtain ⟨hl0, hmm0⟩ := hm0
  have H0 := Lib.hid hp0; clear hp0
  have M0 := Lib.hid hmm0; clear hmm0
  obtain ⟨hl1, hmm1⟩ := hm1
  have H1 := Lib.hid hp1; clear hp1
  have M1 := Lib.hid hmm1; clear hmm1
  obtain ⟨hl2, hmm2⟩ := hm2
  have H2 := Lib.hid hp2; clear hp2
  have M2 := Lib.hid hmm2; clear hmm2
  go_enter Try.func11, Try.ntmps11
  go_wp2_with fail
  refine (szIntSS_any _ _ T0 _ _ H0.out (by omega) (by omega) hl0 M0.out).mono ?_
  rintro e w' ⟨r0, rfl, rfl, hr0, hr0'⟩
  by_cases hn0 : r0 < 0
  · go_wp2_with fail
    go_ret
    exact ⟨rfl, Ext.refl _⟩
  have hs0 := hr0' (by omega)
  clear hr0'
  go_wp2_with fail
  refine (szBoolSS_any _ _ T1 _ _ H1.out (by omega) (by omega) hl1 M1.out).mono ?_
  rintro e w' ⟨r1, rfl, rfl, hr1, hr1'⟩
  by_cases hn1 : r1 < 0
  · go_wp2_with fail
    go_ret
    exact ⟨rfl, Ext.refl _⟩
  have hs1 := hr1' (by omega)
  clear hr1'
  go_wp2_with fail
  refine (szBoolSS_any _ _ T2 _ _ H2.out (by omega) (by omega) hl2 M2.out).mono ?_
  rintro e w' ⟨r2, rfl, rfl, hr2, hr2'⟩
  by_cases hn2 : r2 < 0
  · go_wp2_with fail
    go_ret
    exact ⟨rfl, Ext.refl _⟩
  have hs2 := hr2' (by omega)
  clear hr2'
  have l0 : ∀ k (h : k < T0.length), T0[k].length ≤ 2000000 := fun k h => by have := sizeI_le T0 k h; omega
  have L0 := Lib.hid l0; clear l0
  have l1 : ∀ k (h : k < T1.length), T1[k].length ≤ 2000000 := fun k h => by have := sizeB_le T1 k h; omega
  have L1 := Lib.hid l1; clear l1
  have l2 : ∀ k (h : k < T2.length), T2[k].length ≤ 2000000 := fun k h => by have := sizeB_le T2 k h; omega
  have L2 := Lib.hid l2; clear l2
  go_wp2_with fail
  refine (toIntSS_any _ _ T0 _ (H0.out) (by omega) L0.out).mono ?_
  rintro e w1 ⟨v1, vs1, rfl, o1, e1⟩
  obtain ⟨b1, d1, rfl, _, rw1, _⟩ := o1.rows
  have O1 := Lib.hid o1; have R1 := Lib.hid rw1; have X1 := Lib.hid e1; clear o1 rw1 e1
  have E1 : Ext w w1 := X1.out
  go_wp2_with fail
  refine (toBoolSS_any _ _ T1 _ (H1.out.ext E1) (by omega) L1.out).mono ?_
  rintro e w2 ⟨v2, vs2, rfl, o2, e2⟩
  obtain ⟨b2, d2, rfl, _, rw2, _⟩ := o2.rows
  have O2 := Lib.hid o2; have R2 := Lib.hid rw2; have X2 := Lib.hid e2; clear o2 rw2 e2
  have E2 : Ext w w2 := E1.trans X2.out
  go_wp2_with fail
  refine (toBoolSS_any _ _ T2 _ (H2.out.ext E2) (by omega) L2.out).mono ?_
  rintro e w3 ⟨v3, vs3, rfl, o3, e3⟩
  obtain ⟨b3, d3, rfl, _, rw3, _⟩ := o3.rows
  have O3 := Lib.hid o3; have R3 := Lib.hid rw3; have X3 := Lib.hid e3; clear o3 rw3 e3
  have E3 : Ext w w3 := E2.trans X3.out
  go_wp2_with fail
  refine (sPatternStep_any _ _ _ _ _ _ T0 T1 T2 N0 _ (R1.out.ext ((X2.out).trans X3.out)) (R2.out.ext (X3.out)) (R3.out.ext (Ext.refl _)) hl0 hl1 hl2 i0).mono ?_
  rintro e w4 ⟨bw, dw, vsw, rw, rfl, hrw, o4, e4⟩
  have X4 := Lib.hid e4; clear e4
  have E4 : Ext w w4 := E3.trans X4.out
  have HRW := Lib.hid hrw; clear hrw
  obtain ⟨hd4, hdr, hds⟩ := HRW.out.small
  obtain ⟨dt, hdt⟩ : ∃ dt, outT T0.length (wide T0) rw = dt := ⟨_, rfl⟩
  obtain ⟨dk, hdk⟩ : ∃ dk, Option.isSome rw = dk := ⟨_, rfl⟩
  rw [hdt] at o4 hd4 hdr hds
  simp only [hdt, hdk]
  have HDT := Lib.hid hdt; have HDK := Lib.hid hdk; clear hdt hdk
  have OW := Lib.hid o4; have HDR := Lib.hid hdr; clear o4 hdr
  go_wp2_with fail
  refine (toIntSS_any _ _ T0 _ (H0.out.ext E4) (by omega) L0.out).mono ?_
  rintro e w5 ⟨v5, vs5, rfl, o5, e5⟩
  obtain ⟨b5, d5, rfl, _, rw5, _⟩ := o5.rows
  have O5 := Lib.hid o5; have R5 := Lib.hid rw5; have X5 := Lib.hid e5; clear o5 rw5 e5
  have E5 : Ext w w5 := E4.trans X5.out
  go_wp2_with fail
  refine (toBoolSS_any _ _ T1 _ (H1.out.ext E5) (by omega) L1.out).mono ?_
  rintro e w6 ⟨v6, vs6, rfl, o6, e6⟩
  obtain ⟨b6, d6, rfl, _, rw6, _⟩ := o6.rows
  have O6 := Lib.hid o6; have R6 := Lib.hid rw6; have X6 := Lib.hid e6; clear o6 rw6 e6
  have E6 : Ext w w6 := E5.trans X6.out
  go_wp2_with fail
  refine (toBoolSS_any _ _ T2 _ (H2.out.ext E6) (by omega) L2.out).mono ?_
  rintro e w7 ⟨v7, vs7, rfl, o7, e7⟩
  obtain ⟨b7, d7, rfl, _, rw7, _⟩ := o7.rows
  have O7 := Lib.hid o7; have R7 := Lib.hid rw7; have X7 := Lib.hid e7; clear o7 rw7 e7
  have E7 : Ext w w7 := E6.trans X7.out
  go_wp2_with fail
  refine (PatternStep_any _ _ _ _ _ _ T0 T1 T2 N0 _ (R5.out.ext ((X6.out).trans X7.out)) (R6.out.ext (X7.out)) (R7.out.ext (Ext.refl _)) hl0 hl1 hl2 i0).mono ?_
  rintro e w8 ⟨bg, dg, vsg, rg, rfl, hrg, o8, e8⟩
  have X8 := Lib.hid e8; clear e8
  have E8 : Ext w w8 := E7.trans X8.out
  obtain rfl := HRW.out.uniq hrg
  rw [HDT.out] at o8
  simp only [HDT.out, HDK.out]
  obtain ⟨_, _, eg, _, rwg, _⟩ := o8.rows
  cases eg
  have OG := Lib.hid o8; have RG := Lib.hid rwg; clear o8 rwg hrg
  have hdl : dt.length ≤ 9223372036854775807 := by omega
  have hdr' : ∀ r ∈ dt, r.length ≤ 9223372036854775807 := fun r hr => by have := HDR.out r hr; omega
  have HDR' := Lib.hid hdr'; clear hdr'
  obtain ⟨_, _, ew, _, rww, _⟩ := OW.out.rows
  cases ew
  have RW := Lib.hid rww; clear rww
  have hbb : (dk != dk) = false := by simp
  have hbb2 : (dk == dk) = true := by simp
  go_wp2_with fail
  refine (eqBoolSS_any _ _ _ _ dt dt _ (RG.out) (RW.out.ext ((((X5.out).trans X6.out).trans X7.out).trans X8.out)) hdl hdl HDR'.out HDR'.out).mono ?_
  rintro e w9 ⟨rfl, e9⟩
  rw [decide_eq_true (rfl : dt = dt)]
  have X9 := Lib.hid e9; clear e9
  have E9 : Ext w w9 := E8.trans X9.out
  go_wp2_with fail
  refine (toIntSS_any _ _ T0 _ (H0.out.ext E9) (by omega) L0.out).mono ?_
  rintro e w10 ⟨v10, vs10, rfl, o10, e10⟩
  obtain ⟨b10, d10, rfl, _, rw10, _⟩ := o10.rows
  have R10 := Lib.hid rw10; have X10 := Lib.hid e10; clear o10 rw10 e10
  have E10 : Ext w w10 := E9.trans X10.out
  go_wp2_with fail
  refine (eqIntSS_any _ _ _ _ T0 T0 _ (R5.out.ext (((((X6.out).trans X7.out).trans X8.out).trans X9.out).trans X10.out)) R10.out hl0 hl0 (fun r hr => by obtain ⟨k, hk, rfl⟩ := List.getElem_of_mem hr; exact M0.out k hk) (fun r hr => by obtain ⟨k, hk, rfl⟩ := List.getElem_of_mem hr; exact M0.out k hk)).mono ?_
  rintro e w11 ⟨rfl, e11⟩
  rw [decide_eq_true (rfl : T0 = T0)]
  have X11 := Lib.hid e11; clear R10 e11
  have E11 : Ext w w11 := E10.trans X11.out
  go_wp2_with fail
  refine (toBoolSS_any _ _ T1 _ (H1.out.ext E11) (by omega) L1.out).mono ?_
  rintro e w12 ⟨v12, vs12, rfl, o12, e12⟩
  obtain ⟨b12, d12, rfl, _, rw12, _⟩ := o12.rows
  have R12 := Lib.hid rw12; have X12 := Lib.hid e12; clear o12 rw12 e12
  have E12 : Ext w w12 := E11.trans X12.out
  go_wp2_with fail
  refine (eqBoolSS_any _ _ _ _ T1 T1 _ (R6.out.ext ((((((X7.out).trans X8.out).trans X9.out).trans X10.out).trans X11.out).trans X12.out)) R12.out hl1 hl1 (fun r hr => by obtain ⟨k, hk, rfl⟩ := List.getElem_of_mem hr; exact M1.out k hk) (fun r hr => by obtain ⟨k, hk, rfl⟩ := List.getElem_of_mem hr; exact M1.out k hk)).mono ?_
  rintro e w13 ⟨rfl, e13⟩
  rw [decide_eq_true (rfl : T1 = T1)]
  have X13 := Lib.hid e13; clear R12 e13
  have E13 : Ext w w13 := E12.trans X13.out
  go_wp2_with fail
  refine (toBoolSS_any _ _ T2 _ (H2.out.ext E13) (by omega) L2.out).mono ?_
  rintro e w14 ⟨v14, vs14, rfl, o14, e14⟩
  obtain ⟨b14, d14, rfl, _, rw14, _⟩ := o14.rows
  have R14 := Lib.hid rw14; have X14 := Lib.hid e14; clear o14 rw14 e14
  have E14 : Ext w w14 := E13.trans X14.out
  go_wp2_with fail
  refine (eqBoolSS_any _ _ _ _ T2 T2 _ (R7.out.ext (((((((X8.out).trans X9.out).trans X10.out).trans X11.out).trans X12.out).trans X13.out).trans X14.out)) R14.out hl2 hl2 (fun r hr => by obtain ⟨k, hk, rfl⟩ := List.getElem_of_mem hr; exact M2.out k hk) (fun r hr => by obtain ⟨k, hk, rfl⟩ := List.getElem_of_mem hr; exact M2.out k hk)).mono ?_
  rintro e w15 ⟨rfl, e15⟩
  rw [decide_eq_true (rfl : T2 = T2)]
  have X15 := Lib.hid e15; clear R14 e15
  have E15 : Ext w w15 := E14.trans X15.out
  have hz0 : w4.heap.size ≤ w5.heap.size := X5.out.size
  have hz1 : w5.heap.size ≤ w6.heap.size := X6.out.size
  have hz2 : w6.heap.size ≤ w7.heap.size := X7.out.size
  have hzs : w.heap.size ≤ w4.heap.size := E4.size
  -- the marks
  have ow5 : OwnI w15 w4.heap.size (.slice b5 T0.length d5) vs5 T0 := O5.out.ext ((((((((((X6.out).trans X7.out).trans X8.out).trans X9.out).trans X10.out).trans X11.out).trans X12.out).trans X13.out).trans X14.out).trans X15.out)
  have OX5 := Lib.hid ow5; clear ow5
  have bl5 : ∀ b, Blocks vs5 b → w4.heap.size ≤ b ∧ b < w5.heap.size := fun b hb => O5.out.blocks_ge hb
  have B5 := Lib.hid bl5; clear bl5
  go_wp2_with fail
  refine (markIntSS_any _ vs5 w4.heap.size _ _ T0 _ _ rfl OX5.out (by omega) (by omega) (by omega) (by omega)).mono ?_
  rintro e w16 ⟨rfl, _, n16⟩
  have E16 : Ext w w16 := n16.ext E15 (fun b hb => by have := (B5.out b hb).1; omega)
  have ow6 : OwnB w16 w5.heap.size (.slice b6 T1.length d6) vs6 T1 := (O6.out.ext (((((((((X7.out).trans X8.out).trans X9.out).trans X10.out).trans X11.out).trans X12.out).trans X13.out).trans X14.out).trans X15.out)).only_lt n16 (fun b hb => by have := (B5.out b hb).2; omega)
  have OX6 := Lib.hid ow6; clear ow6
  have bl6 : ∀ b, Blocks vs6 b → w5.heap.size ≤ b ∧ b < w6.heap.size := fun b hb => O6.out.blocks_ge hb
  have B6 := Lib.hid bl6; clear bl6
  have hk1 : (0 : Int) ≤ 1 + (sizeI T0 : Int) := by omega
  go_wp2_with fail
  refine (markBoolSS_any _ vs6 w5.heap.size _ _ T1 _ _ rfl OX6.out (by omega) (by omega) (by omega) (by omega)).mono ?_
  rintro e w17 ⟨rfl, _, n17⟩
  have E17 : Ext w w17 := n17.ext E16 (fun b hb => by have := (B6.out b hb).1; omega)
  have ow7 : OwnB w17 w6.heap.size (.slice b7 T2.length d7) vs7 T2 := ((O7.out.ext ((((((((X8.out).trans X9.out).trans X10.out).trans X11.out).trans X12.out).trans X13.out).trans X14.out).trans X15.out)).only_lt n16 (fun b hb => by have := (B5.out b hb).2; omega)).only_lt n17 (fun b hb => by have := (B6.out b hb).2; omega)
  have OX7 := Lib.hid ow7; clear ow7
  have bl7 : ∀ b, Blocks vs7 b → w6.heap.size ≤ b ∧ b < w7.heap.size := fun b hb => O7.out.blocks_ge hb
  have B7 := Lib.hid bl7; clear bl7
  have hk2 : (0 : Int) ≤ 1 + (sizeI T0 : Int) + (sizeB T1 : Int) := by omega
  go_wp2_with fail
  refine (markBoolSS_any _ vs7 w6.heap.size _ _ T2 _ _ rfl OX7.out (by omega) (by omega) (by omega) (by omega)).mono ?_
  rintro e w18 ⟨rfl, _, n18⟩
  have E18 : Ext w w18 := n18.ext E17 (fun b hb => by have := (B7.out b hb).1; omega)
  have owlt : ∀ b, Blocks vsw b → b < w4.heap.size := fun b hb => (OW.out.blocks_ge hb).2
  have owlt0 : ∀ b, (Value.slice bw dt.length dw).ownBlock = some b → b < w4.heap.size := fun b hb => (OW.out.outer_lt hb).2
  have ogm : OwnB w18 w7.heap.size (.slice bg dt.length dg) vsg dt := (((OG.out.ext (((((((X9.out).trans X10.out).trans X11.out).trans X12.out).trans X13.out).trans X14.out).trans X15.out)).only_lt n16 (fun b hb => by have := (B5.out b hb).2; omega)).only_lt n17 (fun b hb => by have := (B6.out b hb).2; omega)).only_lt n18 (fun b hb => by have := (B7.out b hb).2; omega)
  have owm : OwnB w18 w3.heap.size (.slice bw dt.length dw) vsw dt := (((OW.out.ext (((((((((((X5.out).trans X6.out).trans X7.out).trans X8.out).trans X9.out).trans X10.out).trans X11.out).trans X12.out).trans X13.out).trans X14.out).trans X15.out)).only_ge (N := w4.heap.size) n16 (fun b hb => by have := (B5.out b hb).1; omega) owlt0 owlt).only_ge (N := w4.heap.size) n17 (fun b hb => by have := (B6.out b hb).1; omega) owlt0 owlt).only_ge (N := w4.heap.size) n18 (fun b hb => by have := (B7.out b hb).1; omega) owlt0 owlt
  obtain ⟨_, _, eg, _, rgm, _⟩ := ogm.rows
  cases eg
  obtain ⟨_, _, ew, _, rwm, _⟩ := owm.rows
  cases ew
  have OGM := Lib.hid ogm; have OWM := Lib.hid owm; have RGM := Lib.hid rgm; have RWM := Lib.hid rwm
  clear ogm owm rgm rwm owlt owlt0 n16 n17 n18
  have hkn : ¬ (1 + (sizeI T0 : Int) + (sizeB T1 : Int) + (sizeB T2 : Int)) < 0 := by omega
  have hknb : decide ((1 + (sizeI T0 : Int) + (sizeB T1 : Int) + (sizeB T2 : Int)) < 0) = false := by simpa using hkn
  go_wp2_with fail
  refine (eqBoolSS_any _ _ _ _ dt dt _ (RGM.out) (RWM.out) hdl hdl HDR'.out HDR'.out).mono ?_
  rintro e w19 ⟨rfl, e19⟩
  rw [decide_eq_true (rfl : dt = dt)]
  have X19 := Lib.hid e19; clear e19
  have E19 : Ext w w19 := E18.trans X19.out
  go_wp2_with fail
  refine (markBoolSS_any _ vsg w7.heap.size _ _ dt 1 _ rfl (OGM.out.ext X19.out) (by omega) (by omega) (by omega) (by omega)).mono ?_
  rintro e w20 ⟨rfl, ogk, nk⟩
  have bgk : ∀ b, Blocks vsg b → w7.heap.size ≤ b := fun b hb => (OG.out.blocks_ge hb).1
  have E20 : Ext w w20 := nk.ext E19 (fun b hb => by have := bgk b hb; omega)
  have owk : OwnB w20 w3.heap.size (.slice bw dt.length dw) vsw dt := (OWM.out.ext X19.out).only_ge (N := w4.heap.size) nk (fun b hb => by have := bgk b hb; omega) (fun b hb => (OW.out.outer_lt hb).2) (fun b hb => (OW.out.blocks_ge hb).2)
  obtain ⟨_, _, eg, _, rgk, _⟩ := ogk.rows
  rw [markTB_length] at eg
  cases eg
  obtain ⟨_, _, ew, _, rwk, _⟩ := owk.rows
  cases ew
  have RGK := Lib.hid rgk; have RWK := Lib.hid rwk
  clear ogk owk rgk rwk nk bgk
  go_wp2_with fail
  refine (heldBoolSS_any _ _ dt 1 _ RGK.out (by omega) (by omega) (by omega) (by omega)).mono ?_
  rintro e wh ⟨rfl, rfl⟩
  have hqn : ¬ (1 + (sizeB dt : Int)) < 0 := by omega
  have hqm : ((1 + (sizeB dt : Int)) != (1 + (sizeB dt : Int))) = false := by simp
  go_wp2_with fail
  refine (toIntSS_any _ _ T0 _ (H0.out.ext E20) (by omega) L0.out).mono ?_
  rintro e w21 ⟨v21, vs21, rfl, o21, e21⟩
  obtain ⟨b21, d21, rfl, _, rw21, _⟩ := o21.rows
  have O21 := Lib.hid o21; have R21 := Lib.hid rw21; have X21 := Lib.hid e21; clear o21 rw21 e21
  have E21 : Ext w w21 := E20.trans X21.out
  go_wp2_with fail
  refine (toBoolSS_any _ _ T1 _ (H1.out.ext E21) (by omega) L1.out).mono ?_
  rintro e w22 ⟨v22, vs22, rfl, o22, e22⟩
  obtain ⟨b22, d22, rfl, _, rw22, _⟩ := o22.rows
  have O22 := Lib.hid o22; have R22 := Lib.hid rw22; have X22 := Lib.hid e22; clear o22 rw22 e22
  have E22 : Ext w w22 := E21.trans X22.out
  go_wp2_with fail
  refine (toBoolSS_any _ _ T2 _ (H2.out.ext E22) (by omega) L2.out).mono ?_
  rintro e w23 ⟨v23, vs23, rfl, o23, e23⟩
  obtain ⟨b23, d23, rfl, _, rw23, _⟩ := o23.rows
  have O23 := Lib.hid o23; have R23 := Lib.hid rw23; have X23 := Lib.hid e23; clear o23 rw23 e23
  have E23 : Ext w w23 := E22.trans X23.out
  go_wp2_with fail
  refine (PatternStep_any _ _ _ _ _ _ T0 T1 T2 N0 _ (R21.out.ext ((X22.out).trans X23.out)) (R22.out.ext (X23.out)) (R23.out.ext (Ext.refl _)) hl0 hl1 hl2 i0).mono ?_
  rintro e w24 ⟨bh, dh, vsh, rh, rfl, hrh, oh, e24⟩
  have X24 := Lib.hid e24; clear e24
  have E24 : Ext w w24 := E23.trans X24.out
  obtain rfl := HRW.out.uniq hrh
  rw [HDT.out] at oh
  simp only [HDT.out, HDK.out]
  obtain ⟨_, _, eh, _, rwh, _⟩ := oh.rows
  cases eh
  have RH := Lib.hid rwh; clear rwh oh hrh
  go_wp2_with fail
  refine (eqBoolSS_any _ _ _ _ dt dt _ (RH.out) (RWK.out.ext ((((X21.out).trans X22.out).trans X23.out).trans X24.out)) hdl hdl HDR'.out HDR'.out).mono ?_
  rintro e w25 ⟨rfl, e25⟩
  rw [decide_eq_true (rfl : dt = dt)]
  have X25 := Lib.hid e25; clear e25
  have E25 : Ext w w25 := E24.trans X25.out
  go_wp2_with fail
  refine (heldBoolSS_any _ _ dt 1 _ (RGK.out.ext (((((X21.out).trans X22.out).trans X23.out).trans X24.out).trans X25.out)) (by omega) (by omega) (by omega) (by omega)).mono ?_
  rintro e wi ⟨rfl, rfl⟩
  go_wp2_with fail
  go_ret
  exact ⟨rfl, E25⟩
end Go.Proofs.Ytjkkedoncdeofaa
