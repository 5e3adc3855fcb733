/- The exact law FnExactPatternGrow. -/
import Derived.Test.YtnlolgooicgfdaaPatGrow
import Derived.Test.YtnlolgooicgfdaaStepSpec
import Derived.Test.YtnlolgooicgfdaaTabMark
import Derived.Test.YtnlolgooicgfdaaTabEqI
import Derived.Test.YtnlolgooicgfdaaTabEqB
namespace Go.Proofs.Ytnlolgooicgfdaa
open Go.RowKit Go.DC
set_option maxHeartbeats 4000000 in
set_option maxRecDepth 100000 in
theorem FnExactPatternGrow_walk (a0 : Option Addr) (c0 : Nat) (T0 : List (List Int)) (a1 : Option Addr) (c1 : Nat) (T1 : List (List Bool)) (N0 : Int) (w : World) (hp0 : IRows w a0 T0) (hm0 : T0.length ≤ 9223372036854775807 ∧ ∀ k (h : k < T0.length), T0[k].length ≤ 9223372036854775807) (hp1 : BRows w a1 T1) (hm1 : T1.length ≤ 9223372036854775807 ∧ ∀ k (h : k < T1.length), T1[k].length ≤ 9223372036854775807) (i0 : -9223372036854775808 ≤ N0 ∧ N0 ≤ 9223372036854775807) :
    Calls Try.prog 5 #[.slice a0 T0.length c0, .slice a1 T1.length c1, .int .i64 N0] w fun e w' => e = .returned (.bool true) ∧ Ext w w' := by
  obtain ⟨hl0, hmm0⟩ := hm0
  have H0 := Lib.hid hp0; clear hp0
  have M0 := Lib.hid hmm0; clear hmm0
  obtain ⟨hl1, hmm1⟩ := hm1
  have H1 := Lib.hid hp1; clear hp1
  have M1 := Lib.hid hmm1; clear hmm1
  go_enter Try.func5, Try.ntmps5
  go_wp2_with fail
  refine (szIntSS_any _ _ T0 _ _ H0.out (by omega) (by omega) hl0 M0.out).mono ?_
  rintro e w' ⟨r0, rfl, rfl, hr0, hr0'⟩
  by_cases hn0 : r0 < 0
  · go_wp2_with fail
    go_ret
    exact ⟨rfl, Ext.refl _⟩
  have hs0 := hr0' (by omega)
  clear hr0'
  go_wp2_with fail
  refine (szBoolSS_any _ _ T1 _ _ H1.out (by omega) (by omega) hl1 M1.out).mono ?_
  rintro e w' ⟨r1, rfl, rfl, hr1, hr1'⟩
  by_cases hn1 : r1 < 0
  · go_wp2_with fail
    go_ret
    exact ⟨rfl, Ext.refl _⟩
  have hs1 := hr1' (by omega)
  clear hr1'
  have l0 : ∀ k (h : k < T0.length), T0[k].length ≤ 2000000 := fun k h => by have := sizeI_le T0 k h; omega
  have L0 := Lib.hid l0; clear l0
  have l1 : ∀ k (h : k < T1.length), T1[k].length ≤ 2000000 := fun k h => by have := sizeB_le T1 k h; omega
  have L1 := Lib.hid l1; clear l1
  go_wp2_with fail
  refine (toIntSS_any _ _ T0 _ (H0.out) (by omega) L0.out).mono ?_
  rintro e w1 ⟨v1, vs1, rfl, o1, e1⟩
  obtain ⟨b1, d1, rfl, _, rw1, _⟩ := o1.rows
  have O1 := Lib.hid o1; have R1 := Lib.hid rw1; have X1 := Lib.hid e1; clear o1 rw1 e1
  have E1 : Ext w w1 := X1.out
  go_wp2_with fail
  refine (toBoolSS_any _ _ T1 _ (H1.out.ext E1) (by omega) L1.out).mono ?_
  rintro e w2 ⟨v2, vs2, rfl, o2, e2⟩
  obtain ⟨b2, d2, rfl, _, rw2, _⟩ := o2.rows
  have O2 := Lib.hid o2; have R2 := Lib.hid rw2; have X2 := Lib.hid e2; clear o2 rw2 e2
  have E2 : Ext w w2 := E1.trans X2.out
  go_wp2_with fail
  refine (sPatternGrows_any _ _ _ _ T0 T1 N0 _ (R1.out.ext (X2.out)) (R2.out.ext (Ext.refl _)) hl0 hl1 i0).mono ?_
  rintro e w3 ⟨bw, dw, vsw, rw, rfl, hrw, o3, e3⟩
  have X3 := Lib.hid e3; clear e3
  have E3 : Ext w w3 := E2.trans X3.out
  have HRW := Lib.hid hrw; clear hrw
  obtain ⟨hd4, hdr, hds⟩ := HRW.out.small
  obtain ⟨dt, hdt⟩ : ∃ dt, outT T0.length (wide T0) rw = dt := ⟨_, rfl⟩
  obtain ⟨dk, hdk⟩ : ∃ dk, Option.isSome rw = dk := ⟨_, rfl⟩
  rw [hdt] at o3 hd4 hdr hds
  simp only [hdt, hdk]
  have HDT := Lib.hid hdt; have HDK := Lib.hid hdk; clear hdt hdk
  have OW := Lib.hid o3; have HDR := Lib.hid hdr; clear o3 hdr
  go_wp2_with fail
  refine (toIntSS_any _ _ T0 _ (H0.out.ext E3) (by omega) L0.out).mono ?_
  rintro e w4 ⟨v4, vs4, rfl, o4, e4⟩
  obtain ⟨b4, d4, rfl, _, rw4, _⟩ := o4.rows
  have O4 := Lib.hid o4; have R4 := Lib.hid rw4; have X4 := Lib.hid e4; clear o4 rw4 e4
  have E4 : Ext w w4 := E3.trans X4.out
  go_wp2_with fail
  refine (toBoolSS_any _ _ T1 _ (H1.out.ext E4) (by omega) L1.out).mono ?_
  rintro e w5 ⟨v5, vs5, rfl, o5, e5⟩
  obtain ⟨b5, d5, rfl, _, rw5, _⟩ := o5.rows
  have O5 := Lib.hid o5; have R5 := Lib.hid rw5; have X5 := Lib.hid e5; clear o5 rw5 e5
  have E5 : Ext w w5 := E4.trans X5.out
  go_wp2_with fail
  refine (PatternGrow_any _ _ _ _ T0 T1 N0 _ (R4.out.ext (X5.out)) (R5.out.ext (Ext.refl _)) hl0 hl1 i0).mono ?_
  rintro e w6 ⟨bg, dg, vsg, rg, rfl, hrg, o6, e6⟩
  have X6 := Lib.hid e6; clear e6
  have E6 : Ext w w6 := E5.trans X6.out
  obtain rfl := HRW.out.uniq hrg
  rw [HDT.out] at o6
  simp only [HDT.out, HDK.out]
  obtain ⟨_, _, eg, _, rwg, _⟩ := o6.rows
  cases eg
  have OG := Lib.hid o6; have RG := Lib.hid rwg; clear o6 rwg hrg
  have hdl : dt.length ≤ 9223372036854775807 := by omega
  have hdr' : ∀ r ∈ dt, r.length ≤ 9223372036854775807 := fun r hr => by have := HDR.out r hr; omega
  have HDR' := Lib.hid hdr'; clear hdr'
  obtain ⟨_, _, ew, _, rww, _⟩ := OW.out.rows
  cases ew
  have RW := Lib.hid rww; clear rww
  have hbb : (dk != dk) = false := by simp
  have hbb2 : (dk == dk) = true := by simp
  go_wp2_with fail
  refine (eqBoolSS_any _ _ _ _ dt dt _ (RG.out) (RW.out.ext (((X4.out).trans X5.out).trans X6.out)) hdl hdl HDR'.out HDR'.out).mono ?_
  rintro e w7 ⟨rfl, e7⟩
  rw [decide_eq_true (rfl : dt = dt)]
  have X7 := Lib.hid e7; clear e7
  have E7 : Ext w w7 := E6.trans X7.out
  go_wp2_with fail
  refine (toIntSS_any _ _ T0 _ (H0.out.ext E7) (by omega) L0.out).mono ?_
  rintro e w8 ⟨v8, vs8, rfl, o8, e8⟩
  obtain ⟨b8, d8, rfl, _, rw8, _⟩ := o8.rows
  have R8 := Lib.hid rw8; have X8 := Lib.hid e8; clear o8 rw8 e8
  have E8 : Ext w w8 := E7.trans X8.out
  go_wp2_with fail
  refine (eqIntSS_any _ _ _ _ T0 T0 _ (R4.out.ext ((((X5.out).trans X6.out).trans X7.out).trans X8.out)) R8.out hl0 hl0 (fun r hr => by obtain ⟨k, hk, rfl⟩ := List.getElem_of_mem hr; exact M0.out k hk) (fun r hr => by obtain ⟨k, hk, rfl⟩ := List.getElem_of_mem hr; exact M0.out k hk)).mono ?_
  rintro e w9 ⟨rfl, e9⟩
  rw [decide_eq_true (rfl : T0 = T0)]
  have X9 := Lib.hid e9; clear R8 e9
  have E9 : Ext w w9 := E8.trans X9.out
  go_wp2_with fail
  refine (toBoolSS_any _ _ T1 _ (H1.out.ext E9) (by omega) L1.out).mono ?_
  rintro e w10 ⟨v10, vs10, rfl, o10, e10⟩
  obtain ⟨b10, d10, rfl, _, rw10, _⟩ := o10.rows
  have R10 := Lib.hid rw10; have X10 := Lib.hid e10; clear o10 rw10 e10
  have E10 : Ext w w10 := E9.trans X10.out
  go_wp2_with fail
  refine (eqBoolSS_any _ _ _ _ T1 T1 _ (R5.out.ext (((((X6.out).trans X7.out).trans X8.out).trans X9.out).trans X10.out)) R10.out hl1 hl1 (fun r hr => by obtain ⟨k, hk, rfl⟩ := List.getElem_of_mem hr; exact M1.out k hk) (fun r hr => by obtain ⟨k, hk, rfl⟩ := List.getElem_of_mem hr; exact M1.out k hk)).mono ?_
  rintro e w11 ⟨rfl, e11⟩
  rw [decide_eq_true (rfl : T1 = T1)]
  have X11 := Lib.hid e11; clear R10 e11
  have E11 : Ext w w11 := E10.trans X11.out
  have hz0 : w3.heap.size ≤ w4.heap.size := X4.out.size
  have hz1 : w4.heap.size ≤ w5.heap.size := X5.out.size
  have hzs : w.heap.size ≤ w3.heap.size := E3.size
  -- the marks
  have ow4 : OwnI w11 w3.heap.size (.slice b4 T0.length d4) vs4 T0 := O4.out.ext (((((((X5.out).trans X6.out).trans X7.out).trans X8.out).trans X9.out).trans X10.out).trans X11.out)
  have OX4 := Lib.hid ow4; clear ow4
  have bl4 : ∀ b, Blocks vs4 b → w3.heap.size ≤ b ∧ b < w4.heap.size := fun b hb => O4.out.blocks_ge hb
  have B4 := Lib.hid bl4; clear bl4
  go_wp2_with fail
  refine (markIntSS_any _ vs4 w3.heap.size _ _ T0 _ _ rfl OX4.out (by omega) (by omega) (by omega) (by omega)).mono ?_
  rintro e w12 ⟨rfl, _, n12⟩
  have E12 : Ext w w12 := n12.ext E11 (fun b hb => by have := (B4.out b hb).1; omega)
  have ow5 : OwnB w12 w4.heap.size (.slice b5 T1.length d5) vs5 T1 := (O5.out.ext ((((((X6.out).trans X7.out).trans X8.out).trans X9.out).trans X10.out).trans X11.out)).only_lt n12 (fun b hb => by have := (B4.out b hb).2; omega)
  have OX5 := Lib.hid ow5; clear ow5
  have bl5 : ∀ b, Blocks vs5 b → w4.heap.size ≤ b ∧ b < w5.heap.size := fun b hb => O5.out.blocks_ge hb
  have B5 := Lib.hid bl5; clear bl5
  have hk1 : (0 : Int) ≤ 1 + (sizeI T0 : Int) := by omega
  go_wp2_with fail
  refine (markBoolSS_any _ vs5 w4.heap.size _ _ T1 _ _ rfl OX5.out (by omega) (by omega) (by omega) (by omega)).mono ?_
  rintro e w13 ⟨rfl, _, n13⟩
  have E13 : Ext w w13 := n13.ext E12 (fun b hb => by have := (B5.out b hb).1; omega)
  have owlt : ∀ b, Blocks vsw b → b < w3.heap.size := fun b hb => (OW.out.blocks_ge hb).2
  have owlt0 : ∀ b, (Value.slice bw dt.length dw).ownBlock = some b → b < w3.heap.size := fun b hb => (OW.out.outer_lt hb).2
  have ogm : OwnB w13 w5.heap.size (.slice bg dt.length dg) vsg dt := ((OG.out.ext (((((X7.out).trans X8.out).trans X9.out).trans X10.out).trans X11.out)).only_lt n12 (fun b hb => by have := (B4.out b hb).2; omega)).only_lt n13 (fun b hb => by have := (B5.out b hb).2; omega)
  have owm : OwnB w13 w2.heap.size (.slice bw dt.length dw) vsw dt := ((OW.out.ext ((((((((X4.out).trans X5.out).trans X6.out).trans X7.out).trans X8.out).trans X9.out).trans X10.out).trans X11.out)).only_ge (N := w3.heap.size) n12 (fun b hb => by have := (B4.out b hb).1; omega) owlt0 owlt).only_ge (N := w3.heap.size) n13 (fun b hb => by have := (B5.out b hb).1; omega) owlt0 owlt
  obtain ⟨_, _, eg, _, rgm, _⟩ := ogm.rows
  cases eg
  obtain ⟨_, _, ew, _, rwm, _⟩ := owm.rows
  cases ew
  have OGM := Lib.hid ogm; have OWM := Lib.hid owm; have RGM := Lib.hid rgm; have RWM := Lib.hid rwm
  clear ogm owm rgm rwm owlt owlt0 n12 n13
  have hkn : ¬ (1 + (sizeI T0 : Int) + (sizeB T1 : Int)) < 0 := by omega
  have hknb : decide ((1 + (sizeI T0 : Int) + (sizeB T1 : Int)) < 0) = false := by simpa using hkn
  go_wp2_with fail
  refine (eqBoolSS_any _ _ _ _ dt dt _ (RGM.out) (RWM.out) hdl hdl HDR'.out HDR'.out).mono ?_
  rintro e w14 ⟨rfl, e14⟩
  rw [decide_eq_true (rfl : dt = dt)]
  have X14 := Lib.hid e14; clear e14
  have E14 : Ext w w14 := E13.trans X14.out
  go_wp2_with fail
  refine (markBoolSS_any _ vsg w5.heap.size _ _ dt 1 _ rfl (OGM.out.ext X14.out) (by omega) (by omega) (by omega) (by omega)).mono ?_
  rintro e w15 ⟨rfl, ogk, nk⟩
  have bgk : ∀ b, Blocks vsg b → w5.heap.size ≤ b := fun b hb => (OG.out.blocks_ge hb).1
  have E15 : Ext w w15 := nk.ext E14 (fun b hb => by have := bgk b hb; omega)
  have owk : OwnB w15 w2.heap.size (.slice bw dt.length dw) vsw dt := (OWM.out.ext X14.out).only_ge (N := w3.heap.size) nk (fun b hb => by have := bgk b hb; omega) (fun b hb => (OW.out.outer_lt hb).2) (fun b hb => (OW.out.blocks_ge hb).2)
  obtain ⟨_, _, eg, _, rgk, _⟩ := ogk.rows
  rw [markTB_length] at eg
  cases eg
  obtain ⟨_, _, ew, _, rwk, _⟩ := owk.rows
  cases ew
  have RGK := Lib.hid rgk; have RWK := Lib.hid rwk
  clear ogk owk rgk rwk nk bgk
  go_wp2_with fail
  refine (heldBoolSS_any _ _ dt 1 _ RGK.out (by omega) (by omega) (by omega) (by omega)).mono ?_
  rintro e wh ⟨rfl, rfl⟩
  have hqn : ¬ (1 + (sizeB dt : Int)) < 0 := by omega
  have hqm : ((1 + (sizeB dt : Int)) != (1 + (sizeB dt : Int))) = false := by simp
  go_wp2_with fail
  refine (toIntSS_any _ _ T0 _ (H0.out.ext E15) (by omega) L0.out).mono ?_
  rintro e w16 ⟨v16, vs16, rfl, o16, e16⟩
  obtain ⟨b16, d16, rfl, _, rw16, _⟩ := o16.rows
  have O16 := Lib.hid o16; have R16 := Lib.hid rw16; have X16 := Lib.hid e16; clear o16 rw16 e16
  have E16 : Ext w w16 := E15.trans X16.out
  go_wp2_with fail
  refine (toBoolSS_any _ _ T1 _ (H1.out.ext E16) (by omega) L1.out).mono ?_
  rintro e w17 ⟨v17, vs17, rfl, o17, e17⟩
  obtain ⟨b17, d17, rfl, _, rw17, _⟩ := o17.rows
  have O17 := Lib.hid o17; have R17 := Lib.hid rw17; have X17 := Lib.hid e17; clear o17 rw17 e17
  have E17 : Ext w w17 := E16.trans X17.out
  go_wp2_with fail
  refine (PatternGrow_any _ _ _ _ T0 T1 N0 _ (R16.out.ext (X17.out)) (R17.out.ext (Ext.refl _)) hl0 hl1 i0).mono ?_
  rintro e w18 ⟨bh, dh, vsh, rh, rfl, hrh, oh, e18⟩
  have X18 := Lib.hid e18; clear e18
  have E18 : Ext w w18 := E17.trans X18.out
  obtain rfl := HRW.out.uniq hrh
  rw [HDT.out] at oh
  simp only [HDT.out, HDK.out]
  obtain ⟨_, _, eh, _, rwh, _⟩ := oh.rows
  cases eh
  have RH := Lib.hid rwh; clear rwh oh hrh
  go_wp2_with fail
  refine (eqBoolSS_any _ _ _ _ dt dt _ (RH.out) (RWK.out.ext (((X16.out).trans X17.out).trans X18.out)) hdl hdl HDR'.out HDR'.out).mono ?_
  rintro e w19 ⟨rfl, e19⟩
  rw [decide_eq_true (rfl : dt = dt)]
  have X19 := Lib.hid e19; clear e19
  have E19 : Ext w w19 := E18.trans X19.out
  go_wp2_with fail
  refine (heldBoolSS_any _ _ dt 1 _ (RGK.out.ext ((((X16.out).trans X17.out).trans X18.out).trans X19.out)) (by omega) (by omega) (by omega) (by omega)).mono ?_
  rintro e wi ⟨rfl, rfl⟩
  go_wp2_with fail
  go_ret
  exact ⟨rfl, E19⟩
end Go.Proofs.Ytnlolgooicgfdaa
