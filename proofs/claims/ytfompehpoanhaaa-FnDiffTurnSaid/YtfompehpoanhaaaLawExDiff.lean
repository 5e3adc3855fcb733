/- The exact law on differences. -/
import Derived.Test.YtfompehpoanhaaaTabEqI
import Derived.Test.YtfompehpoanhaaaTabMark
namespace Go.Proofs.Ytfompehpoanhaaa
open Go.RowKit Go.DC
theorem diffT_small (s t : List (List Int)) : (diffT s t).length ≤ 4 ∧ (∀ r ∈ diffT s t, r.length ≤ 4) ∧ sizeI (diffT s t) ≤ 16 := by
  unfold diffT
  split
  · rename_i h
    have hs : tabOk s = true := by unfold diffOk at h; simp at h; exact h.1.1.1
    obtain ⟨_, _, h4, _, hw, _⟩ := tabOk_rect hs
    unfold subT
    have hr : ∀ r ∈ tabOf s.length (wide s) (fun i j => get 0 s i j - get 0 t i j), r.length ≤ 4 := fun r hr => by
      obtain ⟨k, hk, rfl⟩ := List.getElem_of_mem hr
      rw [tabOf_rowlen]; exact hw
    refine ⟨by rw [tabOf_length]; exact h4, hr, ?_⟩
    have : ∀ (l : List (List Int)), (∀ r ∈ l, r.length ≤ 4) → sizeI l ≤ l.length * 4 := fun l => by
      induction l with
      | nil => intro _; simp [sizeI]
      | cons r l ih =>
        intro hh
        have h1 := ih (fun x hx => hh x (by simp [hx]))
        have h2 := hh r (by simp)
        simp only [sizeI, List.map_cons, List.sum_cons, List.length_cons] at h1 ⊢
        omega
    have := this _ hr
    rw [tabOf_length] at this
    omega
  · simp [sizeI]

set_option maxHeartbeats 4000000 in
set_option maxRecDepth 100000 in
theorem FnExactDiffTable_walk (a0 : Option Addr) (c0 : Nat) (A : List (List Int)) (a1 : Option Addr) (c1 : Nat) (B : List (List Int)) (w : World) (hp : IRows w a0 A) (hm0 : A.length ≤ 9223372036854775807 ∧ ∀ k (h : k < A.length), A[k].length ≤ 9223372036854775807) (hq : IRows w a1 B) (hm1 : B.length ≤ 9223372036854775807 ∧ ∀ k (h : k < B.length), B[k].length ≤ 9223372036854775807) :
    Calls Try.prog 4 #[.slice a0 A.length c0, .slice a1 B.length c1] w fun e w' => e = .returned (.bool true) ∧ Ext w w' := by
  obtain ⟨hmA, hmA'⟩ := hm0
  obtain ⟨hmB, hmB'⟩ := hm1
  have HA := Lib.hid hp; clear hp
  have HB := Lib.hid hq; clear hq
  have MA := Lib.hid hmA'; clear hmA'
  have MB := Lib.hid hmB'; clear hmB'
  obtain ⟨hd4, hdr, hds⟩ := diffT_small A B
  have HDR := Lib.hid hdr; clear hdr
  go_enter Try.func4, Try.ntmps4
  go_wp2_with fail
  refine (szIntSS_any _ _ A _ _ HA.out (by omega) (by omega) hmA MA.out).mono ?_
  rintro e w' ⟨r1, rfl, rfl, hr1, hr1'⟩
  by_cases hn1 : r1 < 0
  · go_wp2_with fail
    go_ret
    exact ⟨rfl, Ext.refl _⟩
  have hsA := hr1' (by omega)
  clear hr1'
  go_wp2_with fail
  refine (szIntSS_any _ _ B _ _ HB.out (by omega) (by omega) hmB MB.out).mono ?_
  rintro e w' ⟨r2, rfl, rfl, hr2, hr2'⟩
  by_cases hn2 : r2 < 0
  · go_wp2_with fail
    go_ret
    exact ⟨rfl, Ext.refl _⟩
  have hsB := hr2' (by omega)
  clear hr2'
  have lA : ∀ k (h : k < A.length), A[k].length ≤ 2000000 := fun k h => by have := sizeI_le A k h; omega
  have lB : ∀ k (h : k < B.length), B[k].length ≤ 2000000 := fun k h => by have := sizeI_le B k h; omega
  have LA := Lib.hid lA; have LB := Lib.hid lB; clear lA lB
  go_wp2_with fail
  refine (toIntSS_any _ _ A _ HA.out (by omega) LA.out).mono ?_
  rintro e w1 ⟨v1, vs1, rfl, o1, e1⟩
  obtain ⟨b1, d1, rfl, _, rw1, _⟩ := o1.rows
  have R1 := Lib.hid rw1; clear rw1 o1
  go_wp2_with fail
  refine (toIntSS_any _ _ B _ (HB.out.ext e1) (by omega) LB.out).mono ?_
  rintro e w2 ⟨v2, vs2, rfl, o2, e2⟩
  obtain ⟨b2, d2, rfl, _, rw2, _⟩ := o2.rows
  have R2 := Lib.hid rw2; clear rw2 o2
  go_wp2_with fail
  refine (sDiffTable_any _ _ _ _ A B _ (R1.out.ext e2) R2.out (by omega) (by omega)).mono ?_
  rintro e w3 ⟨vw, vsw, rfl, ow, e3⟩
  obtain ⟨bw, dw, rfl, _, _, _⟩ := ow.rows
  have E3 := (e1.trans e2).trans e3
  have OW := Lib.hid ow; clear ow R1 R2 e1 e2 e3
  go_wp2_with fail
  refine (toIntSS_any _ _ A _ (HA.out.ext E3) (by omega) LA.out).mono ?_
  rintro e w4 ⟨v4, vs4, rfl, o4, e4⟩
  obtain ⟨b4, d4, rfl, _, rw4, _⟩ := o4.rows
  have O4 := Lib.hid o4; have R4 := Lib.hid rw4; clear o4 rw4
  go_wp2_with fail
  refine (toIntSS_any _ _ B _ (HB.out.ext (E3.trans e4)) (by omega) LB.out).mono ?_
  rintro e w5 ⟨v5, vs5, rfl, o5, e5⟩
  obtain ⟨b5, d5, rfl, _, rw5, _⟩ := o5.rows
  have O5 := Lib.hid o5; have R5 := Lib.hid rw5; clear o5 rw5
  have E5 := (E3.trans e4).trans e5
  go_wp2_with fail
  refine (DiffTable_any _ _ _ _ A B _ (R4.out.ext e5) R5.out (by omega) (by omega)).mono ?_
  rintro e w6 ⟨vg, vsg, rfl, og, e6⟩
  obtain ⟨bg, dg, rfl, _, rwg, _⟩ := og.rows
  have OG := Lib.hid og; have RG := Lib.hid rwg; clear og rwg
  have E6 := E5.trans e6
  obtain ⟨dt, hdt⟩ : ∃ dt, diffT A B = dt := ⟨_, rfl⟩
  obtain ⟨dk, hdk⟩ : ∃ dk, diffOk A B = dk := ⟨_, rfl⟩
  rw [hdt] at OW OG RG HDR hd4 hds
  simp only [hdt, hdk]
  have HDT := Lib.hid hdt; have HDK := Lib.hid hdk; clear hdt hdk
  have hdl : dt.length ≤ 9223372036854775807 := by omega
  have hdr' : ∀ r ∈ dt, r.length ≤ 9223372036854775807 := fun r hr => by have := HDR.out r hr; omega
  have HDR' := Lib.hid hdr'; clear hdr'
  have hrA : ∀ r ∈ A, r.length ≤ 9223372036854775807 := fun r hr => by obtain ⟨k, hk, rfl⟩ := List.getElem_of_mem hr; exact MA.out k hk
  have hrB : ∀ r ∈ B, r.length ≤ 9223372036854775807 := fun r hr => by obtain ⟨k, hk, rfl⟩ := List.getElem_of_mem hr; exact MB.out k hk
  have HRA := Lib.hid hrA; have HRB := Lib.hid hrB; clear hrA hrB
  obtain ⟨_, _, ew, _, rww, _⟩ := OW.out.rows
  cases ew
  have RW := Lib.hid rww; clear rww
  have x46 := (e4.trans e5).trans e6
  have hbb : (!(dk == dk)) = false := by simp
  have hbb2 : (dk == dk) = true := by simp
  go_wp2_with fail
  refine (eqIntSS_any _ _ _ _ dt dt _ RG.out (RW.out.ext x46) hdl hdl HDR'.out HDR'.out).mono ?_
  rintro e w7 ⟨rfl, e7⟩
  rw [decide_eq_true (rfl : dt = dt)]
  have E7 := E6.trans e7
  go_wp2_with fail
  refine (toIntSS_any _ _ A _ (HA.out.ext E7) (by omega) LA.out).mono ?_
  rintro e w8 ⟨v8, vs8, rfl, o8, e8⟩
  obtain ⟨b8, d8, rfl, _, rw8, _⟩ := o8.rows
  have R8 := Lib.hid rw8; clear rw8 o8
  go_wp2_with fail
  refine (eqIntSS_any _ _ _ _ A A _ (R4.out.ext (((e5.trans e6).trans e7).trans e8)) R8.out hmA hmA HRA.out HRA.out).mono ?_
  rintro e w9 ⟨rfl, e9⟩
  rw [decide_eq_true (rfl : A = A)]
  have E9 := (E7.trans e8).trans e9
  go_wp2_with fail
  refine (toIntSS_any _ _ B _ (HB.out.ext E9) (by omega) LB.out).mono ?_
  rintro e w10 ⟨v10, vs10, rfl, o10, e10⟩
  obtain ⟨b10, d10, rfl, _, rw10, _⟩ := o10.rows
  have R10 := Lib.hid rw10; clear rw10 o10
  have x610 := ((e7.trans e8).trans e9).trans e10
  go_wp2_with fail
  refine (eqIntSS_any _ _ _ _ B B _ (R5.out.ext (e6.trans x610)) R10.out hmB hmB HRB.out HRB.out).mono ?_
  rintro e w11 ⟨rfl, e11⟩
  rw [decide_eq_true (rfl : B = B)]
  have x611 := x610.trans e11
  have E11 := E6.trans x611
  clear R8 R10 e7 e8 e9 e10 e11 E7 E9 x610
  have hsz4 : w3.heap.size ≤ w4.heap.size := e4.size
  have hsz5 : w4.heap.size ≤ w5.heap.size := e5.size
  have hsz3 : w.heap.size ≤ w3.heap.size := E3.size
  -- the marks
  go_wp2_with fail
  refine (markIntSS_any _ vs4 w3.heap.size _ _ A 1 _ rfl (O4.out.ext ((e5.trans e6).trans x611)) (by omega) (by omega) (by omega) (by omega)).mono ?_
  rintro e w12 ⟨rfl, _, n12⟩
  have b4' : ∀ b, Blocks vs4 b → w3.heap.size ≤ b ∧ b < w4.heap.size := fun b hb => O4.out.blocks_ge hb
  have b5' : ∀ b, Blocks vs5 b → w4.heap.size ≤ b ∧ b < w5.heap.size := fun b hb => O5.out.blocks_ge hb
  have B4 := Lib.hid b4'; have B5 := Lib.hid b5'; clear b4' b5'
  have o5' : OwnI w12 w4.heap.size (.slice b5 B.length d5) vs5 B := (O5.out.ext (e6.trans x611)).only_lt n12 (fun b hb => (B4.out b hb).2)
  have O5' := Lib.hid o5'; clear o5'
  have hkk : (0 : Int) ≤ 1 + (sizeI A : Int) := by omega
  go_wp2_with fail
  refine (markIntSS_any _ vs5 w4.heap.size _ _ B _ _ rfl O5'.out (by omega) (by omega) (by omega) (by omega)).mono ?_
  rintro e w13 ⟨rfl, _, n13⟩
  have og13 : OwnI w13 w5.heap.size (.slice bg dt.length dg) vsg dt := ((OG.out.ext x611).only_lt n12 (fun b hb => by have := (B4.out b hb).2; omega)).only_lt n13 (fun b hb => (B5.out b hb).2)
  have owlt : ∀ b, Blocks vsw b → b < w3.heap.size := fun b hb => (OW.out.blocks_ge hb).2
  have owlt0 : ∀ b, (Value.slice bw dt.length dw).ownBlock = some b → b < w3.heap.size := fun b hb => (OW.out.outer_lt hb).2
  have ow13 : OwnI w13 w2.heap.size (.slice bw dt.length dw) vsw dt := ((OW.out.ext (x46.trans x611)).only_ge n12 (fun b hb => (B4.out b hb).1) owlt0 owlt).only_ge (N := w3.heap.size) n13 (fun b hb => by have := (B5.out b hb).1; omega) owlt0 owlt
  have E13 : Ext w w13 := n13.ext (n12.ext E11 (fun b hb => by have := (B4.out b hb).1; omega)) (fun b hb => by have := (B5.out b hb).1; omega)
  obtain ⟨_, _, eg, _, rg13, _⟩ := og13.rows
  cases eg
  obtain ⟨_, _, ew, _, rw13, _⟩ := ow13.rows
  cases ew
  have OG13 := Lib.hid og13; have OW13 := Lib.hid ow13; have RG13 := Lib.hid rg13; have RW13 := Lib.hid rw13
  clear og13 ow13 rg13 rw13 owlt owlt0 n12 n13
  have hkn : ¬ (1 + (sizeI A : Int) + (sizeI B : Int)) < 0 := by omega
  have hknb : decide ((1 + (sizeI A : Int) + (sizeI B : Int)) < 0) = false := by simpa using hkn
  go_wp2_with fail
  refine (eqIntSS_any _ _ _ _ dt dt _ RG13.out RW13.out hdl hdl HDR'.out HDR'.out).mono ?_
  rintro e w14 ⟨rfl, e14⟩
  rw [decide_eq_true (rfl : dt = dt)]
  go_wp2_with fail
  refine (markIntSS_any _ vsg w5.heap.size _ _ dt 1 _ rfl (OG13.out.ext e14) (by omega) (by omega) (by omega) (by omega)).mono ?_
  rintro e w15 ⟨rfl, og15, n15⟩
  have E14 := E13.trans e14
  have hsz5' : w.heap.size ≤ w5.heap.size := by omega
  have bg' : ∀ b, Blocks vsg b → w5.heap.size ≤ b := fun b hb => (OG.out.blocks_ge hb).1
  have E15 : Ext w w15 := n15.ext E14 (fun b hb => by have := bg' b hb; omega)
  have ow15 : OwnI w15 w2.heap.size (.slice bw dt.length dw) vsw dt := (OW13.out.ext e14).only_ge (N := w5.heap.size) n15 bg' (fun b hb => by have := (OW.out.outer_lt hb).2; omega) (fun b hb => by have := (OW.out.blocks_ge hb).2; omega)
  obtain ⟨_, _, eg, _, rg15, _⟩ := og15.rows
  rw [markTI_length] at eg
  cases eg
  obtain ⟨_, _, ew, _, rw15, _⟩ := ow15.rows
  cases ew
  have RG15 := Lib.hid rg15; have RW15 := Lib.hid rw15
  clear og15 ow15 rg15 rw15 n15 bg'
  go_wp2_with fail
  refine (heldIntSS_any _ _ dt 1 _ RG15.out (by omega) (by omega) (by omega) (by omega)).mono ?_
  rintro e w16 ⟨rfl, rfl⟩
  have hqn : ¬ (1 + (sizeI dt : Int)) < 0 := by omega
  have hqm : ((1 + (sizeI dt : Int)) != (1 + (sizeI dt : Int))) = false := by simp
  go_wp2_with fail
  refine (toIntSS_any _ _ A _ (HA.out.ext E15) (by omega) LA.out).mono ?_
  rintro e w17 ⟨v17, vs17, rfl, o17, e17⟩
  obtain ⟨b17, d17, rfl, _, rw17, _⟩ := o17.rows
  have R17 := Lib.hid rw17; clear rw17 o17
  go_wp2_with fail
  refine (toIntSS_any _ _ B _ (HB.out.ext (E15.trans e17)) (by omega) LB.out).mono ?_
  rintro e w18 ⟨v18, vs18, rfl, o18, e18⟩
  obtain ⟨b18, d18, rfl, _, rw18, _⟩ := o18.rows
  have R18 := Lib.hid rw18; clear rw18 o18
  go_wp2_with fail
  refine (DiffTable_any _ _ _ _ A B _ (R17.out.ext e18) R18.out (by omega) (by omega)).mono ?_
  rintro e w19 ⟨vh, vsh, rfl, oh, e19⟩
  rw [HDT.out] at oh
  rw [HDK.out]
  obtain ⟨bh, dh, rfl, _, rwh, _⟩ := oh.rows
  have RH := Lib.hid rwh; clear rwh oh
  have x19 := (e17.trans e18).trans e19
  go_wp2_with fail
  refine (eqIntSS_any _ _ _ _ dt dt _ RH.out (RW15.out.ext x19) hdl hdl HDR'.out HDR'.out).mono ?_
  rintro e w20 ⟨rfl, e20⟩
  rw [decide_eq_true (rfl : dt = dt)]
  go_wp2_with fail
  refine (heldIntSS_any _ _ dt 1 _ (RG15.out.ext (x19.trans e20)) (by omega) (by omega) (by omega) (by omega)).mono ?_
  rintro e w21 ⟨rfl, rfl⟩
  go_wp2_with fail
  go_ret
  exact ⟨rfl, (E15.trans x19).trans e20⟩
end Go.Proofs.Ytfompehpoanhaaa
