/- The laws FnDiffPeople and FnTableOfOrder. -/
import Derived.Test.YtkldaapcpnpdfaaTblOf
import Derived.Test.YtkldaapcpnpdfaaPerMath
import Derived.Test.YtkldaapcpnpdfaaPerDraw3
import Derived.Test.YtkldaapcpnpdfaaPerExact
import Derived.Test.YtkldaapcpnpdfaaPeople3
import Derived.Test.YtkldaapcpnpdfaaPerSrc
import Derived.Test.YtkldaapcpnpdfaaSums
import Derived.Test.YtkldaapcpnpdfaaCells
import Derived.Test.YtkldaapcpnpdfaaTabEqI
namespace Go.Proofs.Ytkldaapcpnpdfaa
open Go.RowKit Go.DC
theorem cntP_nil (a j : Nat) : cntP [] a j = 0 := rfl
theorem cntP_cons (p : Per) (ps : List Per) (a j : Nat) : cntP (p :: ps) a j = cntP ps a j + (if here a j p then 1 else 0) := by
  unfold cntP
  rw [List.filter_cons]
  split <;> simp
theorem cntP_perm {ps qs : List Per} (h : ps.Perm qs) (a j : Nat) : cntP ps a j = cntP qs a j := by
  unfold cntP
  rw [(h.filter _).length_eq]
theorem cntP_split (ps : List Per) (k a j : Nat) : cntP ps a j - cntP (ps.take k) a j = cntP (ps.drop k) a j := by
  have : cntP ps a j = cntP (ps.take k) a j + cntP (ps.drop k) a j := by
    conv => lhs; rw [← List.take_append_drop k ps]
    unfold cntP
    rw [List.filter_append, List.length_append]; simp
  omega
theorem cntP_erase {p : Per} {b : List Per} (h : p ∈ b) (a j : Nat) : cntP b a j = cntP (b.erase p) a j + (if here a j p then 1 else 0) := by
  rw [cntP_perm (List.perm_cons_erase h), cntP_cons]
theorem common_cnt : ∀ (a b : List Per), common a b = b.length → ∀ i j, cntP b i j ≤ cntP a i j
  | [], b, h, i, j => by
    have : b = [] := by simpa [common] using h.symm
    subst this; exact Int.le_refl _
  | p :: a, b, h, i, j => by
    rw [cntP_cons]
    unfold common at h
    by_cases hp : p ∈ b
    · rw [if_pos hp] at h
      have hl : (b.erase p).length = b.length - 1 := List.length_erase_of_mem hp
      have hb : 0 < b.length := List.length_pos_of_mem hp
      have ih := common_cnt a (b.erase p) (by omega) i j
      rw [cntP_erase hp]; omega
    · rw [if_neg hp] at h
      have ih := common_cnt a b h i j
      split <;> omega
theorem okPers_le {ps : List Per} (h : okPers ps = true) : ps.length ≤ 40 ∧ ∀ p ∈ ps, p.ok = true := by
  unfold okPers at h
  simp only [Bool.and_eq_true, decide_eq_true_eq, List.all_eq_true] at h
  exact ⟨h.2, h.1⟩
theorem inT_cnt {ps : List Per} (h : okPers ps = true) : InT 4 4 (cntP ps) := ⟨by omega, fun i j _ _ => by
  have h1 := cntP_bd ps i j
  have h2 := (okPers_le h).1
  omega⟩
theorem cnt_total : ∀ {ps : List Per}, (∀ p ∈ ps, p.ok = true) → sumN 4 (fun a => sumN 4 (cntP ps a)) = ps.length
  | [], _ => by decide +kernel
  | p :: ps, h => by
    have ih := cnt_total (ps := ps) (fun q hq => h q (by simp [hq]))
    obtain ⟨A, J, hA4, hJ4, hA, hJ⟩ := ok_codes (h p (by simp))
    have e : ∀ a, a < 4 → sumN 4 (cntP (p :: ps) a) = sumN 4 (cntP ps a) + (if a = A then 1 else 0) := fun a _ => by
      rw [← sumN_at (n := 4) (k := J) (if a = A then 1 else 0) hJ4, ← sumN_add]
      refine sumN_congr fun j _ => ?_
      rw [cntP_cons]
      congr 1
      unfold here
      rw [hA, hJ]
      by_cases e1 : a = A
      · by_cases e2 : j = J
        · subst e1; subst e2; simp
        · rw [if_neg e2, if_neg]
          simp; omega
      · rw [if_neg, if_neg e1]
        · split <;> rfl
        · simp; omega
    rw [sumN_congr e, sumN_add, sumN_at _ hA4, ih]
    simp
theorem ofP_ok {ps : List Per} (h : okPers ps = true) : ofP ps = tabOf 4 4 (cntP ps) := by unfold ofP ofPers; rw [if_pos h]
theorem ofP_small (ps : List Per) : (ofP ps).length ≤ 4 ∧ ∀ r ∈ ofP ps, r.length ≤ 4 := by
  unfold ofP ofPers
  split
  · refine ⟨by rw [tabOf_length]; omega, fun r hr => ?_⟩
    obtain ⟨k, hk, rfl⟩ := List.getElem_of_mem hr
    rw [tabOf_rowlen]; omega
  · simp
theorem tot_of {n m : Nat} {f : Nat → Nat → Int} (hf : InT n m f) : totalOf (tabOf n m f) = sumN n (fun i => sumN m (f i)) := by
  have hn : 0 < n := by have := hf.1; omega
  unfold totalOf totT
  rw [if_pos (tabOk_tabOf.2 hf), tabOf_length, wide_tabOf _ hn]
  exact sumN_congr fun i hi => sumN_congr fun j hj => get_tabOf _ hi hj
theorem diff_of {a b : List Per} (ha : okPers a = true) (hb : okPers b = true) (hc : ∀ i j, cntP b i j ≤ cntP a i j) : diffOk (ofP a) (ofP b) = true ∧ diffT (ofP a) (ofP b) = tabOf 4 4 (fun i j => cntP a i j - cntP b i j) ∧ totalOf (diffT (ofP a) (ofP b)) = (a.length : Int) - b.length := by
  have hd : InT 4 4 (fun i j => cntP a i j - cntP b i j) := ⟨by omega, fun i j hi hj => by
    have h1 := (inT_cnt ha).2 i j hi hj
    have h2 := (inT_cnt hb).2 i j hi hj
    have h3 := hc i j
    show 0 ≤ cntP a i j - cntP b i j ∧ cntP a i j - cntP b i j ≤ 99
    omega⟩
  have hok : diffOk (ofP a) (ofP b) = true := by rw [ofP_ok ha, ofP_ok hb]; exact diffOk_tabOf.2 ⟨inT_cnt ha, inT_cnt hb, hd⟩
  have hT : diffT (ofP a) (ofP b) = tabOf 4 4 (fun i j => cntP a i j - cntP b i j) := by
    unfold diffT; rw [if_pos hok, ofP_ok ha, ofP_ok hb, subT_tabOf _ _ (by omega)]
  refine ⟨hok, hT, ?_⟩
  rw [hT, tot_of hd, ← cnt_total (okPers_le ha).2, ← cnt_total (okPers_le hb).2, ← sumN_sub (fun i => sumN 4 (cntP a i))]
  exact sumN_congr fun i _ => sumN_sub _ _ _
set_option maxHeartbeats 4000000 in
theorem FnDiffPeople_walk (a0 : Option Addr) (c0 : Nat) (xs : List Int) (w : World) (hx : Bytes w a0 xs) (hm0 : xs.length ≤ 9223372036854775807) (hl0 : xs.length ≤ c0) :
    Calls Try.prog 10 #[.slice a0 xs.length c0] w fun e w' => e = .returned (.bool true) ∧ Ext w w' := by
  by_cases hX : 1048576 < xs.length
  · have hz : (1048576 : Int) < (xs.length : Int) := by omega
    go_enter Try.func10, Try.ntmps10
    go_wp2_with fail
    go_ret
    exact ⟨rfl, Ext.refl _⟩
  have hz0 : ¬ (1048576 : Int) < (xs.length : Int) := by omega
  have hb0 : decide (1048576 < xs.length) = false := by simpa using hX
  have HX := Lib.hid hx; clear hx
  go_enter Try.func10, Try.ntmps10
  go_wp2_with fail
  refine (DrawDiffPeople_any _ _ xs _ HX.out hm0 hl0).mono ?_
  rintro e w1 ⟨u, v, ps, qs, rfl, hl, hl2, own, own2, e1⟩
  obtain ⟨a, c, rfl, hc, pers⟩ := own.pers
  obtain ⟨b, d, rfl, hd, pers2⟩ := own2.pers
  have HP := Lib.hid pers; clear pers own
  have HQ := Lib.hid pers2; clear pers2 own2
  go_wp2_with fail
  refine (DiffPeople_any _ _ _ _ ps qs _ HP.out HQ.out (by omega) (by omega)).mono ?_
  rintro e w2 ⟨rfl, e2⟩
  go_wp2_with fail
  refine (sDiffPeople_any _ _ _ _ ps qs _ (HP.out.ext e2) (HQ.out.ext e2) (by omega) (by omega)).mono ?_
  rintro e w3 ⟨rfl, e3⟩
  have E3 := (e1.trans e2).trans e3
  cases hok : diffPeople ps qs
  · clear hok
    go_wp2_with fail
    go_ret
    exact ⟨rfl, E3⟩
  obtain ⟨ok1, ok2, hcm⟩ := diffPeople_ok hok
  obtain ⟨hdo, _, htt⟩ := diff_of ok1 ok2 (common_cnt ps qs hcm)
  obtain ⟨hla, _⟩ := ofP_small ps
  obtain ⟨hlb, _⟩ := ofP_small qs
  have O1 := Lib.hid ok1; have O2 := Lib.hid ok2; have HDO := Lib.hid hdo; have HTT := Lib.hid htt
  have hdl := (diffT_len (ofP ps) (ofP qs))
  obtain ⟨A, hA⟩ : ∃ A, ofP ps = A := ⟨_, rfl⟩
  obtain ⟨B, hB⟩ : ∃ B, ofP qs = B := ⟨_, rfl⟩
  rw [hA, hB] at HDO HTT hdl
  rw [hA] at hla
  rw [hB] at hlb
  obtain ⟨dt, hdt⟩ : ∃ dt, diffT A B = dt := ⟨_, rfl⟩
  rw [hdt] at HTT hdl
  have HA := Lib.hid hA; have HB := Lib.hid hB; have HDT := Lib.hid hdt
  clear hok ok1 ok2 hcm hdo htt hA hB hdt
  have P3 := Lib.hid (HP.out.ext (e2.trans e3))
  have Q3 := Lib.hid (HQ.out.ext (e2.trans e3))
  clear HP HQ e1 e2 e3
  go_wp2_with fail
  refine (TableOf_any _ _ ps _ P3.out (by omega)).mono ?_
  rintro e w4 ⟨v4, vs4, rfl, o4, e4⟩
  rw [O1.out]
  rw [HA.out] at o4
  obtain ⟨a4, c4, rfl, _, r4, _⟩ := o4.rows
  have R4 := Lib.hid r4; clear r4 o4
  go_wp2_with fail
  refine (TableOf_any _ _ qs _ (Q3.out.ext e4) (by omega)).mono ?_
  rintro e w5 ⟨v5, vs5, rfl, o5, e5⟩
  rw [O2.out]
  rw [HB.out] at o5
  obtain ⟨a5, c5, rfl, _, r5, _⟩ := o5.rows
  have R5 := Lib.hid r5; clear r5 o5
  go_wp2_with fail
  refine (DiffTable_any _ _ _ _ A B _ (R4.out.ext e5) R5.out (by omega) (by omega)).mono ?_
  rintro e w6 ⟨v6, vs6, rfl, o6, e6⟩
  rw [HDO.out]
  rw [HDT.out] at o6
  obtain ⟨a6, c6, rfl, _, r6, _⟩ := o6.rows
  have R6 := Lib.hid r6; clear r6 o6
  go_wp2_with fail
  refine (TableTotal_any _ _ dt _ R6.out (by omega)).mono ?_
  rintro e w7 ⟨rfl, e7⟩
  rw [HTT.out]
  have hww : IntKind.i64.wrap ((ps.length : Int) - (qs.length : Int)) = (ps.length : Int) - (qs.length : Int) := IntWalk.i64_in _ (by omega)
  have hee : ((ps.length : Int) - (qs.length : Int) == (ps.length : Int) - (qs.length : Int)) = true := by simp
  go_wp2_with fail
  go_ret
  exact ⟨rfl, (((E3.trans e4).trans e5).trans e6).trans e7⟩
theorem ofP_rot (ps : List Per) (k : Nat) : ofP (ps.drop k ++ ps.take k) = ofP ps ∧ okPers (ps.drop k ++ ps.take k) = okPers ps := by
  have hp := rot_perm ps k
  have ho := okPers_perm hp
  refine ⟨?_, ho⟩
  unfold ofP ofPers
  rw [ho]
  split
  · exact tabOf_congr fun i j _ _ => cntP_perm hp i j
  · rfl
theorem ofP_part {ps : List Per} (h : okPers ps = true) (k : Nat) : diffOk (ofP ps) (ofP (ps.take k)) = true ∧ diffT (ofP ps) (ofP (ps.take k)) = ofP (ps.drop k) := by
  have ht := okPers_take h k
  have hd := okPers_drop h k
  obtain ⟨h1, h2, _⟩ := diff_of h ht (fun i j => by have h1 := cntP_split ps k i j; have h2 := cntP_bd (ps.drop k) i j; omega)
  refine ⟨h1, ?_⟩
  rw [h2, ofP_ok hd]
  exact tabOf_congr fun i j _ _ => cntP_split ps k i j
/-- Persons behind a source. -/
theorem Src.pers {w : World} {aa : Option Addr} {m c : Nat} {ps : List Per} (h : Src w aa m c ps) : Pers w aa ps := fun k hk => by
  obtain ⟨_, _, hx⟩ := h
  obtain ⟨ad, rfl, z0⟩ := hx (0 * 4) _ (pcells_at ps 0 (by omega)).1
  have hs : ad.spot = none := addr_spot (v := .int .i64 (ps[0]'(by omega)).area) (by rw [Nat.zero_mul] at z0; exact z0)
  have get : ∀ j u, (pcells ps)[j]? = some u → w.cell? ⟨ad.block, ad.off + j, none⟩ = some u := fun j u hu => by
    obtain ⟨ad', e, z⟩ := hx j u hu
    cases e
    exact addr_add z hs
  obtain ⟨c0, c1, c2, c3⟩ := pcells_at ps k hk
  exact ⟨ad.block, ad.off, by cases ad; simp only at hs; subst hs; rfl, get _ _ c0, get _ _ c1, get _ _ c2, get _ _ c3⟩
set_option maxRecDepth 100000 in
set_option maxHeartbeats 4000000 in
theorem FnTableOfOrder_walk (a0 : Option Addr) (c0 : Nat) (xs : List Int) (a1 : Option Addr) (c1 : Nat) (ys : List Int) (w : World) (hx : Bytes w a0 xs) (hm0 : xs.length ≤ 9223372036854775807) (hl0 : xs.length ≤ c0) (_hy : Bytes w a1 ys) (hm1 : ys.length ≤ 9223372036854775807) (_hl1 : ys.length ≤ c1) :
    Calls Try.prog 9 #[.slice a0 xs.length c0, .slice a1 ys.length c1] w fun e w' => e = .returned (.bool true) ∧ Ext w w' := by
  by_cases hX : 1048576 < xs.length
  · have hz : (1048576 : Int) < (xs.length : Int) := by omega
    go_enter Try.func9, Try.ntmps9
    go_wp2_with fail
    go_ret
    exact ⟨rfl, Ext.refl _⟩
  have hz0 : ¬ (1048576 : Int) < (xs.length : Int) := by omega
  have hb0 : decide (1048576 < xs.length) = false := by simpa using hX
  by_cases hY : 1048576 < ys.length
  · have hz : (1048576 : Int) < (ys.length : Int) := by omega
    go_enter Try.func9, Try.ntmps9
    go_wp2_with fail
    go_ret
    exact ⟨rfl, Ext.refl _⟩
  have hz1 : ¬ (1048576 : Int) < (ys.length : Int) := by omega
  have hb1 : decide (1048576 < ys.length) = false := by simpa using hY
  have HX := Lib.hid hx; clear hx
  go_enter Try.func9, Try.ntmps9
  go_wp2_with fail
  refine (DrawTableOf_any _ _ xs _ HX.out hm0 hl0).mono ?_
  rintro e w1 ⟨u, ps, rfl, hl, own, e1⟩
  obtain ⟨a, c, rfl, hc, pers⟩ := own.pers
  have hnP := Lib.hid own.nil
  have HP := Lib.hid pers; clear pers own
  obtain ⟨hla, hlar⟩ := ofP_small ps
  obtain ⟨A, hA⟩ : ∃ A, ofP ps = A := ⟨_, rfl⟩
  rw [hA] at hla hlar
  have HA := Lib.hid hA; have HAR := Lib.hid hlar; clear hA hlar
  go_wp2_with fail
  refine (TableOf_any _ _ ps _ HP.out (by omega)).mono ?_
  rintro e w2 ⟨v2, vs2, rfl, o2, e2⟩
  rw [HA.out] at o2
  obtain ⟨a2, c2, rfl, _, r2, _⟩ := o2.rows
  have R2 := Lib.hid r2; clear r2 o2
  go_wp2_with fail
  refine (sTableOf_any _ _ ps _ (HP.out.ext e2) (by omega)).mono ?_
  rintro e w3 ⟨v3, vs3, rfl, o3, e3⟩
  rw [HA.out] at o3
  obtain ⟨a3, c3, rfl, _, r3, _⟩ := o3.rows
  have R3 := Lib.hid r3; clear r3 o3
  have hAl : A.length ≤ 9223372036854775807 := by omega
  have hAr : ∀ r ∈ A, r.length ≤ 9223372036854775807 := fun r hr => by have := HAR.out r hr; omega
  have HAR2 := Lib.hid hAr; clear hAr
  obtain ⟨dk, hdk⟩ : ∃ dk, okPers ps = dk := ⟨_, rfl⟩
  have HDK := Lib.hid hdk
  simp only [hdk]
  clear hdk
  have hbb : (!(dk == dk)) = false := by simp
  have hbb2 : (dk == dk) = true := by simp
  have E3 := (e1.trans e2).trans e3
  go_wp2_with fail
  refine (sameRows_any _ _ _ _ A A _ (R2.out.ext e3) R3.out hAl hAl HAR2.out HAR2.out).mono ?_
  rintro e w4 ⟨rfl, e4⟩
  rw [decide_eq_true (rfl : A = A)]
  have E4 := E3.trans e4
  cases dk with
  | false =>
    go_wp2_with fail
    refine (sameRows_any _ _ _ _ A A _ (R2.out.ext (e3.trans e4)) (R3.out.ext e4) hAl hAl HAR2.out HAR2.out).mono ?_
    rintro e w5 ⟨rfl, e5⟩
    rw [decide_eq_true (rfl : A = A)]
    go_wp2_with fail
    go_ret
    exact ⟨rfl, E4.trans e5⟩
  | true =>
    have P4 := Lib.hid (HP.out.ext ((e2.trans e3).trans e4))
    have RA := Lib.hid (R2.out.ext (e3.trans e4))
    clear HP R2 R3 e1 e2 e3 e4 E3
    have hk1 : ys.length % (ps.length + 1) < ps.length + 1 := Nat.mod_lt _ (by omega)
    obtain ⟨k, hkk⟩ : ∃ k, ys.length % (ps.length + 1) = k := ⟨_, rfl⟩
    have hmod : (ys.length : Int) % ((ps.length : Int) + 1) = (k : Int) := by rw [← hkk, Int.natCast_emod]; rfl
    rw [hkk] at hk1
    clear hkk
    have hkc : (k : Int) ≤ (c : Int) := by omega
    have hkl : (k : Int) ≤ (ps.length : Int) := by omega
    obtain ⟨aa, hsl, hsrc⟩ := cut_slice P4.out hnP.out hc (by omega : k ≤ ps.length)
    have SP := Lib.hid hsrc; clear hsrc
    have HSL := Lib.hid hsl; clear hsl
    obtain ⟨hrt, hro⟩ := ofP_rot ps k
    rw [HA.out] at hrt
    rw [HDK.out] at hro
    have HRT := Lib.hid hrt; have HRO := Lib.hid hro; clear hrt hro
    obtain ⟨hpo, hpd⟩ := ofP_part HDK.out k
    rw [HA.out] at hpo hpd
    have htk := okPers_take HDK.out k
    have hdrp := okPers_drop HDK.out k
    have HPO := Lib.hid hpo; have HPD := Lib.hid hpd; have HTK := Lib.hid htk; have HDP := Lib.hid hdrp
    clear hpo hpd htk hdrp
    have hw3 : w4.heap.size ≤ (w4.alloc (.cells #[] 36)).drew.heap.size := by simp
    go_upto_region 9 with fail
    rw [hmod]
    clear hmod
    go_cut [11, 12] (fun s11 s12 wx => ∃ v vs, s11 = v ∧ s12 = .bool true ∧ OwnI wx w4.heap.size v vs A ∧ Ext w4 wx)
    case first =>
      have D0 := Lib.hid (SP.out.ext (((Ext.refl w4).alloc (.cells #[] 36)).drew))
      have O0 := Lib.hid ((ownP_made w4).ext ((Ext.refl _).drew))
      have T0 := Lib.hid (src_take P4.out hnP.out (by omega : k ≤ ps.length))
      have hb1 : ([] : List Per).length + (ps.length - k) ≤ 10000 := by simp; omega
      have hb2 : ([] ++ ps.drop k).length + k ≤ 10000 := by simp; omega
      have hsl := HSL.out
      have hrl : ([] ++ ps.drop k ++ ps.take k).length = ps.length := by simp; omega
      have hrx : ofP ([] ++ ps.drop k ++ ps.take k) = A := by rw [List.nil_append]; exact HRT.out
      have hry : okPers ([] ++ ps.drop k ++ ps.take k) = true := by rw [List.nil_append]; exact HRO.out
      obtain ⟨rs, hrs⟩ : ∃ rs, [] ++ ps.drop k ++ ps.take k = rs := ⟨_, rfl⟩
      rw [hrs] at hrl hrx hry
      have HRS := Lib.hid hrs; have HRL := Lib.hid hrl; have HRX := Lib.hid hrx; have HRY := Lib.hid hry
      clear hrs hrl hrx hry
      go_region_law (first
        | (refine step_pers rfl (.tmp 67) (.tmp 70) rfl w4.heap.size _ [] rfl O0.out _ _ _ (ps.drop k) rfl D0.out hb1 hw3 ?_; intro v1 x1 own1 gr1; have X1 : Ext w4 x1 := own_grown (((Ext.refl w4).alloc (.cells #[] 36)).drew) O0.out (Nat.le_refl _) gr1)
        | (refine step_pers rfl (.tmp 71) (.tmp 74) rfl w4.heap.size _ _ rfl own1 _ _ _ (ps.take k) rfl (T0.out.ext X1) hb2 X1.size ?_; intro v2 x2 own2 gr2; have X2 : Ext w4 x2 := own_grown X1 own1 (Nat.le_refl _) gr2; obtain ⟨a22, c22, hv22, hz22, pers22⟩ := own2.pers; rw [HRS.out, HRL.out] at hv22; subst hv22; rw [HRS.out] at pers22; have tab := TableOf_any a22 c22 rs x2 pers22 (by rw [HRL.out]; omega); rw [HRL.out] at tab; have TAB := Lib.hid tab; clear pers22 own2 gr2 tab hz22)
        | (go_simp; go_at_call 24; refine TAB.out.mono ?_; rintro e x3 ⟨v33, vs33, rfl, o33, e33⟩))
      all_goals
        rw [HRY.out]
        rw [HRX.out] at o33
        go_wp2_with fail
        go_meet
        exact ⟨_, vs33, rfl, rfl, o33.base X2.size, X2.trans e33⟩
    case rest =>
      obtain ⟨v5, vs5, rfl, rfl, o5, e5⟩ := hcut
      obtain ⟨a5, c5, rfl, _, r5, _⟩ := o5.rows
      have R5 := Lib.hid r5; clear r5 o5
      have hkz : ¬ (k : Int) < 0 := by omega
      have tab := TableOf_any a c (ps.take k) wc ((P4.out.ext e5).take k) (by simp; omega)
      have hlk : (ps.take k).length = k := by simp; omega
      rw [hlk] at tab
      have TAB := Lib.hid tab; clear tab hlk
      obtain ⟨hb5, hb5r⟩ := ofP_small (ps.take k)
      obtain ⟨B, hB⟩ : ∃ B, ofP (ps.take k) = B := ⟨_, rfl⟩
      obtain ⟨hd5, hd5r⟩ := ofP_small (ps.drop k)
      obtain ⟨D, hD⟩ : ∃ D, ofP (ps.drop k) = D := ⟨_, rfl⟩
      rw [hB] at hb5 HPO HPD
      rw [hD] at hd5 hd5r HPD
      have HB := Lib.hid hB; have HD := Lib.hid hD; have HDR := Lib.hid hd5r
      clear hB hD hb5r hd5r
      have hDr : ∀ r ∈ D, r.length ≤ 9223372036854775807 := fun r hr => by have := HDR.out r hr; omega
      have HDR2 := Lib.hid hDr; clear hDr
      go_wp2_with fail
      refine TAB.out.mono ?_
      rintro e w6 ⟨v6, vs6, rfl, o6, e6⟩
      rw [HTK.out]
      rw [HB.out] at o6
      obtain ⟨a6, c6, rfl, _, r6, _⟩ := o6.rows
      have R6 := Lib.hid r6; clear r6 o6
      go_wp2_with fail
      refine (DiffTable_any _ _ _ _ A B _ (RA.out.ext (e5.trans e6)) R6.out (by omega) (by omega)).mono ?_
      rintro e w7 ⟨v7, vs7, rfl, o7, e7⟩
      rw [HPO.out]
      rw [HPD.out] at o7
      obtain ⟨a7, c7, rfl, _, r7, _⟩ := o7.rows
      have R7 := Lib.hid r7; clear r7 o7
      have x7 := (e5.trans e6).trans e7
      have tab := TableOf_any aa (c - k) (ps.drop k) w7 (Src.pers (SP.out.ext x7)) (by simp; omega)
      have hlk : (ps.drop k).length = ps.length - k := by simp
      rw [hlk] at tab
      have TAB2 := Lib.hid tab; clear tab hlk
      have hsl := HSL.out
      go_wp2_with fail
      refine TAB2.out.mono ?_
      rintro e w8 ⟨v8, vs8, rfl, o8, e8⟩
      rw [HDP.out]
      rw [HD.out] at o8
      obtain ⟨a8, c8, rfl, _, r8, _⟩ := o8.rows
      have R8 := Lib.hid r8; clear r8 o8
      have x8 := x7.trans e8
      go_wp2_with fail
      refine (sameRows_any _ _ _ _ A A _ (R5.out.ext ((e6.trans e7).trans e8)) (RA.out.ext x8) hAl hAl HAR2.out HAR2.out).mono ?_
      rintro e w9 ⟨rfl, e9⟩
      rw [decide_eq_true (rfl : A = A)]
      go_wp2_with fail
      refine (sameRows_any _ _ _ _ D D _ (R7.out.ext (e8.trans e9)) (R8.out.ext e9) (by omega) (by omega) HDR2.out HDR2.out).mono ?_
      rintro e w10 ⟨rfl, e10⟩
      rw [decide_eq_true (rfl : D = D)]
      go_wp2_with fail
      go_ret
      exact ⟨rfl, E4.trans ((x8.trans e9).trans e10)⟩
end Go.Proofs.Ytkldaapcpnpdfaa
