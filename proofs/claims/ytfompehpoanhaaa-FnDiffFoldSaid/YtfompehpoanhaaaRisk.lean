/- Small differences are counted. -/
import Derived.Test.YtfompehpoanhaaaSmall
import Derived.Test.YtfompehpoanhaaaLawTwice
namespace Go.Proofs.Ytfompehpoanhaaa
open Go.RowKit Go.DC
def riskOf (a b : List (List Int)) (k : Int) : Int := if diffOk a b then manyT (smallM (diffT a b) k) else -1
theorem diffT_ok {a b : List (List Int)} (h : diffOk a b = true) : tabOk (diffT a b) = true := by
  unfold diffT; rw [if_pos h]
  unfold diffOk at h
  simp only [Bool.and_eq_true] at h
  exact h.2
theorem smallM_small {t : List (List Int)} {k : Int} (h : tabOk t = true) : (smallM t k).length ≤ 1000 ∧ ∀ x ∈ smallM t k, x.length ≤ 4 := by
  obtain ⟨r, h1, h4, m1, m4, _⟩ := tabOk_rect h
  unfold smallM
  rw [if_pos h]
  refine ⟨by rw [smallT_len]; omega, fun x hx => ?_⟩
  obtain ⟨y, hy, rfl⟩ := List.mem_map.1 hx
  obtain ⟨i, hi, rfl⟩ := List.getElem_of_mem hy
  rw [List.length_map, r.2 i hi]; exact m4
theorem cnt_mono (r : List Int) (k l : Int) (h : k ≤ l) : cntRow (r.map (smallB k)) ≤ cntRow (r.map (smallB l)) := by
  induction r with
  | nil => simp [cntRow]
  | cons z r ih =>
    simp only [cntRow, List.map_cons, List.filter_cons] at ih ⊢
    have : smallB k z = true → smallB l z = true := fun e => by
      unfold smallB at e ⊢
      simp at e ⊢; omega
    cases e1 : smallB k z <;> cases e2 : smallB l z <;> simp_all
    omega
theorem many_mono' (k l : Int) (h : k ≤ l) : ∀ t : List (List Int), manyT (smallT t k) ≤ manyT (smallT t l)
  | [] => Nat.le_refl _
  | r :: t => by
    have ih := many_mono' k l h t
    have h1 := cnt_mono r k l h
    simp only [smallT, manyT, List.map_cons, List.sum_cons] at ih ⊢
    exact Nat.add_le_add h1 ih
theorem many_mono (t : List (List Int)) (k l : Int) (h : k ≤ l) : manyT (smallM t k) ≤ manyT (smallM t l) := by
  unfold smallM
  split
  · exact many_mono' k l h t
  · exact Nat.le_refl _
theorem many_bd {t : List (List Int)} {k : Int} (h : tabOk t = true) : manyT (smallM t k) ≤ 4000 := by
  obtain ⟨h1, h2⟩ := smallM_small (k := k) h
  have := manyT_le h2
  omega
set_option maxHeartbeats 1000000 in
theorem DiffRisk_any (a b : Option Addr) (c d : Nat) (s t : List (List Int)) (k : Int) (w : World) (hs : IRows w a s) (ht : IRows w b t) (hm : s.length ≤ 9223372036854775807) (hm2 : t.length ≤ 9223372036854775807) (_hk : -9223372036854775808 ≤ k ∧ k ≤ 9223372036854775807) :
    Calls Try.prog 35 #[.slice a s.length c, .slice b t.length d, .int .i64 k] w (Ret (.int .i64 (riskOf s t k)) w) := by
  have HS := Lib.hid hs; clear hs
  have HT := Lib.hid ht; clear ht
  go_enter Try.func35, Try.ntmps35
  go_wp2_with fail
  refine (DiffTable_any _ _ _ _ s t _ HS.out HT.out hm hm2).mono ?_
  rintro e w1 ⟨v, vs, rfl, o1, e1⟩
  cases hd : diffOk s t
  · have hr : riskOf s t k = -1 := by unfold riskOf; rw [hd]; rfl
    have HR := Lib.hid hr; clear hr hd
    go_wp2_with fail
    go_ret
    exact ⟨by rw [HR.out]; rfl, e1⟩
  · have hok := diffT_ok hd
    obtain ⟨a1, c1, rfl, _, r1, _⟩ := o1.rows
    have hs1 := (diffT_small s t).1
    obtain ⟨hs2, hs3⟩ := smallM_small (k := k) hok
    have hr : riskOf s t k = manyT (smallM (diffT s t) k) := by unfold riskOf; rw [hd]; rfl
    have HR := Lib.hid hr; have R1 := Lib.hid r1; have HOK := Lib.hid hok; have H3 := Lib.hid hs3
    clear hr r1 hok hs3 hd o1
    go_wp2_with fail
    refine (MaskSmall_any _ _ (diffT s t) k _ R1.out (by omega)).mono ?_
    rintro e w2 ⟨v2, vs2, rfl, o2, e2⟩
    obtain ⟨a2, c2, rfl, _, r2, _⟩ := o2.rows
    have R2 := Lib.hid r2
    clear r2 o2
    go_wp2_with fail
    refine (MaskMany_any _ _ (smallM (diffT s t) k) _ R2.out hs2 (fun x hx => by have := H3.out x hx; omega)).mono ?_
    rintro e w3 ⟨rfl, rfl⟩
    go_wp2_with fail
    go_ret
    exact ⟨by rw [HR.out]; rfl, e1.trans e2⟩
set_option maxHeartbeats 1000000 in
theorem sDiffRisk_any (a b : Option Addr) (c d : Nat) (s t : List (List Int)) (k : Int) (w : World) (hs : IRows w a s) (ht : IRows w b t) (hm : s.length ≤ 9223372036854775807) (hm2 : t.length ≤ 9223372036854775807) (_hk : -9223372036854775808 ≤ k ∧ k ≤ 9223372036854775807) :
    Calls Try.prog 34 #[.slice a s.length c, .slice b t.length d, .int .i64 k] w (Ret (.int .i64 (riskOf s t k)) w) := by
  have HS := Lib.hid hs; clear hs
  have HT := Lib.hid ht; clear ht
  go_enter Try.func34, Try.ntmps34
  go_wp2_with fail
  refine (sDiffTable_any _ _ _ _ s t _ HS.out HT.out hm hm2).mono ?_
  rintro e w1 ⟨v, vs, rfl, o1, e1⟩
  cases hd : diffOk s t
  · have hr : riskOf s t k = -1 := by unfold riskOf; rw [hd]; rfl
    have HR := Lib.hid hr; clear hr hd
    go_wp2_with fail
    go_ret
    exact ⟨by rw [HR.out]; rfl, e1⟩
  · have hok := diffT_ok hd
    obtain ⟨a1, c1, rfl, _, r1, _⟩ := o1.rows
    have hs1 := (diffT_small s t).1
    obtain ⟨hs2, hs3⟩ := smallM_small (k := k) hok
    have hr : riskOf s t k = manyT (smallM (diffT s t) k) := by unfold riskOf; rw [hd]; rfl
    have HR := Lib.hid hr; have R1 := Lib.hid r1; have HOK := Lib.hid hok; have H3 := Lib.hid hs3
    clear hr r1 hok hs3 hd o1
    go_wp2_with fail
    refine (sMaskSmall_any _ _ (diffT s t) k _ R1.out (by omega)).mono ?_
    rintro e w2 ⟨v2, vs2, rfl, o2, e2⟩
    obtain ⟨a2, c2, rfl, _, r2, _⟩ := o2.rows
    have R2 := Lib.hid r2
    clear r2 o2
    go_wp2_with fail
    refine (sMaskMany_any _ _ (smallM (diffT s t) k) _ R2.out hs2 (fun x hx => by have := H3.out x hx; omega)).mono ?_
    rintro e w3 ⟨rfl, rfl⟩
    go_wp2_with fail
    go_ret
    exact ⟨by rw [HR.out]; rfl, e1.trans e2⟩
def DrewT2k (w : World) (e : Ending) (w' : World) : Prop :=
  ∃ v1 vs1 s v2 vs2 t k, e = .returned (.tuple #[v1, v2, .int .i64 k]) ∧ 0 ≤ k ∧ k < 6 ∧ OwnI w' w.heap.size v1 vs1 s ∧ OwnI w' w.heap.size v2 vs2 t ∧ s.length ≤ 4 ∧ (∀ x ∈ s, x.length ≤ 4) ∧ t.length ≤ 4 ∧ (∀ x ∈ t, x.length ≤ 4) ∧ Ext w w'
set_option maxHeartbeats 1000000 in
theorem DrawDiffRisk_any (a : Option Addr) (c : Nat) (zs : List Int) (w : World) (hb : Bytes w a zs) (hm : zs.length ≤ 9223372036854775807) (hcap : zs.length ≤ c) :
    Calls Try.prog 36 #[.slice a zs.length c] w (DrewT2k w) := by
  go_enter Try.func36, Try.ntmps36
  go_wp2_with fail
  refine (l6Open_any a c zs _ hb hm hcap).mono ?_
  rintro e w1 ⟨r, hr, rfl, R1, e1⟩
  have hrl : r < w1.heap.size := R1.lt
  go_wp2_with fail
  refine (l92Two_any r 0 _ R1 (by omega)).mono ?_
  rintro e w2 ⟨v1, vs1, s, v2, vs2, t, rfl, o1, o2, h1, h2, h3, h4, ⟨p, hp, R2⟩, K⟩
  go_wp2_with fail
  refine (pick_any r p 6 _ R2 (by omega) (by omega)).mono ?_
  rintro e w3 ⟨y, hy0, hy1, rfl, R3, k3⟩
  go_wp2_with fail
  go_ret3
  exact ⟨v1, vs1, s, v2, vs2, t, y, rfl, hy0, by omega, (o1.keep k3 hrl).base e1.size, (o2.keep k3 hrl).base e1.size, h1, h2, h3, h4, (K.trans k3).ext e1 hr⟩
set_option maxHeartbeats 4000000 in
theorem FnDiffRisk_walk (a0 : Option Addr) (c0 : Nat) (xs : List Int) (w : World) (hx : Bytes w a0 xs) (hm0 : xs.length ≤ 9223372036854775807) (hl0 : xs.length ≤ c0) :
    Calls Try.prog 11 #[.slice a0 xs.length c0] w fun e w' => e = .returned (.bool true) ∧ Ext w w' := by
  by_cases hX : 1048576 < xs.length
  · have hz : (1048576 : Int) < (xs.length : Int) := by omega
    go_enter Try.func11, Try.ntmps11
    go_wp2_with fail
    go_ret
    exact ⟨rfl, Ext.refl _⟩
  have hz0 : ¬ (1048576 : Int) < (xs.length : Int) := by omega
  have hb0 : decide (1048576 < xs.length) = false := by simpa using hX
  have HX := Lib.hid hx; clear hx
  go_enter Try.func11, Try.ntmps11
  go_wp2_with fail
  refine (DrawDiffRisk_any _ _ xs _ HX.out hm0 hl0).mono ?_
  rintro e w1 ⟨v1, vs1, A, v2, vs2, B, k, rfl, hk0, hk6, o1, o2, hA4, hAr, hB4, hBr, e1⟩
  obtain ⟨a, c, rfl, _, ra, _⟩ := o1.rows
  obtain ⟨b, d, rfl, _, rb, _⟩ := o2.rows
  have RA := Lib.hid ra; have RB := Lib.hid rb
  clear ra rb o1 o2 hAr hBr
  go_wp2_with fail
  refine (DiffRisk_any _ _ _ _ A B k _ RA.out RB.out (by omega) (by omega) (by omega)).mono ?_
  rintro e w2 ⟨rfl, e2⟩
  go_wp2_with fail
  refine (sDiffRisk_any _ _ _ _ A B k _ (RA.out.ext e2) (RB.out.ext e2) (by omega) (by omega) (by omega)).mono ?_
  rintro e w3 ⟨rfl, e3⟩
  have E3 := (e1.trans e2).trans e3
  cases hd : diffOk A B with
  | false =>
    have hr : riskOf A B k = -1 := by unfold riskOf; rw [hd]; rfl
    rw [hr]
    clear hr hd
    go_wp2_with fail
    go_ret
    exact ⟨rfl, E3⟩
  | true =>
    have hok := diffT_ok hd
    obtain ⟨hs2, hs3⟩ := smallM_small (k := k) hok
    have hs1 := (diffT_small A B).1
    have hr : riskOf A B k = manyT (smallM (diffT A B) k) := by unfold riskOf; rw [hd]; rfl
    have hr1 : riskOf A B (k + 1) = manyT (smallM (diffT A B) (k + 1)) := by unfold riskOf; rw [hd]; rfl
    have hmo := many_mono (diffT A B) k (k + 1) (by omega)
    have hbd := many_bd (k := k) hok
    obtain ⟨dt, hdt⟩ : ∃ dt, diffT A B = dt := ⟨_, rfl⟩
    rw [hdt] at hr hr1 hmo hbd hs1 hs2 hs3 hok
    obtain ⟨u, hu⟩ : ∃ u, manyT (smallM dt k) = u := ⟨_, rfl⟩
    obtain ⟨v, hv⟩ : ∃ v, manyT (smallM dt (k + 1)) = v := ⟨_, rfl⟩
    rw [hu] at hr hmo hbd
    rw [hv] at hr1 hmo
    rw [hr]
    have HR1 := Lib.hid hr1; have HU := Lib.hid hu; have HD := Lib.hid hd; have HDT := Lib.hid hdt; have H3 := Lib.hid hs3; have HOK := Lib.hid hok
    clear hr hr1 hu hv hd hdt hs3 hok
    have hnn : ¬ (u : Int) < 0 := by omega
    have hbb : ((u : Int) != (u : Int)) = false := by simp
    have hbb2 : ((u : Int) == (u : Int)) = true := by simp
    have x13 := e2.trans e3
    go_wp2_with fail
    refine (DiffTable_any _ _ _ _ A B _ (RA.out.ext x13) (RB.out.ext x13) (by omega) (by omega)).mono ?_
    rintro e w4 ⟨v4, vs4, rfl, o4, e4⟩
    rw [HD.out]
    rw [HDT.out] at o4
    obtain ⟨a4, c4, rfl, _, r4, _⟩ := o4.rows
    have R4 := Lib.hid r4; clear r4 o4
    go_wp2_with fail
    refine (MaskSmall_any _ _ dt k _ R4.out (by omega)).mono ?_
    rintro e w5 ⟨v5, vs5, rfl, o5, e5⟩
    rw [HOK.out]
    obtain ⟨a5, c5, rfl, _, r5, _⟩ := o5.rows
    have R5 := Lib.hid r5; clear r5 o5
    go_wp2_with fail
    refine (MaskMany_any _ _ (smallM dt k) _ R5.out hs2 (fun x hx => by have := H3.out x hx; omega)).mono ?_
    rintro e w6 ⟨rfl, rfl⟩
    rw [HU.out]
    have hkw : IntKind.i64.wrap (k + 1) = k + 1 := IntWalk.i64_in _ (by omega)
    have x15 := (x13.trans e4).trans e5
    go_wp2_with fail
    refine (DiffRisk_any _ _ _ _ A B (k + 1) _ (RA.out.ext x15) (RB.out.ext x15) (by omega) (by omega) (by omega)).mono ?_
    rintro e w7 ⟨rfl, e7⟩
    rw [HR1.out]
    have hge : (u : Int) ≤ (v : Int) := by omega
    have hgb : decide ((u : Int) ≤ (v : Int)) = true := by simpa using hmo
    go_wp2_with fail
    go_ret
    exact ⟨by simp, ((E3.trans e4).trans e5).trans e7⟩
end Go.Proofs.Ytfompehpoanhaaa
