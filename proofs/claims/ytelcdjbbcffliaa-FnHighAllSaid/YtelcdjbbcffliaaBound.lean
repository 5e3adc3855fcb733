/- The bounds of a cell, as the program computes them. -/
import Derived.Test.YtelcdjbbcffliaaShift
import Derived.Test.YtelcdjbbcffliaaBound0
namespace Go.Proofs.Ytelcdjbbcffliaa
open Go.RowKit Go.DC
/-- A call that hands back a number. -/
def AddOut (F : Int) (w : World) (e : Ending) (w' : World) : Prop := e = .returned (.int .i64 F) ∧ Ext w w'
set_option maxHeartbeats 2000000 in
theorem BoundHigh_any (a mb : Option Addr) (c d : Nat) (t : List (List Int)) (mk : List (List Bool)) (i j : Int) (w : World) (ht : IRows w a t) (hmk : BRows w mb mk) (hm : t.length ≤ 9223372036854775807) (hm2 : mk.length ≤ 9223372036854775807) :
    Calls Try.prog 16 #[.slice a t.length c, .slice mb mk.length d, .int .i64 i, .int .i64 j] w (Ret (.int .i64 (highV t mk i j)) w) := by
  have HT := Lib.hid ht; clear ht
  have HM := Lib.hid hmk; clear hmk
  go_enter Try.func16, Try.ntmps16
  go_wp2_with fail
  refine (hasCell_any _ _ _ _ t mk i j _ HT.out HM.out hm hm2).mono ?_
  rintro e w' ⟨rfl, rfl⟩
  cases o1 : hasC t mk i j
  · have HD := Lib.hid (highV_no o1); clear o1
    go_wp2_with fail
    go_ret
    exact ⟨ret_int HD.out.symm, Ext.refl _⟩
  obtain ⟨k, l, rfl, rfl, hk, hl, ok⟩ := hasC_nat o1
  have OK := Lib.hid ok
  clear o1 ok
  have R := Lib.hid (tabOk_rect (maskOk_rect OK.out).1).1
  have RM := Lib.hid (maskOk_rect OK.out).2
  have hmk2 : mk.length = t.length := RM.out.1
  have hkz : (k : Int) < (t.length : Int) := by omega
  have hlz : (l : Int) < (wide t : Int) := by omega
  have hkm : (k : Int) < (mk.length : Int) := by omega
  have HML := Lib.hid hmk2; clear hmk2
  obtain ⟨tb, tf, tb2, tf2, tk, rfl, ct1, ct2⟩ := HT.out.atC 0 R.out hk hl
  obtain ⟨nb, mf, mb2, mf2, mk2, rfl, cm1, cm2⟩ := HM.out.atC false RM.out hk hl
  have hcl := (tabOk_rect (maskOk_rect OK.out).1).2.2.2.2.2 k l hk hl
  have hbd := high_bd OK.out hk hl
  have hval := highV_at OK.out hk hl
  have HV := Lib.hid hval; clear hval
  cases hb : get false mk k l with
  | false =>
    have hv : high t.length (wide t) (get 0 t) (get false mk) k l = get 0 t k l := by unfold high; rw [hb]; rfl
    have HW := Lib.hid (HV.out.trans hv)
    unfold encB at cm2
    rw [hb] at cm2
    unfold encI at ct2
    clear hb hv hbd
    obtain ⟨y, hy⟩ : ∃ y, get 0 t k l = y := ⟨_, rfl⟩
    rw [hy] at ct2 hcl
    have HY := Lib.hid hy; clear hy
    go_wp2_with fail
    go_ret
    exact ⟨ret_int (by rw [HW.out, HY.out]), Ext.refl _⟩
  | true =>
    have h0 := maskOk_pos OK.out
    have hge := high_ge (b := get false mk) h0 hk hl
    have hmaxi : ∀ (F : Int) (x : Nat → Nat → Int) (R C : Nat → Bool), Near t.length (wide t) (get 0 t) (get false mk) k l x → x k l = get 0 t k l + sgn true F → Cut t.length (wide t) (get false mk) k l true x R C → high t.length (wide t) (get 0 t) (get false mk) k l = get 0 t k l + F := fun F x R C hx he hcu => by
      rw [high_eq hk hl hb ⟨x, R, C, hx, he, hcu⟩]; rfl
    have MX := Lib.hid hmaxi
    have HB := Lib.hid hb
    unfold encB at cm2
    rw [hb] at cm2
    unfold encI at ct2
    clear hb hmaxi h0
    obtain ⟨z, hz⟩ : ∃ z, high t.length (wide t) (get 0 t) (get false mk) k l = z := ⟨_, rfl⟩
    rw [hz] at hge hbd
    have HZ := Lib.hid hz; clear hz
    obtain ⟨y, hy⟩ : ∃ y, get 0 t k l = y := ⟨_, rfl⟩
    rw [hy] at ct2 hcl hge
    have HY := Lib.hid hy; clear hy
    obtain ⟨hcl0, hcl1⟩ := hcl
    obtain ⟨hbd0, hbd1⟩ := hbd
    have CALL : Hid (∀ wx : World, Ext w wx → Calls Try.prog 43 #[.slice (some ⟨tb, tf, none⟩) t.length c, .slice (some ⟨nb, mf, none⟩) mk.length d, .int .i64 k, .int .i64 l, .bool true] wx (AddOut (z - y) w)) := fun wx ex =>
      (shift_any _ _ _ _ t mk k l true wx (HT.out.ext ex) (HM.out.ext ex) OK.out hk hl HB.out).mono fun e w' ⟨F, x, Rr, C, he', hx, he, hcu, e1⟩ => by
        have hm' := MX.out F x Rr C hx he hcu
        rw [HZ.out, HY.out] at hm'
        have : F = z - y := by omega
        subst this
        exact ⟨he', ex.trans e1⟩
    have hww : IntKind.i64.wrap (y + (z - y)) = z := by rw [show y + (z - y) = z by omega]; exact IntWalk.i64_in _ (by omega)
    have hfin : highV t mk k l = z := by rw [HV.out, HZ.out]
    have HFIN := Lib.hid hfin
    clear hfin
    have ex0 : Ext w w := Ext.refl w
    have ex1 : Ext w w.drew := (Ext.refl w).drew
    go_wp2_with fail
    go_region_held3 (fun w' => Ext w w' ∧ w'.cell? ⟨tb, tf + k, none⟩ = some (.slice (some ⟨tb2, tf2, none⟩) (wide t) tk) ∧ w'.cell? ⟨tb2, tf2 + l, none⟩ = some (.int .i64 y))
      ((refine ⟨?_, ?_, ?_⟩; (first | assumption | exact Ext.drew (by assumption) | exact Ext.refl _); (first | exact Ext.cell (by assumption) ct1 | exact ct1); (first | exact Ext.cell (by assumption) ct2 | exact ct2)))
      ((go_at_call 43; refine (CALL.out _ ?_).mono ?_; (first | assumption | exact Ext.drew (by assumption) | exact Ext.refl _); rintro e w1 ⟨rfl, e1⟩))
    all_goals
      go_wp2_with fail
      go_ret
      exact ⟨ret_int HFIN.out.symm, by assumption⟩
set_option maxHeartbeats 2000000 in
theorem BoundLow_any (a mb : Option Addr) (c d : Nat) (t : List (List Int)) (mk : List (List Bool)) (i j : Int) (w : World) (ht : IRows w a t) (hmk : BRows w mb mk) (hm : t.length ≤ 9223372036854775807) (hm2 : mk.length ≤ 9223372036854775807) :
    Calls Try.prog 18 #[.slice a t.length c, .slice mb mk.length d, .int .i64 i, .int .i64 j] w (Ret (.int .i64 (lowV t mk i j)) w) := by
  have HT := Lib.hid ht; clear ht
  have HM := Lib.hid hmk; clear hmk
  go_enter Try.func18, Try.ntmps18
  go_wp2_with fail
  refine (hasCell_any _ _ _ _ t mk i j _ HT.out HM.out hm hm2).mono ?_
  rintro e w' ⟨rfl, rfl⟩
  cases o1 : hasC t mk i j
  · have HD := Lib.hid (lowV_no o1); clear o1
    go_wp2_with fail
    go_ret
    exact ⟨ret_int HD.out.symm, Ext.refl _⟩
  obtain ⟨k, l, rfl, rfl, hk, hl, ok⟩ := hasC_nat o1
  have OK := Lib.hid ok
  clear o1 ok
  have R := Lib.hid (tabOk_rect (maskOk_rect OK.out).1).1
  have RM := Lib.hid (maskOk_rect OK.out).2
  have hmk2 : mk.length = t.length := RM.out.1
  have hkz : (k : Int) < (t.length : Int) := by omega
  have hlz : (l : Int) < (wide t : Int) := by omega
  have hkm : (k : Int) < (mk.length : Int) := by omega
  have HML := Lib.hid hmk2; clear hmk2
  obtain ⟨tb, tf, tb2, tf2, tk, rfl, ct1, ct2⟩ := HT.out.atC 0 R.out hk hl
  obtain ⟨nb, mf, mb2, mf2, mk2, rfl, cm1, cm2⟩ := HM.out.atC false RM.out hk hl
  have hcl := (tabOk_rect (maskOk_rect OK.out).1).2.2.2.2.2 k l hk hl
  have hval := lowV_at OK.out hk hl
  have HV := Lib.hid hval; clear hval
  cases hb : get false mk k l with
  | false =>
    have hv : low t.length (wide t) (get 0 t) (get false mk) k l = get 0 t k l := by unfold low; rw [hb]; rfl
    have HW := Lib.hid (HV.out.trans hv)
    unfold encB at cm2
    rw [hb] at cm2
    unfold encI at ct2
    clear hb hv
    obtain ⟨y, hy⟩ : ∃ y, get 0 t k l = y := ⟨_, rfl⟩
    rw [hy] at ct2 hcl
    have HY := Lib.hid hy; clear hy
    go_wp2_with fail
    go_ret
    exact ⟨ret_int (by rw [HW.out, HY.out]), Ext.refl _⟩
  | true =>
    have hsm : Small t.length (wide t) (get 0 t) := small_of OK.out
    obtain ⟨q, hq⟩ : ∃ q, lowN t.length (wide t) (get 0 t) (get false mk) k l = q := ⟨_, rfl⟩
    have hmini : ∀ (F : Int) (x : Nat → Nat → Int) (R C : Nat → Bool), Near t.length (wide t) (get 0 t) (get false mk) k l x → x k l = get 0 t k l + sgn false F → Cut t.length (wide t) (get false mk) k l false x R C → F = get 0 t k l - q := fun F x R C hx he hcu => by
      have h1 := lowN_eq hk hl ⟨x, R, C, hx, rfl, hcu⟩
      rw [hq, he] at h1
      unfold sgn at h1
      simp at h1
      omega
    have hqb : -2000 ≤ q ∧ q ≤ 2000 := by
      obtain ⟨x, R, C, hx, e, _⟩ := lowN_is (maskOk_pos OK.out) hk hl hb
      rw [hq] at e
      have a1 := hx.le_row hk hl
      have a2 := hsm.1 k hk
      have a3 := hx.ge_tot (fun k l hk hl => (hsm.2.2 k l hk hl).1) hk hl
      have a4 : sumN (wide t) (fun l => sumN t.length (fun k => get 0 t k l)) ≤ sumN (wide t) (fun _ => 396) := sumN_le fun l hl => hsm.2.1 l hl
      rw [sumN_const] at a4
      have := (maskOk_lens OK.out).2.2.2
      omega
    have hval2 : lowV t mk k l = max 0 q := by rw [HV.out]; unfold low; rw [if_pos hb, hq]
    have HV2 := Lib.hid hval2
    have MX := Lib.hid hmini
    have HB := Lib.hid hb
    unfold encB at cm2
    rw [hb] at cm2
    unfold encI at ct2
    clear hb hmini hsm hq hval2
    obtain ⟨y, hy⟩ : ∃ y, get 0 t k l = y := ⟨_, rfl⟩
    rw [hy] at ct2 hcl
    have HY := Lib.hid hy; clear hy
    obtain ⟨hcl0, hcl1⟩ := hcl
    obtain ⟨hqb0, hqb1⟩ := hqb
    have CALL : Hid (∀ wx : World, Ext w wx → Calls Try.prog 43 #[.slice (some ⟨tb, tf, none⟩) t.length c, .slice (some ⟨nb, mf, none⟩) mk.length d, .int .i64 k, .int .i64 l, .bool false] wx (AddOut (y - q) w)) := fun wx ex =>
      (shift_any _ _ _ _ t mk k l false wx (HT.out.ext ex) (HM.out.ext ex) OK.out hk hl HB.out).mono fun e w' ⟨F, x, Rr, C, he', hx, he, hcu, e1⟩ => by
        have hm' := MX.out F x Rr C hx he hcu
        rw [HY.out] at hm'
        subst hm'
        exact ⟨he', ex.trans e1⟩
    have hww : IntKind.i64.wrap (y - (y - q)) = q := by rw [show y - (y - q) = q by omega]; exact IntWalk.i64_in _ (by omega)
    have ex0 : Ext w w := Ext.refl w
    have ex1 : Ext w w.drew := (Ext.refl w).drew
    by_cases hq0 : 0 < q
    · have hfin : lowV t mk k l = q := by rw [HV2.out]; omega
      have HFIN := Lib.hid hfin
      have hnq : ¬ q < 0 := by omega
      clear hfin
      go_wp2_with fail
      go_region_held3 (fun w' => Ext w w' ∧ w'.cell? ⟨tb, tf + k, none⟩ = some (.slice (some ⟨tb2, tf2, none⟩) (wide t) tk) ∧ w'.cell? ⟨tb2, tf2 + l, none⟩ = some (.int .i64 y))
        ((refine ⟨?_, ?_, ?_⟩; (first | assumption | exact Ext.drew (by assumption) | exact Ext.refl _); (first | exact Ext.cell (by assumption) ct1 | exact ct1); (first | exact Ext.cell (by assumption) ct2 | exact ct2)))
        ((go_at_call 43; refine (CALL.out _ ?_).mono ?_; (first | assumption | exact Ext.drew (by assumption) | exact Ext.refl _); rintro e w1 ⟨rfl, e1⟩))
      all_goals
        go_wp2_with fail
        go_ret
        exact ⟨ret_int HFIN.out.symm, by assumption⟩
    · have hfin : lowV t mk k l = 0 := by rw [HV2.out]; omega
      have HFIN := Lib.hid hfin
      clear hfin
      go_wp2_with fail
      go_region_held3 (fun w' => Ext w w' ∧ w'.cell? ⟨tb, tf + k, none⟩ = some (.slice (some ⟨tb2, tf2, none⟩) (wide t) tk) ∧ w'.cell? ⟨tb2, tf2 + l, none⟩ = some (.int .i64 y))
        ((refine ⟨?_, ?_, ?_⟩; (first | assumption | exact Ext.drew (by assumption) | exact Ext.refl _); (first | exact Ext.cell (by assumption) ct1 | exact ct1); (first | exact Ext.cell (by assumption) ct2 | exact ct2)))
        ((go_at_call 43; refine (CALL.out _ ?_).mono ?_; (first | assumption | exact Ext.drew (by assumption) | exact Ext.refl _); rintro e w1 ⟨rfl, e1⟩))
      all_goals
        go_wp2_with fail
        go_ret
        exact ⟨ret_int HFIN.out.symm, by assumption⟩
theorem BoundHighX_any (a mb : Option Addr) (c d : Nat) (t : List (List Int)) (mk : List (List Bool)) (i j : Int) (w : World) (ht : IRows w a t) (hmk : BRows w mb mk) (hm : t.length ≤ 9223372036854775807) (hm2 : mk.length ≤ 9223372036854775807) (_hi : -9223372036854775808 ≤ i ∧ i ≤ 9223372036854775807) (_hj : -9223372036854775808 ≤ j ∧ j ≤ 9223372036854775807) :
    Calls Try.prog 16 #[.slice a t.length c, .slice mb mk.length d, .int .i64 i, .int .i64 j] w (Ret (.int .i64 (highV t mk i j)) w) := BoundHigh_any a mb c d t mk i j w ht hmk hm hm2
theorem BoundLowX_any (a mb : Option Addr) (c d : Nat) (t : List (List Int)) (mk : List (List Bool)) (i j : Int) (w : World) (ht : IRows w a t) (hmk : BRows w mb mk) (hm : t.length ≤ 9223372036854775807) (hm2 : mk.length ≤ 9223372036854775807) (_hi : -9223372036854775808 ≤ i ∧ i ≤ 9223372036854775807) (_hj : -9223372036854775808 ≤ j ∧ j ≤ 9223372036854775807) :
    Calls Try.prog 18 #[.slice a t.length c, .slice mb mk.length d, .int .i64 i, .int .i64 j] w (Ret (.int .i64 (lowV t mk i j)) w) := BoundLow_any a mb c d t mk i j w ht hmk hm hm2
end Go.Proofs.Ytelcdjbbcffliaa
