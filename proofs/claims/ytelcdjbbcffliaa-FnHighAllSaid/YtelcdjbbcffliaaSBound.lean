/- The bounds of a cell, as the reference computes them. -/
import Derived.Test.YtelcdjbbcffliaaSChange
import Derived.Test.YtelcdjbbcffliaaBound0
import Derived.Test.YtelcdjbbcffliaaSpecDiff
namespace Go.Proofs.Ytelcdjbbcffliaa
open Go.RowKit Go.DC
set_option maxHeartbeats 2000000 in
theorem l13Ok_any (a mb : Option Addr) (c d : Nat) (t : List (List Int)) (mk : List (List Bool)) (i j : Int) (w : World) (ht : IRows w a t) (hmk : BRows w mb mk) (hm : t.length ≤ 9223372036854775807) (hm2 : mk.length ≤ 9223372036854775807) (hi : -9223372036854775808 ≤ i ∧ i ≤ 9223372036854775807) (hj : -9223372036854775808 ≤ j ∧ j ≤ 9223372036854775807) :
    Calls Try.prog 44 #[.slice a t.length c, .slice mb mk.length d, .int .i64 i, .int .i64 j] w (Ret (.bool (hasC t mk i j)) w) := by
  have HT := Lib.hid ht; clear ht
  have HM := Lib.hid hmk; clear hmk
  go_enter Try.func44, Try.ntmps44
  go_wp2_with fail
  refine (sMaskValid_any _ _ _ _ t mk _ HT.out HM.out hm hm2).mono ?_
  rintro e w1 ⟨rfl, e1⟩
  cases o1 : maskOk t mk
  · have HD := Lib.hid (hasC_no (i := i) (j := j) o1); clear o1
    go_wp2_with fail
    go_ret
    exact ⟨ret_bool HD.out.symm, e1⟩
  have O1 := Lib.hid o1; clear o1
  obtain ⟨h1, h4, m1, m4⟩ := maskOk_lens O1.out
  obtain ⟨b0, off0, a0, c0, rfl, hc0, _, _, _⟩ := (HT.out.ext e1) 0 (by omega)
  rw [← wide_eq (by omega)] at hc0
  simp only [Nat.add_zero] at hc0
  have h0z : (0 : Int) < (t.length : Int) := by omega
  have E1 := Lib.hid e1; clear e1
  cases o2 : inBt i 0 ((t.length : Int) - 1)
  · have hd : hasC t mk i j = false := Bool.eq_false_iff.2 fun h => by
      have := hasC_iff.1 h
      unfold inBt at o2
      simp at o2
      omega
    have HD := Lib.hid hd; have O2 := Lib.hid o2; clear hd o2
    go_wp2_with fail
    refine (l6InT_any _ _ _ _).mono ?_
    rintro e w2 ⟨rfl, rfl⟩
    rw [O2.out]
    go_wp2_with fail
    go_ret
    exact ⟨ret_bool HD.out.symm, E1.out⟩
  cases o3 : inBt j 0 ((wide t : Int) - 1)
  · have hd : hasC t mk i j = false := Bool.eq_false_iff.2 fun h => by
      have := hasC_iff.1 h
      unfold inBt at o3
      simp at o3
      omega
    have HD := Lib.hid hd; have O2 := Lib.hid o2; have O3 := Lib.hid o3; clear hd o2 o3
    go_wp2_with fail
    refine (l6InT_any _ _ _ _).mono ?_
    rintro e w2 ⟨rfl, rfl⟩
    rw [O2.out]
    go_wp2_with fail
    refine (l6InT_any _ _ _ _).mono ?_
    rintro e w2 ⟨rfl, rfl⟩
    rw [O3.out]
    go_wp2_with fail
    go_ret
    exact ⟨ret_bool HD.out.symm, E1.out⟩
  · have hd : hasC t mk i j = true := hasC_iff.2 (by
      unfold inBt at o2 o3
      simp at o2 o3
      exact ⟨O1.out, by omega, by omega, by omega, by omega⟩)
    have HD := Lib.hid hd; have O2 := Lib.hid o2; have O3 := Lib.hid o3; clear hd o2 o3
    go_wp2_with fail
    refine (l6InT_any _ _ _ _).mono ?_
    rintro e w2 ⟨rfl, rfl⟩
    rw [O2.out]
    go_wp2_with fail
    refine (l6InT_any _ _ _ _).mono ?_
    rintro e w2 ⟨rfl, rfl⟩
    rw [O3.out]
    go_wp2_with fail
    go_ret
    exact ⟨ret_bool HD.out.symm, E1.out⟩
set_option maxRecDepth 10000 in
set_option maxHeartbeats 4000000 in
theorem sBoundHigh_any (a mb : Option Addr) (c d : Nat) (t : List (List Int)) (mk : List (List Bool)) (i j : Int) (w : World) (ht : IRows w a t) (hmk : BRows w mb mk) (hm : t.length ≤ 9223372036854775807) (hm2 : mk.length ≤ 9223372036854775807) (hi : -9223372036854775808 ≤ i ∧ i ≤ 9223372036854775807) (hj : -9223372036854775808 ≤ j ∧ j ≤ 9223372036854775807) :
    Calls Try.prog 17 #[.slice a t.length c, .slice mb mk.length d, .int .i64 i, .int .i64 j] w (Ret (.int .i64 (highV t mk i j)) w) := by
  have HT := Lib.hid ht; clear ht
  have HM := Lib.hid hmk; clear hmk
  go_enter Try.func17, Try.ntmps17
  go_wp2_with fail
  refine (l13Ok_any _ _ _ _ t mk i j _ HT.out HM.out hm hm2 hi hj).mono ?_
  rintro e w1 ⟨rfl, e1⟩
  cases o1 : hasC t mk i j
  · have HD := Lib.hid (highV_no o1); clear o1
    go_wp2_with fail
    go_ret
    exact ⟨ret_int HD.out.symm, e1⟩
  obtain ⟨k, l, rfl, rfl, hk, hl, ok⟩ := hasC_nat o1
  have OK := Lib.hid ok
  clear o1 ok
  obtain ⟨h1, h4, m1, m4⟩ := maskOk_lens OK.out
  have R := Lib.hid (tabOk_rect (maskOk_rect OK.out).1).1
  have RM := Lib.hid (maskOk_rect OK.out).2
  have hmk2 : mk.length = t.length := RM.out.1
  have HML := Lib.hid hmk2; clear hmk2
  have hl4 : ∀ (q : Nat) (hq : q < t.length), t[q].length ≤ 2000000 := fun q hq => by rw [R.out.2 q hq]; omega
  have HL4 := Lib.hid hl4; clear hl4
  have HV := Lib.hid (highV_at OK.out hk hl)
  have hSM := small_of OK.out
  have hNE0 := (Fits.refl (b := get false mk) (maskOk_pos OK.out)).near k l
  go_wp2_with fail
  refine (l11Copy_any _ _ t _ (HT.out.ext e1) (by omega) HL4.out).mono ?_
  rintro e w2 ⟨v, vs, rfl, own, e2⟩
  have e12 := e1.trans e2
  obtain ⟨av, cv, hv, _, _, _⟩ := own.rows
  subst hv
  have own' : OwnI w2 w1.heap.size (.slice av t.length cv) vs (tabOf t.length (wide t) (get 0 t)) := by
    have := own
    rw [R.out.eq 0, tabOf_length] at this
    exact this
  have OW := Lib.hid own'; have E12 := Lib.hid e12; have HSM := Lib.hid hSM; have HNE := Lib.hid hNE0
  have hBw : w.heap.size ≤ w1.heap.size := e1.size
  obtain ⟨nb, mf, mb2, mf2, mk2, rfl, cm1, cm2⟩ := (HM.out.ext e12).atC false RM.out hk hl
  have hkz : (k : Int) < (t.length : Int) := by omega
  have hlz : (l : Int) < (wide t : Int) := by omega
  have hkm : (k : Int) < (mk.length : Int) := by have := HML.out; omega
  clear own own' e1 e2 e12 hSM hNE0
  cases hb : get false mk k l with
  | false =>
    have hv : high t.length (wide t) (get 0 t) (get false mk) k l = get 0 t k l := by unfold high; rw [hb]; rfl
    have HW := Lib.hid (HV.out.trans hv)
    unfold encB at cm2
    rw [hb] at cm2
    obtain ⟨o, c', g, ck, ev, _, co, _, _, _, cg, _, _⟩ := OW.out.atC (i := k) (j := l) hk hl
    cases ev
    unfold encI at cg
    obtain ⟨y, hy⟩ : ∃ y, get 0 t k l = y := ⟨_, rfl⟩
    rw [hy] at cg
    have HY := Lib.hid hy
    clear hb hv hy
    go_wp2_with fail
    go_loopg [10] 0 (fun g m wr => g = 0 ∧ m = .bool false ∧ w2 = wr)
    case atStart => exact ⟨rfl, rfl, rfl⟩
    case round =>
      obtain ⟨rfl, rfl, rfl⟩ := hrel
      go_wp2_with fail
      go_ret
      exact ⟨ret_int (by rw [HW.out, HY.out]), E12.out⟩
  | true =>
    have HB := Lib.hid hb
    unfold encB at cm2
    rw [hb] at cm2
    have hfin : ∀ x R' C, Near t.length (wide t) (get 0 t) (get false mk) k l x → Cut t.length (wide t) (get false mk) k l true x R' C → highV t mk k l = x k l := fun x R' C hx hcu => by
      rw [HV.out, high_eq hk hl hb ⟨x, R', C, hx, rfl, hcu⟩]
    have FIN := Lib.hid hfin
    have hmw : ∀ x, Near t.length (wide t) (get 0 t) (get false mk) k l x → x k l ≤ 396 := fun x hx => by
      have a1 := hx.le_row hk hl
      have a2 := HSM.out.1 k hk
      omega
    have HMW := Lib.hid hmw
    clear hb hfin hmw
    go_wp2_with fail
    go_loopg [10] ((1000 - get 0 t k l).toNat + 1) (fun g m wr => ∃ (r : Bool) (x : Nat → Nat → Int), g = (1000 - x k l).toNat + (if r then 1 else 0) ∧ m = .bool r ∧ Hid (OwnI wr w1.heap.size (.slice av t.length cv) vs (tabOf t.length (wide t) x)) ∧ Hid (Near t.length (wide t) (get 0 t) (get false mk) k l x) ∧ Hid (r = true ∨ ∃ R' C, Cut t.length (wide t) (get false mk) k l true x R' C) ∧ Ext w wr)
    case atStart => exact ⟨true, get 0 t, rfl, rfl, OW.out, HNE.out, .inl rfl, E12.out⟩
    case round =>
      clear OW HNE E12
      obtain ⟨r, x, rfl, rfl, how, hne, hr, hext⟩ := hrel
      have hx4 := HMW.out x hne.out
      cases r with
      | true =>
        clear hr
        go_wp2_with fail
        refine (l13Change_any av (some ⟨nb, mf, none⟩) cv d t.length (wide t) k l w1.heap.size mk true (get 0 t) x vs w _ HM.out RM.out how.out hext hBw h1 h4 m4 hk hl HB.out HSM.out hne.out).mono ?_
        rintro e w3 ⟨r, X, rfl, own3, e3, ne3, hres⟩
        have O3 := Lib.hid own3; have N3 := Lib.hid ne3
        have hx5 := HMW.out X ne3
        clear own3 ne3
        rcases hres with ⟨rfl, hX⟩ | ⟨rfl, rfl, hc⟩
        · have hX' : X k l = x k l + 1 := hX
          have HX := Lib.hid hX'
          clear hX hX'
          go_wp2_with fail
          go_roundg ((1000 - X k l).toNat + 1)
          case measure => have := HX.out; simp; omega
          case rel => exact ⟨true, X, rfl, rfl, O3.out, N3.out, .inl rfl, e3⟩
        · have HC := Lib.hid hc
          clear hc
          go_wp2_with fail
          go_roundg ((1000 - X k l).toNat + 0)
          case measure => simp
          case rel => exact ⟨false, X, rfl, rfl, O3.out, N3.out, .inr HC.out, e3⟩
      | false =>
        have hcut : highV t mk k l = x k l := by
          rcases hr.out with h | ⟨R', C, hc⟩
          · cases h
          · exact FIN.out x R' C hne.out hc
        have HCU := Lib.hid hcut
        obtain ⟨o, c', g, ck, ev, _, co, _, _, _, cg, _, _⟩ := how.out.atC (i := k) (j := l) hk hl
        cases ev
        unfold encI at cg
        clear hcut hr how
        go_wp2_with fail
        go_ret
        exact ⟨ret_int HCU.out.symm, hext⟩
set_option maxRecDepth 10000 in
set_option maxHeartbeats 4000000 in
theorem sBoundLow_any (a mb : Option Addr) (c d : Nat) (t : List (List Int)) (mk : List (List Bool)) (i j : Int) (w : World) (ht : IRows w a t) (hmk : BRows w mb mk) (hm : t.length ≤ 9223372036854775807) (hm2 : mk.length ≤ 9223372036854775807) (hi : -9223372036854775808 ≤ i ∧ i ≤ 9223372036854775807) (hj : -9223372036854775808 ≤ j ∧ j ≤ 9223372036854775807) :
    Calls Try.prog 35 #[.slice a t.length c, .slice mb mk.length d, .int .i64 i, .int .i64 j] w (Ret (.int .i64 (lowV t mk i j)) w) := by
  have HT := Lib.hid ht; clear ht
  have HM := Lib.hid hmk; clear hmk
  go_enter Try.func35, Try.ntmps35
  go_wp2_with fail
  refine (l13Ok_any _ _ _ _ t mk i j _ HT.out HM.out hm hm2 hi hj).mono ?_
  rintro e w1 ⟨rfl, e1⟩
  cases o1 : hasC t mk i j
  · have HD := Lib.hid (lowV_no o1); clear o1
    go_wp2_with fail
    go_ret
    exact ⟨ret_int HD.out.symm, e1⟩
  obtain ⟨k, l, rfl, rfl, hk, hl, ok⟩ := hasC_nat o1
  have OK := Lib.hid ok
  clear o1 ok
  obtain ⟨h1, h4, m1, m4⟩ := maskOk_lens OK.out
  have R := Lib.hid (tabOk_rect (maskOk_rect OK.out).1).1
  have RM := Lib.hid (maskOk_rect OK.out).2
  have hmk2 : mk.length = t.length := RM.out.1
  have HML := Lib.hid hmk2; clear hmk2
  have hl4 : ∀ (q : Nat) (hq : q < t.length), t[q].length ≤ 2000000 := fun q hq => by rw [R.out.2 q hq]; omega
  have HL4 := Lib.hid hl4; clear hl4
  have HV := Lib.hid (lowV_at OK.out hk hl)
  have hSM := small_of OK.out
  have hNE0 := (Fits.refl (b := get false mk) (maskOk_pos OK.out)).near k l
  go_wp2_with fail
  refine (l11Copy_any _ _ t _ (HT.out.ext e1) (by omega) HL4.out).mono ?_
  rintro e w2 ⟨v, vs, rfl, own, e2⟩
  have e12 := e1.trans e2
  obtain ⟨av, cv, hv, _, _, _⟩ := own.rows
  subst hv
  have own' : OwnI w2 w1.heap.size (.slice av t.length cv) vs (tabOf t.length (wide t) (get 0 t)) := by
    have := own
    rw [R.out.eq 0, tabOf_length] at this
    exact this
  have OW := Lib.hid own'; have E12 := Lib.hid e12; have HSM := Lib.hid hSM; have HNE := Lib.hid hNE0
  have hBw : w.heap.size ≤ w1.heap.size := e1.size
  obtain ⟨nb, mf, mb2, mf2, mk2, rfl, cm1, cm2⟩ := (HM.out.ext e12).atC false RM.out hk hl
  have hkz : (k : Int) < (t.length : Int) := by omega
  have hlz : (l : Int) < (wide t : Int) := by omega
  have hkm : (k : Int) < (mk.length : Int) := by have := HML.out; omega
  clear own own' e1 e2 e12 hSM hNE0
  cases hb : get false mk k l with
  | false =>
    have hv : low t.length (wide t) (get 0 t) (get false mk) k l = get 0 t k l := by unfold low; rw [hb]; rfl
    have HW := Lib.hid (HV.out.trans hv)
    unfold encB at cm2
    rw [hb] at cm2
    obtain ⟨o, c', g, ck, ev, _, co, _, _, _, cg, _, _⟩ := OW.out.atC (i := k) (j := l) hk hl
    cases ev
    unfold encI at cg
    obtain ⟨y, hy⟩ : ∃ y, get 0 t k l = y := ⟨_, rfl⟩
    rw [hy] at cg
    have HY := Lib.hid hy
    clear hb hv hy
    go_wp2_with fail
    go_loopg [10] 0 (fun g m wr => g = 0 ∧ m = .bool false ∧ w2 = wr)
    case atStart => exact ⟨rfl, rfl, rfl⟩
    case round =>
      obtain ⟨rfl, rfl, rfl⟩ := hrel
      go_wp2_with fail
      go_ret
      exact ⟨ret_int (by rw [HW.out, HY.out]), E12.out⟩
  | true =>
    have HB := Lib.hid hb
    unfold encB at cm2
    rw [hb] at cm2
    have hfin : ∀ x, Near t.length (wide t) (get 0 t) (get false mk) k l x → 0 ≤ x k l → (x k l = 0 ∨ ∃ R' C, Cut t.length (wide t) (get false mk) k l false x R' C) → lowV t mk k l = x k l := fun x hx h0 hcu => by
      rw [HV.out, low_eq (maskOk_pos OK.out) hk hl hb hx h0 hcu]
    have FIN := Lib.hid hfin
    have hmw : ∀ x, Near t.length (wide t) (get 0 t) (get false mk) k l x → x k l ≤ 396 := fun x hx => by
      have a1 := hx.le_row hk hl
      have a2 := HSM.out.1 k hk
      omega
    have HMW := Lib.hid hmw
    have h00 := maskOk_pos OK.out k l hk hl
    clear hb hfin hmw
    go_wp2_with fail
    go_loopg [10] ((get 0 t k l).toNat + 1) (fun g m wr => ∃ (r : Bool) (x : Nat → Nat → Int), g = (x k l).toNat + (if r then 1 else 0) ∧ m = .bool r ∧ 0 ≤ x k l ∧ Hid (OwnI wr w1.heap.size (.slice av t.length cv) vs (tabOf t.length (wide t) x)) ∧ Hid (Near t.length (wide t) (get 0 t) (get false mk) k l x) ∧ Hid (r = true ∨ ∃ R' C, Cut t.length (wide t) (get false mk) k l false x R' C) ∧ Ext w wr)
    case atStart => exact ⟨true, get 0 t, rfl, rfl, h00, OW.out, HNE.out, .inl rfl, E12.out⟩
    case round =>
      clear OW HNE E12 h00
      obtain ⟨r, x, rfl, rfl, hx0, how, hne, hr, hext⟩ := hrel
      have hx4 := HMW.out x hne.out
      obtain ⟨o, c', g, ck, ev, _, co, _, _, _, cg, _, _⟩ := how.out.atC (i := k) (j := l) hk hl
      cases ev
      unfold encI at cg
      obtain ⟨y, hy⟩ : ∃ y, x k l = y := ⟨_, rfl⟩
      rw [hy] at cg hx0 hx4
      have HY := Lib.hid hy
      clear hy
      cases r with
      | true =>
        clear hr
        by_cases hy0 : 0 < y
        · go_wp2_with fail
          refine (l13Change_any (some ⟨o, 0, none⟩) (some ⟨nb, mf, none⟩) cv d t.length (wide t) k l w1.heap.size mk false (get 0 t) x vs w _ HM.out RM.out how.out hext hBw h1 h4 m4 hk hl HB.out HSM.out hne.out).mono ?_
          rintro e w3 ⟨r, X, rfl, own3, e3, ne3, hres⟩
          have O3 := Lib.hid own3; have N3 := Lib.hid ne3
          clear own3 ne3
          rcases hres with ⟨rfl, hX⟩ | ⟨rfl, rfl, hc⟩
          · have hX' : X k l = y - 1 := by rw [← HY.out]; exact hX
            have HX := Lib.hid hX'
            clear hX hX'
            go_wp2_with fail
            go_roundg ((X k l).toNat + 1)
            case measure => have h1 := HX.out; have h2 := HY.out; simp; omega
            case rel => exact ⟨true, X, rfl, rfl, by have := HX.out; omega, O3.out, N3.out, .inl rfl, e3⟩
          · have HC := Lib.hid hc
            clear hc
            go_wp2_with fail
            go_roundg ((X k l).toNat + 0)
            case measure => simp
            case rel => exact ⟨false, X, rfl, rfl, by have := HY.out; omega, O3.out, N3.out, .inr HC.out, e3⟩
        · have hlv : lowV t mk k l = y := by
            rw [FIN.out x hne.out (by rw [HY.out]; exact hx0) (.inl (by rw [HY.out]; omega))]; exact HY.out
          have HLV := Lib.hid hlv
          have hy0b : decide (0 < y) = false := by simpa using hy0
          clear hlv how hne
          go_wp2_with fail
          go_ret
          exact ⟨ret_int HLV.out.symm, hext⟩
      | false =>
        have hlv : lowV t mk k l = y := by
          rcases hr.out with h | hc
          · cases h
          · rw [FIN.out x hne.out (by rw [HY.out]; exact hx0) (.inr hc)]; exact HY.out
        have HLV := Lib.hid hlv
        clear hlv how hne hr
        go_wp2_with fail
        go_ret
        exact ⟨ret_int HLV.out.symm, hext⟩
end Go.Proofs.Ytelcdjbbcffliaa
