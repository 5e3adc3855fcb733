/- The law FnPatternGrowStep. -/
import Derived.Test.YtnlolgooicgfdaaPatGrow
import Derived.Test.YtnlolgooicgfdaaGrowDraw
import Derived.Test.YtnlolgooicgfdaaMaskEq
import Derived.Test.YtnlolgooicgfdaaManyLaw
namespace Go.Proofs.Ytnlolgooicgfdaa
open Go.RowKit Go.DC
set_option maxRecDepth 10000 in
set_option maxHeartbeats 4000000 in
theorem FnPatternGrowStep_walk (a0 : Option Addr) (c0 : Nat) (xs : List Int) (w : World) (hx : Bytes w a0 xs) (hm0 : xs.length ≤ 9223372036854775807) (hl0 : xs.length ≤ c0) :
    Calls Try.prog 7 #[.slice a0 xs.length c0] w fun e w' => e = .returned (.bool true) ∧ Ext w w' := by
  by_cases hX : 1048576 < xs.length
  · have hz : (1048576 : Int) < (xs.length : Int) := by omega
    go_enter Try.func7, Try.ntmps7
    go_wp2_with fail
    go_ret
    exact ⟨rfl, Ext.refl _⟩
  have hz0 : ¬ (1048576 : Int) < (xs.length : Int) := by omega
  have hb0 : decide (1048576 < xs.length) = false := by simpa using hX
  have HX := Lib.hid hx; clear hx
  go_enter Try.func7, Try.ntmps7
  go_wp2_with fail
  refine (DrawPatternGrow_any _ _ xs _ HX.out hm0 hl0).mono ?_
  rintro e w1 ⟨a, c, A, b0, cf, fm, s, rfl, ra, rf, hA4, hF5, hsr, e1⟩
  have RA0 := Lib.hid ra; have RF0 := Lib.hid rf
  clear ra rf
  go_wp2_with fail
  refine (PatternGrow_any _ _ _ _ A fm s _ RA0.out RF0.out (by omega) (by omega) (by omega)).mono ?_
  rintro e w2 ⟨ao, co, vso, r, rfl, hr, oo, e2⟩
  go_wp2_with fail
  refine (sPatternGrows_any _ _ _ _ A fm s _ (RA0.out.ext e2) (RF0.out.ext e2) (by omega) (by omega) (by omega)).mono ?_
  rintro e w3 ⟨aw, cw, vsw, r', rfl, hr', ow, e3⟩
  obtain rfl := hr.uniq hr'
  have E3 := (e1.trans e2).trans e3
  obtain ⟨hd4, hdr, _⟩ := hr.small
  obtain ⟨dt, hdt⟩ : ∃ dt, outT A.length (wide A) r = dt := ⟨_, rfl⟩
  obtain ⟨dk, hdk⟩ : ∃ dk, Option.isSome r = dk := ⟨_, rfl⟩
  rw [hdt] at oo ow hd4 hdr
  simp only [hdt, hdk]
  have RO0 := Lib.hid ((own_read oo).ext e3); have RW0 := Lib.hid (own_read ow)
  have hdn : dt.length ≤ 9223372036854775807 := by omega
  have hdm : ∀ k (h : k < dt.length), dt[k].length ≤ 9223372036854775807 := fun k h => by have := hdr _ (List.getElem_mem h); omega
  have HDT := Lib.hid hdt; have HDK := Lib.hid hdk; have HR := Lib.hid hr; have HDM := Lib.hid hdm; have E23 := Lib.hid (e2.trans e3)
  clear hdt hdk hr hr' oo ow hdr hdm e1 e2 e3
  cases dk with
  | false =>
    go_wp2_with fail
    refine (sameMask_same _ _ _ _ dt _ RO0.out RW0.out hdn HDM.out).mono ?_
    rintro e w4 ⟨rfl, e4⟩
    go_wp2_with fail
    refine (sameMask_same _ _ _ _ dt _ (RO0.out.ext e4) (RW0.out.ext e4) hdn HDM.out).mono ?_
    rintro e w5 ⟨rfl, e5⟩
    go_wp2_with fail
    go_ret
    exact ⟨rfl, (E3.trans e4).trans e5⟩
  | true =>
  go_wp2_with fail
  refine (sameMask_same _ _ _ _ dt _ RO0.out RW0.out hdn HDM.out).mono ?_
  rintro e w4 ⟨rfl, e4⟩
  have E4 := E3.trans e4
  have hno : needOk A fm fm s = true := by
    cases h : needOk A fm fm s with
    | true => rfl
    | false => have := HDK.out; rw [HR.out.2 h] at this; cases this
  have hR := HR.out.1 hno
  obtain ⟨b', rfl⟩ : ∃ b', r = some b' := by
    cases r with
    | none => have := HDK.out; cases this
    | some b' => exact ⟨b', rfl⟩
  obtain ⟨f1, f2, f3, hf, l1, l2, o3⟩ := needOk_forms hno
  have hdt' : tabOf A.length (wide A) b' = dt := HDT.out
  subst hdt'
  have RA1 := Lib.hid (RA0.out.ext (E23.out.trans e4)); have RF1 := Lib.hid (RF0.out.ext (E23.out.trans e4)); have RO1 := Lib.hid (RO0.out.ext e4)
  clear hno HDK HR HDT HDM hdn hd4 RA0 RF0  RO0 RW0 E23 e4
  have RA2 : Hid (IRows w4 a (tabOf A.length (wide A) (get 0 A))) := by rw [← f1]; exact RA1
  have RF2 : Hid (BRows w4 b0 (tabOf A.length (wide A) (get false fm))) := by rw [← f2]; exact RF1
  simp only [l1, tabOf_length]
  clear f1 f2 f3 RA1 RF1  hX
  clear l1 l2 hF5
  generalize get 0 A = f at *
  generalize get false fm = g at *
  generalize A.length = n at *
  generalize wide A = m at *
  have RA := RA2; have RF := RF2; have RO := RO1
  clear RA2 RF2 RO1
  have HG := Lib.hid hR
  obtain ⟨⟨hn1, hn4⟩, hm1, hm4⟩ : (1 ≤ n ∧ n ≤ 4) ∧ 1 ≤ m ∧ m ≤ 4 := ⟨⟨hf.1.1, hf.1.2.1⟩, hf.1.2.2⟩
  have HF := Lib.hid hf; have O3 := Lib.hid o3
  obtain ⟨hs0, hs1⟩ := inCell_iff.1 o3
  clear hf o3 hR hA4 hsr
  have OKC : Hid (∀ (b2 : Nat → Nat → Bool) (mx : Option Addr) (dx : Nat) (wx : World), Ext w4 wx → BRows wx mx (tabOf n m b2) → Calls Try.prog 27 #[.slice a n c, .slice b0 n cf, .slice mx n dx, .int .i64 s] wx (BoolOut (decide (manyN n m (notSafeF n m f g b2 s) = 0)) wx)) := fun b2 mx dx wx ex hb =>
    PatternOk_tab _ _ mx c cf dx n m s f g b2 wx wx (RA.out.ext ex) (RF.out.ext ex) hb HF.out O3.out (Ext.refl _)
  cases hok : decide (manyN n m (notSafeF n m f g g s) = 0) with
  | true =>
    have hsame := HG.out.first (of_decide_eq_true hok)
    subst hsame
    have hcall := OKC.out b' b0 cf w4 (Ext.refl _) RF.out
    rw [hok] at hcall
    have HCALL := Lib.hid hcall
    clear hok hcall HG OKC
    go_wp2_with fail
    refine HCALL.out.mono ?_
    rintro e w6 ⟨rfl, e6⟩
    go_wp2_with fail
    have h := sameMask_same ao b0 co cf (tabOf n m b') w6 (RO.out.ext e6) (RF.out.ext e6) (by rw [tabOf_length]; omega) (fun k hk => by rw [tabOf_rowlen]; omega)
    rw [tabOf_length] at h
    refine h.mono ?_
    rintro e w7 ⟨rfl, e7⟩
    go_wp2_with fail
    go_ret
    exact ⟨rfl, (E4.trans e6).trans e7⟩
  | false =>
    have hcall := OKC.out g b0 cf w4 (Ext.refl _) RF.out
    rw [hok] at hcall
    have HCALL := Lib.hid hcall
    have HN0 := Lib.hid (of_decide_eq_false hok)
    clear hok hcall OKC
    go_wp2_with fail
    refine HCALL.out.mono ?_
    rintro e w6 ⟨rfl, e6⟩
    go_wp2_with fail
    refine (PatternStep_tab a b0 b0 c cf cf n m s f g g w6 (RA.out.ext e6) (RF.out.ext e6) (RF.out.ext e6) HF.out O3.out).mono ?_
    rintro e w7 ⟨vx, vsx, r, rfl, hstep, own, e7⟩
    obtain ⟨b1, rfl, hsub⟩ := HG.out.step HN0.out hstep
    have own' : OwnB w7 w6.heap.size vx vsx (tabOf n m b1) := own
    obtain ⟨xb, cx, xi, xr, ev, _⟩ := own'.atC (i := 0) (j := 0) (by omega) (by omega)
    subst ev
    have RX := Lib.hid (own_read_n own')
    have RO2 := Lib.hid (RO.out.ext (e6.trans e7))
    have HSUB := Lib.hid hsub
    have E7 := (E4.trans e6).trans e7
    clear own own' hstep hsub e6 e7 HCALL HN0 HG RO
    have RO := RO2
    clear RO2
    obtain ⟨ob, of, _, _, _, eb, cb0, _⟩ := RO.out.atC false (rect_tabOf n m b') (i := 0) (j := 0) (by omega) (by omega)
    subst eb
    clear cb0
    have HOUT : Hid (∀ (k l : Nat) (wx : World), Ext w7 wx → k < n → l < m → ∃ mb2 mf2 mk2, wx.cell? ⟨ob, of + k, none⟩ = some (.slice (some ⟨mb2, mf2, none⟩) m mk2) ∧ wx.cell? ⟨mb2, mf2 + l, none⟩ = some (.bool (b' k l))) := fun k l wx ex hk hl => by
      obtain ⟨_, _, mb2, mf2, mk2, e, c1, c2⟩ := (RO.out.ext ex).atC false (rect_tabOf n m b') (i := k) (j := l) hk hl
      rw [get_tabOf b' hk hl] at c2
      cases e
      exact ⟨mb2, mf2, mk2, c1, c2⟩
    have HX : Hid (∀ (k l : Nat) (wx : World), Ext w7 wx → k < n → l < m → ∃ mb2 mf2 mk2, wx.cell? ⟨xb, 0 + k, none⟩ = some (.slice (some ⟨mb2, mf2, none⟩) m mk2) ∧ wx.cell? ⟨mb2, mf2 + l, none⟩ = some (.bool (b1 k l))) := fun k l wx ex hk hl => by
      obtain ⟨_, _, mb2, mf2, mk2, e, c1, c2⟩ := (RX.out.ext ex).atC false (rect_tabOf n m b1) (i := k) (j := l) hk hl
      rw [get_tabOf b1 hk hl] at c2
      cases e
      exact ⟨mb2, mf2, mk2, c1, c2⟩
    simp only [Nat.zero_add] at HX
    have hnn : ((n : Int) != (n : Int)) = false := by simp
    have hmm : ((m : Int) != (m : Int)) = false := by simp
    go_wp2_with fail
    go_loopg [12] n (fun g' i wr => ∃ k : Nat, k ≤ n ∧ g' = n - k ∧ i = .int .i64 k ∧ Ext w7 wr)
    case atStart => exact ⟨0, Nat.zero_le _, rfl, rfl, Ext.refl _⟩
    case round =>
      obtain ⟨k, hk, rfl, rfl, hext⟩ := hrel
      by_cases hlt : k < n
      · have hz : (k : Int) < (n : Int) := by omega
        go_wp2_with fail
        go_loopg [13] m (fun g' i wi => ∃ l : Nat, l ≤ m ∧ g' = m - l ∧ i = .int .i64 l ∧ Ext w7 wi)
        case atStart => exact ⟨0, Nat.zero_le _, rfl, rfl, hext⟩
        case round =>
          clear hext
          obtain ⟨l, hl, rfl, rfl, hext⟩ := hrel
          by_cases hlt2 : l < m
          · have hlz : (l : Int) < (m : Int) := by omega
            obtain ⟨mb2, mf2, mk2, cm1, cm2⟩ := HX.out k l _ hext hlt hlt2
            obtain ⟨mb3, mf3, mk3, cx1, cx2⟩ := HOUT.out k l _ hext hlt hlt2
            have hsub := HSUB.out k l
            cases hg : b1 k l with
            | true =>
              rw [hsub hg] at cx2
              rw [hg] at cm2
              clear hg hsub
              go_wp2_with fail
              go_quiet (fail)
              go_wp2_with fail
              go_roundg (m - (l + 1))
              case measure => omega
              case rel => exact ⟨l + 1, by omega, rfl, by go_num, hext.drewN _⟩
            | false =>
              rw [hg] at cm2
              clear hg hsub
              go_wp2_with fail
              go_quiet (fail)
              go_wp2_with fail
              go_roundg (m - (l + 1))
              case measure => omega
              case rel => exact ⟨l + 1, by omega, rfl, by go_num, hext.drewN _⟩
          · have hlz : ¬ (l : Int) < (m : Int) := by omega
            obtain ⟨mb2, mf2, mk2, cm1, _⟩ := HX.out k 0 _ hext hlt (by omega)
            go_wp2_with fail
            go_roundg (n - (k + 1))
            case measure => omega
            case rel => exact ⟨k + 1, by omega, rfl, by go_num, hext⟩
      · have hz : ¬ (k : Int) < (n : Int) := by omega
        go_wp2_with fail
        go_ret
        exact ⟨rfl, E7.trans hext⟩
end Go.Proofs.Ytnlolgooicgfdaa
