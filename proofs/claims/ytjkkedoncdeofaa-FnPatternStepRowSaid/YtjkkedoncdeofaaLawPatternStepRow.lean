/- The law FnPatternStepRow. -/
import Derived.Test.YtjkkedoncdeofaaPatStepAny
import Derived.Test.YtjkkedoncdeofaaStepDraw
import Derived.Test.YtjkkedoncdeofaaMaskEq
namespace Go.Proofs.Ytjkkedoncdeofaa
open Go.RowKit Go.DC
theorem sumN_part {p : Nat → Nat → Bool} (k l : Nat) (h4 : k ≤ 4) (m : Nat) (m4 : m ≤ 4) (hl : l ≤ m) : 0 ≤ sumN k (fun x => sumN m (one p x)) + sumN l (one p k) ∧ sumN k (fun x => sumN m (one p x)) + sumN l (one p k) ≤ 20 := by
  have h1 := manyN_bd p h4 m4
  have h2 : 0 ≤ sumN l (one p k) := sumN_nonneg fun j _ => (one_bd p k j).1
  have h3 : sumN l (one p k) ≤ sumN l (fun _ => 1) := sumN_le fun j _ => (one_bd p k j).2
  rw [sumN_const] at h3
  unfold manyN at h1
  omega
set_option maxRecDepth 10000 in
set_option maxHeartbeats 4000000 in
theorem FnPatternStepRow_walk (a0 : Option Addr) (c0 : Nat) (xs : List Int) (w : World) (hx : Bytes w a0 xs) (hm0 : xs.length ≤ 9223372036854775807) (hl0 : xs.length ≤ c0) :
    Calls Try.prog 10 #[.slice a0 xs.length c0] w fun e w' => e = .returned (.bool true) ∧ Ext w w' := by
  by_cases hX : 1048576 < xs.length
  · have hz : (1048576 : Int) < (xs.length : Int) := by omega
    go_enter Try.func10, Try.ntmps10
    go_wp2_with fail
    go_ret
    exact ⟨rfl, Ext.refl _⟩
  have hz0 : ¬ (1048576 : Int) < (xs.length : Int) := by omega
  have hb0 : decide (1048576 < xs.length) = false := by simpa using hX
  have HX := Lib.hid hx; clear hx
  go_enter Try.func10, Try.ntmps10
  go_wp2_with fail
  refine (DrawPatternStep_any _ _ xs _ HX.out hm0 hl0).mono ?_
  rintro e w1 ⟨a, c, A, b0, cf, fm, mb, d, mk, s, rfl, ra, rf, rb, hA4, hF5, hM5, hsr, e1⟩
  have RA0 := Lib.hid ra; have RF0 := Lib.hid rf; have RB0 := Lib.hid rb
  clear ra rf rb
  go_wp2_with fail
  refine (PatternStep_any _ _ _ _ _ _ A fm mk s _ RA0.out RF0.out RB0.out (by omega) (by omega) (by omega) (by omega)).mono ?_
  rintro e w2 ⟨ao, co, vso, r, rfl, hr, oo, e2⟩
  go_wp2_with fail
  refine (sPatternStep_any _ _ _ _ _ _ A fm mk s _ (RA0.out.ext e2) (RF0.out.ext e2) (RB0.out.ext e2) (by omega) (by omega) (by omega) (by omega)).mono ?_
  rintro e w3 ⟨aw, cw, vsw, r', rfl, hr', ow, e3⟩
  obtain rfl := hr.uniq hr'
  have E3 := (e1.trans e2).trans e3
  obtain ⟨hd4, hdr, _⟩ := hr.small
  obtain ⟨dt, hdt⟩ : ∃ dt, outT A.length (wide A) r = dt := ⟨_, rfl⟩
  obtain ⟨dk, hdk⟩ : ∃ dk, Option.isSome r = dk := ⟨_, rfl⟩
  rw [hdt] at oo ow hd4 hdr
  simp only [hdt, hdk]
  have RO0 := Lib.hid ((own_read oo).ext e3); have RW0 := Lib.hid (own_read ow)
  have hdn : dt.length ≤ 9223372036854775807 := by omega
  have hdm : ∀ k (h : k < dt.length), dt[k].length ≤ 9223372036854775807 := fun k h => by have := hdr _ (List.getElem_mem h); omega
  have HDT := Lib.hid hdt; have HDK := Lib.hid hdk; have HR := Lib.hid hr; have HDM := Lib.hid hdm; have E23 := Lib.hid (e2.trans e3)
  clear hdt hdk hr hr' oo ow hdr hdm e1 e2 e3
  cases dk with
  | false =>
    go_wp2_with fail
    refine (sameMask_same _ _ _ _ dt _ RO0.out RW0.out hdn HDM.out).mono ?_
    rintro e w4 ⟨rfl, e4⟩
    go_wp2_with fail
    refine (sameMask_same _ _ _ _ dt _ (RO0.out.ext e4) (RW0.out.ext e4) hdn HDM.out).mono ?_
    rintro e w5 ⟨rfl, e5⟩
    go_wp2_with fail
    go_ret
    exact ⟨rfl, (E3.trans e4).trans e5⟩
  | true =>
  go_wp2_with fail
  refine (sameMask_same _ _ _ _ dt _ RO0.out RW0.out hdn HDM.out).mono ?_
  rintro e w4 ⟨rfl, e4⟩
  have E4 := E3.trans e4
  have hno : needOk A fm mk s = true := by
    cases h : needOk A fm mk s with
    | true => rfl
    | false => have := HDK.out; rw [HR.out.2 h] at this; cases this
  have hR := HR.out.1 hno
  obtain ⟨b', rfl⟩ : ∃ b', r = some b' := by
    cases r with
    | none => have := HDK.out; cases this
    | some b' => exact ⟨b', rfl⟩
  obtain ⟨f1, f2, f3, hf, l1, l2, o3⟩ := needOk_forms hno
  have hdt' : tabOf A.length (wide A) b' = dt := HDT.out
  subst hdt'
  have RA1 := Lib.hid (RA0.out.ext (E23.out.trans e4)); have RF1 := Lib.hid (RF0.out.ext (E23.out.trans e4)); have RB1 := Lib.hid (RB0.out.ext (E23.out.trans e4)); have RO1 := Lib.hid (RO0.out.ext e4)
  clear hno HDK HR HDT HDM hdn hd4 RA0 RF0 RB0 RO0 RW0 E23 e4
  have RA2 : Hid (IRows w4 a (tabOf A.length (wide A) (get 0 A))) := by rw [← f1]; exact RA1
  have RF2 : Hid (BRows w4 b0 (tabOf A.length (wide A) (get false fm))) := by rw [← f2]; exact RF1
  have RB2 : Hid (BRows w4 mb (tabOf A.length (wide A) (get false mk))) := by rw [← f3]; exact RB1
  simp only [l1, l2, tabOf_length]
  clear f1 f2 f3 RA1 RF1 RB1 hX
  clear l1 l2 hF5 hM5
  generalize get 0 A = f at *
  generalize get false fm = g at *
  generalize get false mk = b at *
  generalize A.length = n at *
  generalize wide A = m at *
  have RA := RA2; have RF := RF2; have RO := RO1
  clear RA2 RF2 RO1
  have RB := RB2
  clear RB2
  have HST := Lib.hid hR.steps; have HSR := Lib.hid hR
  obtain ⟨⟨hn1, hn4⟩, hm1, hm4⟩ : (1 ≤ n ∧ n ≤ 4) ∧ 1 ≤ m ∧ m ≤ 4 := ⟨⟨hf.1.1, hf.1.2.1⟩, hf.1.2.2⟩
  have HF := Lib.hid hf; have O3 := Lib.hid o3
  obtain ⟨hs0, hs1⟩ := inCell_iff.1 o3
  clear hf o3 hR hA4 hsr
  obtain ⟨tb, tf, _, _, ea, ct0⟩ := RA.out.rowC (rect_tabOf n m f) (i := 0) (by omega)
  subst ea
  clear ct0
  obtain ⟨ob, of, _, _, _, eb, cb0, _⟩ := RO.out.atC false (rect_tabOf n m b') (i := 0) (j := 0) (by omega) (by omega)
  subst eb
  clear cb0
  obtain ⟨xb, xf, _, _, _, ex, cb0, _⟩ := RB.out.atC false (rect_tabOf n m b) (i := 0) (j := 0) (by omega) (by omega)
  subst ex
  clear cb0
  have HOUT : Hid (∀ (k l : Nat) (wx : World), Ext w4 wx → k < n → l < m → ∃ mb2 mf2 mk2, wx.cell? ⟨ob, of + k, none⟩ = some (.slice (some ⟨mb2, mf2, none⟩) m mk2) ∧ wx.cell? ⟨mb2, mf2 + l, none⟩ = some (.bool (b' k l))) := fun k l wx ex hk hl => by
    obtain ⟨_, _, mb2, mf2, mk2, e, c1, c2⟩ := (RO.out.ext ex).atC false (rect_tabOf n m b') (i := k) (j := l) hk hl
    rw [get_tabOf b' hk hl] at c2
    cases e
    exact ⟨mb2, mf2, mk2, c1, c2⟩
  have HMASK : Hid (∀ (k l : Nat) (wx : World), Ext w4 wx → k < n → l < m → ∃ mb2 mf2 mk2, wx.cell? ⟨xb, xf + k, none⟩ = some (.slice (some ⟨mb2, mf2, none⟩) m mk2) ∧ wx.cell? ⟨mb2, mf2 + l, none⟩ = some (.bool (b k l))) := fun k l wx ex hk hl => by
    obtain ⟨_, _, mb2, mf2, mk2, e, c1, c2⟩ := (RB.out.ext ex).atC false (rect_tabOf n m b) (i := k) (j := l) hk hl
    rw [get_tabOf b hk hl] at c2
    cases e
    exact ⟨mb2, mf2, mk2, c1, c2⟩
  have HTAB : Hid (∀ (k : Nat) (wx : World), Ext w4 wx → k < n → ∃ a2 ck2, wx.cell? ⟨tb, tf + k, none⟩ = some (.slice a2 m ck2)) := fun k wx ex hk => by
    obtain ⟨_, _, a2, ck2, ea, c2⟩ := (RA.out.ext ex).rowC (rect_tabOf n m f) hk
    cases ea
    exact ⟨a2, ck2, c2⟩
  obtain ⟨p, hp⟩ : ∃ p, newF b b' = p := ⟨_, rfl⟩
  have HNEW : Hid (∀ k l, p k l = (b' k l && !b k l)) := fun k l => by rw [← hp]; rfl
  have HROW : Hid (∀ k l, k < n → l < m → p k l = true → 2 ≤ sumN m (one b' k) ∧ 2 ≤ sumN n (fun x => one b' x l)) := fun k l hk hl h => by rw [← hp] at h; exact ⟨HST.out.row k l hk hl h, HST.out.col k l hk hl h⟩
  have hcnt : 1 ≤ manyN n m p := by rw [← hp]; exact HST.out.some
  have HCNT := Lib.hid hcnt
  clear hp hcnt HSR HST
  go_wp2_with fail
  go_loopg [11, 12, 13] n (fun g' r c i wr => ∃ (k : Nat) (x : Bool), k ≤ n ∧ g' = n - k ∧ i = .int .i64 k ∧ r = .bool x ∧ c = .bool x ∧ Hid (x = decide (1 ≤ sumN k (fun x => sumN m (one p x)))) ∧ Ext w4 wr)
  case atStart => exact ⟨0, false, Nat.zero_le _, rfl, rfl, rfl, rfl, by show false = decide (1 ≤ (0 : Int)); decide, Ext.refl _⟩
  case round =>
    obtain ⟨k, x, hk, rfl, rfl, rfl, rfl, hxx, hext⟩ := hrel
    have hbase : sumN k (fun x => sumN m (one p x)) = sumN k (fun x => sumN m (one p x)) + sumN 0 (one p k) := by simp [sumN]
    have hk1 : sumN (k + 1) (fun x => sumN m (one p x)) = sumN k (fun x => sumN m (one p x)) + sumN m (one p k) := rfl
    have HK1 := Lib.hid hk1; have HBASE := Lib.hid hbase
    clear hk1 hbase
    by_cases hlt : k < n
    · have hz : (k : Int) < (n : Int) := by omega
      have HPB : Hid (∀ l, l ≤ m → 0 ≤ sumN k (fun x => sumN m (one p x)) + sumN l (one p k) ∧ sumN k (fun x => sumN m (one p x)) + sumN l (one p k) ≤ 20) := fun l hl => sumN_part k l (by omega) m hm4 hl
      obtain ⟨s0, hs00⟩ : ∃ s0, sumN k (fun x => sumN m (one p x)) = s0 := ⟨_, rfl⟩
      rw [hs00] at HPB HK1 HBASE hxx
      clear hs00
      go_wp2_with fail
      go_loopg [11, 12, 14] m (fun g' r c i wi => ∃ (l : Nat) (x : Bool), l ≤ m ∧ g' = m - l ∧ i = .int .i64 l ∧ r = .bool x ∧ c = .bool x ∧ Hid (x = decide (1 ≤ s0 + sumN l (one p k))) ∧ Ext w4 wi)
      case atStart => exact ⟨0, x, Nat.zero_le _, rfl, rfl, rfl, rfl, by rw [← HBASE.out]; exact hxx, hext⟩
      case round =>
        clear hext hxx
        obtain ⟨l, x, hl, rfl, rfl, rfl, rfl, hxx, hext⟩ := hrel
        obtain ⟨a2, ck2, c2⟩ := HTAB.out k _ hext hlt
        by_cases hlt2 : l < m
        · have hlz : (l : Int) < (m : Int) := by omega
          obtain ⟨mb2, mf2, mk2, cm1, cm2⟩ := HMASK.out k l _ hext hlt hlt2
          obtain ⟨mb3, mf3, mk3, cx1, cx2⟩ := HOUT.out k l _ hext hlt hlt2
          have hone : sumN (l + 1) (one p k) = sumN l (one p k) + one p k l := rfl
          have hpb := HPB.out l hl
          have hnew := HNEW.out k l
          have hrow := HROW.out k l hlt hlt2
          have hno : p k l = false → Hid (x = decide (1 ≤ s0 + sumN (l + 1) (one p k))) := fun h => by
            have h1 : one p k l = 0 := by unfold one; rw [h]; rfl
            rw [hone, h1, Int.add_zero]; exact hxx
          have hyes : p k l = true → Hid (true = decide (1 ≤ s0 + sumN (l + 1) (one p k))) := fun h => by
            have h1 : one p k l = 1 := by unfold one; rw [h]; rfl
            exact (decide_eq_true (by rw [hone, h1]; omega)).symm
          have HNO := Lib.hid hno; have HYES := Lib.hid hyes
          clear hno hyes hone hpb
          cases hb' : b' k l with
          | false =>
            rw [hb'] at cx2
            have h1 := HNO.out (by rw [hnew, hb']; rfl)
            clear hb' hnew hrow
            go_wp2_with fail
            go_roundg (m - (l + 1))
            case measure => omega
            case rel => exact ⟨l + 1, x, by omega, rfl, by go_num, rfl, rfl, h1, hext⟩
          | true =>
            rw [hb'] at cx2
            cases hb : b k l with
            | true =>
              rw [hb] at cm2
              have h1 := HNO.out (by rw [hnew, hb, hb']; rfl)
              clear hb hb' hnew hrow
              go_wp2_with fail
              go_roundg (m - (l + 1))
              case measure => omega
              case rel => exact ⟨l + 1, x, by omega, rfl, by go_num, rfl, rfl, h1, hext⟩
            | false =>
              rw [hb] at cm2
              have h0 : p k l = true := by rw [hnew, hb, hb']; rfl
              have h1 := HYES.out h0
              obtain ⟨hrow1, hrow2⟩ := hrow h0
              obtain ⟨za, hza⟩ : ∃ z, sumN m (one b' k) = z := ⟨_, rfl⟩
              obtain ⟨zb, hzb⟩ : ∃ z, sumN n (fun x => one b' x l) = z := ⟨_, rfl⟩
              rw [hza] at hrow1
              rw [hzb] at hrow2
              have HZA := Lib.hid hza; have HZB := Lib.hid hzb; have H1 := Lib.hid h1
              clear hb hb' hnew h0 h1 hza hzb hxx HNO HYES
              go_wp2_with fail
              go_loopg [15, 17] m (fun g' y i wi2 => ∃ j : Nat, j ≤ m ∧ g' = m - j ∧ i = .int .i64 j ∧ y = .int .i64 (sumN j (one b' k)) ∧ Ext w4 wi2)
              case atStart => exact ⟨0, Nat.zero_le _, rfl, rfl, rfl, hext⟩
              case round =>
                clear hext c2 cm1 cm2 cx1 cx2
                obtain ⟨j, hj, rfl, rfl, rfl, hext⟩ := hrel
                obtain ⟨a2, ck2, c2⟩ := HTAB.out k _ hext hlt
                by_cases hlt3 : j < m
                · have hjz : (j : Int) < (m : Int) := by omega
                  have hvb : 0 ≤ sumN j (one b' k) ∧ sumN j (one b' k) ≤ 4 := by
                    refine ⟨sumN_nonneg fun i _ => (one_bd b' k i).1, ?_⟩
                    have e : sumN j (one b' k) ≤ sumN j (fun _ => 1) := sumN_le fun i _ => (one_bd b' k i).2
                    rw [sumN_const] at e; omega
                  have hsl : sumN (j + 1) (one b' k) = sumN j (one b' k) + one b' k j := rfl
                  obtain ⟨r, hr⟩ : ∃ r, sumN j (one b' k) = r := ⟨_, rfl⟩
                  rw [hr] at hvb hsl ⊢
                  obtain ⟨hvb0, hvb1⟩ := hvb
                  clear hr
                  obtain ⟨mb4, mf4, mk4, cx1, cx2⟩ := HOUT.out k j _ hext hlt hlt3
                  cases hb : b' k j with
                  | false =>
                    rw [hb] at cx2
                    have h1' : one b' k j = 0 := by unfold one; rw [hb]; rfl
                    rw [h1', Int.add_zero] at hsl
                    have HSL := Lib.hid hsl
                    clear hb hsl h1'
                    go_wp2_with fail
                    go_roundg (m - (j + 1))
                    case measure => omega
                    case rel => exact ⟨j + 1, by omega, rfl, by go_num, by rw [HSL.out], hext⟩
                  | true =>
                    rw [hb] at cx2
                    have h1' : one b' k j = 1 := by unfold one; rw [hb]; rfl
                    rw [h1'] at hsl
                    have HSL := Lib.hid hsl
                    clear hb hsl h1'
                    go_wp2_with fail
                    go_roundg (m - (j + 1))
                    case measure => omega
                    case rel => exact ⟨j + 1, by omega, rfl, by go_num, by rw [HSL.out], hext⟩
                · have hjz : ¬ (j : Int) < (m : Int) := by omega
                  obtain rfl : j = m := by omega
                  rw [HZA.out]
                  go_wp2_with fail
                  go_loopg [16, 18] n (fun g' y i wi2 => ∃ q : Nat, q ≤ n ∧ g' = n - q ∧ i = .int .i64 q ∧ y = .int .i64 (sumN q (fun x => one b' x l)) ∧ Ext w4 wi2)
                  case atStart => exact ⟨0, Nat.zero_le _, rfl, rfl, rfl, hext⟩
                  case round =>
                    clear hext c2
                    obtain ⟨q, hq, rfl, rfl, rfl, hext⟩ := hrel
                    by_cases hlt4 : q < n
                    · have hqz : (q : Int) < (n : Int) := by omega
                      have hvb : 0 ≤ sumN q (fun x => one b' x l) ∧ sumN q (fun x => one b' x l) ≤ 4 := by
                        refine ⟨sumN_nonneg fun i _ => (one_bd b' i l).1, ?_⟩
                        have e : sumN q (fun x => one b' x l) ≤ sumN q (fun _ => 1) := sumN_le fun i _ => (one_bd b' i l).2
                        rw [sumN_const] at e; omega
                      have hsl : sumN (q + 1) (fun x => one b' x l) = sumN q (fun x => one b' x l) + one b' q l := rfl
                      obtain ⟨r, hr⟩ : ∃ r, sumN q (fun x => one b' x l) = r := ⟨_, rfl⟩
                      rw [hr] at hvb hsl ⊢
                      obtain ⟨hvb0, hvb1⟩ := hvb
                      clear hr
                      obtain ⟨mb4, mf4, mk4, cx1, cx2⟩ := HOUT.out q l _ hext hlt4 hlt2
                      cases hb : b' q l with
                      | false =>
                        rw [hb] at cx2
                        have h1' : one b' q l = 0 := by unfold one; rw [hb]; rfl
                        rw [h1', Int.add_zero] at hsl
                        have HSL := Lib.hid hsl
                        clear hb hsl h1'
                        go_wp2_with fail
                        go_roundg (n - (q + 1))
                        case measure => omega
                        case rel => exact ⟨q + 1, by omega, rfl, by go_num, by rw [HSL.out], hext⟩
                      | true =>
                        rw [hb] at cx2
                        have h1' : one b' q l = 1 := by unfold one; rw [hb]; rfl
                        rw [h1'] at hsl
                        have HSL := Lib.hid hsl
                        clear hb hsl h1'
                        go_wp2_with fail
                        go_roundg (n - (q + 1))
                        case measure => omega
                        case rel => exact ⟨q + 1, by omega, rfl, by go_num, by rw [HSL.out], hext⟩
                    · have hqz : ¬ (q : Int) < (n : Int) := by omega
                      obtain rfl : q = n := by omega
                      rw [HZB.out]
                      have g1 : 1 < za := by omega
                      have g2 : 1 < zb := by omega
                      have g1b : decide (1 < za) = true := decide_eq_true g1
                      have g2b : decide (1 < zb) = true := decide_eq_true g2
                      have H2 := H1.out
                      clear hrow1 hrow2
                      cases x
                      all_goals
                        go_wp2_with fail
                        go_roundg (j - (l + 1))
                        case measure => omega
                        case rel => exact ⟨l + 1, true, by omega, rfl, by go_num, rfl, rfl, H2, hext⟩
        · have hlz : ¬ (l : Int) < (m : Int) := by omega
          obtain rfl : l = m := by omega
          rw [← HK1.out] at hxx
          go_wp2_with fail
          go_roundg (n - (k + 1))
          case measure => omega
          case rel => exact ⟨k + 1, x, by omega, rfl, by go_num, rfl, rfl, hxx, hext⟩
    · have hz : ¬ (k : Int) < (n : Int) := by omega
      obtain rfl : k = n := by omega
      have hx1 : x = true := by rw [hxx.out]; exact decide_eq_true HCNT.out
      subst hx1
      clear hxx HBASE HK1
      go_wp2_with fail
      go_ret
      exact ⟨rfl, E4.trans hext⟩
end Go.Proofs.Ytjkkedoncdeofaa
