/- The law FnPatternStep. -/
import Derived.Test.YtjkkedoncdeofaaPatStepAny
import Derived.Test.YtjkkedoncdeofaaStepDraw
import Derived.Test.YtjkkedoncdeofaaMaskEq
namespace Go.Proofs.Ytjkkedoncdeofaa
open Go.RowKit Go.DC
theorem sumN_part {p : Nat → Nat → Bool} (k l : Nat) (h4 : k ≤ 4) (m : Nat) (m4 : m ≤ 4) (hl : l ≤ m) : 0 ≤ sumN k (fun x => sumN m (one p x)) + sumN l (one p k) ∧ sumN k (fun x => sumN m (one p x)) + sumN l (one p k) ≤ 20 := by
  have h1 := manyN_bd p h4 m4
  have h2 : 0 ≤ sumN l (one p k) := sumN_nonneg fun j _ => (one_bd p k j).1
  have h3 : sumN l (one p k) ≤ sumN l (fun _ => 1) := sumN_le fun j _ => (one_bd p k j).2
  rw [sumN_const] at h3
  unfold manyN at h1
  omega
set_option maxRecDepth 10000 in
set_option maxHeartbeats 4000000 in
theorem FnPatternStep_walk (a0 : Option Addr) (c0 : Nat) (xs : List Int) (w : World) (hx : Bytes w a0 xs) (hm0 : xs.length ≤ 9223372036854775807) (hl0 : xs.length ≤ c0) :
    Calls Try.prog 9 #[.slice a0 xs.length c0] w fun e w' => e = .returned (.bool true) ∧ Ext w w' := by
  by_cases hX : 1048576 < xs.length
  · have hz : (1048576 : Int) < (xs.length : Int) := by omega
    go_enter Try.func9, Try.ntmps9
    go_wp2_with fail
    go_ret
    exact ⟨rfl, Ext.refl _⟩
  have hz0 : ¬ (1048576 : Int) < (xs.length : Int) := by omega
  have hb0 : decide (1048576 < xs.length) = false := by simpa using hX
  have HX := Lib.hid hx; clear hx
  go_enter Try.func9, Try.ntmps9
  go_wp2_with fail
  refine (DrawPatternStep_any _ _ xs _ HX.out hm0 hl0).mono ?_
  rintro e w1 ⟨a, c, A, b0, cf, fm, mb, d, mk, s, rfl, ra, rf, rb, hA4, hF5, hM5, hsr, e1⟩
  have RA0 := Lib.hid ra; have RF0 := Lib.hid rf; have RB0 := Lib.hid rb
  clear ra rf rb
  go_wp2_with fail
  refine (PatternStep_any _ _ _ _ _ _ A fm mk s _ RA0.out RF0.out RB0.out (by omega) (by omega) (by omega) (by omega)).mono ?_
  rintro e w2 ⟨ao, co, vso, r, rfl, hr, oo, e2⟩
  go_wp2_with fail
  refine (sPatternStep_any _ _ _ _ _ _ A fm mk s _ (RA0.out.ext e2) (RF0.out.ext e2) (RB0.out.ext e2) (by omega) (by omega) (by omega) (by omega)).mono ?_
  rintro e w3 ⟨aw, cw, vsw, r', rfl, hr', ow, e3⟩
  obtain rfl := hr.uniq hr'
  have E3 := (e1.trans e2).trans e3
  obtain ⟨hd4, hdr, _⟩ := hr.small
  obtain ⟨dt, hdt⟩ : ∃ dt, outT A.length (wide A) r = dt := ⟨_, rfl⟩
  obtain ⟨dk, hdk⟩ : ∃ dk, Option.isSome r = dk := ⟨_, rfl⟩
  rw [hdt] at oo ow hd4 hdr
  simp only [hdt, hdk]
  have RO0 := Lib.hid ((own_read oo).ext e3); have RW0 := Lib.hid (own_read ow)
  have hdn : dt.length ≤ 9223372036854775807 := by omega
  have hdm : ∀ k (h : k < dt.length), dt[k].length ≤ 9223372036854775807 := fun k h => by have := hdr _ (List.getElem_mem h); omega
  have HDT := Lib.hid hdt; have HDK := Lib.hid hdk; have HR := Lib.hid hr; have HDM := Lib.hid hdm; have E23 := Lib.hid (e2.trans e3)
  clear hdt hdk hr hr' oo ow hdr hdm e1 e2 e3
  cases dk with
  | false =>
    go_wp2_with fail
    refine (sameMask_same _ _ _ _ dt _ RO0.out RW0.out hdn HDM.out).mono ?_
    rintro e w4 ⟨rfl, e4⟩
    go_wp2_with fail
    refine (sameMask_same _ _ _ _ dt _ (RO0.out.ext e4) (RW0.out.ext e4) hdn HDM.out).mono ?_
    rintro e w5 ⟨rfl, e5⟩
    go_wp2_with fail
    go_ret
    exact ⟨rfl, (E3.trans e4).trans e5⟩
  | true =>
  go_wp2_with fail
  refine (sameMask_same _ _ _ _ dt _ RO0.out RW0.out hdn HDM.out).mono ?_
  rintro e w4 ⟨rfl, e4⟩
  have E4 := E3.trans e4
  have hno : needOk A fm mk s = true := by
    cases h : needOk A fm mk s with
    | true => rfl
    | false => have := HDK.out; rw [HR.out.2 h] at this; cases this
  have hR := HR.out.1 hno
  obtain ⟨b', rfl⟩ : ∃ b', r = some b' := by
    cases r with
    | none => have := HDK.out; cases this
    | some b' => exact ⟨b', rfl⟩
  obtain ⟨f1, f2, f3, hf, l1, l2, o3⟩ := needOk_forms hno
  have hdt' : tabOf A.length (wide A) b' = dt := HDT.out
  subst hdt'
  have RA1 := Lib.hid (RA0.out.ext (E23.out.trans e4)); have RF1 := Lib.hid (RF0.out.ext (E23.out.trans e4)); have RB1 := Lib.hid (RB0.out.ext (E23.out.trans e4)); have RO1 := Lib.hid (RO0.out.ext e4)
  clear hno HDK HR HDT HDM hdn hd4 RA0 RF0 RB0 RO0 RW0 E23 e4
  have RA2 : Hid (IRows w4 a (tabOf A.length (wide A) (get 0 A))) := by rw [← f1]; exact RA1
  have RF2 : Hid (BRows w4 b0 (tabOf A.length (wide A) (get false fm))) := by rw [← f2]; exact RF1
  have RB2 : Hid (BRows w4 mb (tabOf A.length (wide A) (get false mk))) := by rw [← f3]; exact RB1
  simp only [l1, l2, tabOf_length]
  clear f1 f2 f3 RA1 RF1 RB1 hX
  clear l1 l2 hF5 hM5
  generalize get 0 A = f at *
  generalize get false fm = g at *
  generalize get false mk = b at *
  generalize A.length = n at *
  generalize wide A = m at *
  have RA := RA2; have RF := RF2; have RO := RO1
  clear RA2 RF2 RO1
  have RB := RB2
  clear RB2
  have HST := Lib.hid hR.steps; have HSR := Lib.hid hR
  obtain ⟨⟨hn1, hn4⟩, hm1, hm4⟩ : (1 ≤ n ∧ n ≤ 4) ∧ 1 ≤ m ∧ m ≤ 4 := ⟨⟨hf.1.1, hf.1.2.1⟩, hf.1.2.2⟩
  have HF := Lib.hid hf; have O3 := Lib.hid o3
  obtain ⟨hs0, hs1⟩ := inCell_iff.1 o3
  clear hf o3 hR hA4 hsr
  obtain ⟨tb, tf, _, _, ea, ct0⟩ := RA.out.rowC (rect_tabOf n m f) (i := 0) (by omega)
  subst ea
  clear ct0
  obtain ⟨ob, of, _, _, _, eb, cb0, _⟩ := RO.out.atC false (rect_tabOf n m b') (i := 0) (j := 0) (by omega) (by omega)
  subst eb
  clear cb0
  obtain ⟨xb, xf, _, _, _, ex, cb0, _⟩ := RB.out.atC false (rect_tabOf n m b) (i := 0) (j := 0) (by omega) (by omega)
  subst ex
  clear cb0
  have HOUT : Hid (∀ (k l : Nat) (wx : World), Ext w4 wx → k < n → l < m → ∃ mb2 mf2 mk2, wx.cell? ⟨ob, of + k, none⟩ = some (.slice (some ⟨mb2, mf2, none⟩) m mk2) ∧ wx.cell? ⟨mb2, mf2 + l, none⟩ = some (.bool (b' k l))) := fun k l wx ex hk hl => by
    obtain ⟨_, _, mb2, mf2, mk2, e, c1, c2⟩ := (RO.out.ext ex).atC false (rect_tabOf n m b') (i := k) (j := l) hk hl
    rw [get_tabOf b' hk hl] at c2
    cases e
    exact ⟨mb2, mf2, mk2, c1, c2⟩
  have HMASK : Hid (∀ (k l : Nat) (wx : World), Ext w4 wx → k < n → l < m → ∃ mb2 mf2 mk2, wx.cell? ⟨xb, xf + k, none⟩ = some (.slice (some ⟨mb2, mf2, none⟩) m mk2) ∧ wx.cell? ⟨mb2, mf2 + l, none⟩ = some (.bool (b k l))) := fun k l wx ex hk hl => by
    obtain ⟨_, _, mb2, mf2, mk2, e, c1, c2⟩ := (RB.out.ext ex).atC false (rect_tabOf n m b) (i := k) (j := l) hk hl
    rw [get_tabOf b hk hl] at c2
    cases e
    exact ⟨mb2, mf2, mk2, c1, c2⟩
  have HTAB : Hid (∀ (k : Nat) (wx : World), Ext w4 wx → k < n → ∃ a2 ck2, wx.cell? ⟨tb, tf + k, none⟩ = some (.slice a2 m ck2)) := fun k wx ex hk => by
    obtain ⟨_, _, a2, ck2, ea, c2⟩ := (RA.out.ext ex).rowC (rect_tabOf n m f) hk
    cases ea
    exact ⟨a2, ck2, c2⟩
  obtain ⟨p, hp⟩ : ∃ p, newF b b' = p := ⟨_, rfl⟩
  have HNEW : Hid (∀ k l, p k l = (b' k l && !b k l)) := fun k l => by rw [← hp]; rfl
  have HMORE : Hid (∀ k l, b k l = true → b' k l = true) := HST.out.more
  have hcnt : 1 ≤ manyN n m p ∧ manyN n m p ≤ 4 := by rw [← hp]; exact ⟨HST.out.some, HST.out.four⟩
  have HCNT := Lib.hid hcnt
  have NEED : Hid (∀ (b2 : Nat → Nat → Bool) (mx : Option Addr) (dx : Nat) (w0 wx : World), Ext w4 w0 → Ext w0 wx → BRows wx mx (tabOf n m b2) → Calls Try.prog 17 #[.slice (some ⟨tb, tf, none⟩) n c, .slice b0 n cf, .slice mx n dx, .int .i64 s] wx (AddOut (manyN n m (notSafeF n m f g b2 s)) w0)) := fun b2 mx dx w0 wx e0 ex hb =>
    PatternNeed_tab _ b0 mx c cf dx n m s f g b2 w0 wx (RA.out.ext (e0.trans ex)) (RF.out.ext (e0.trans ex)) hb HF.out O3.out ex
  have hle := notSafe_more (g := g) (s := s) HF.out.pos (fun k l (_ : k < n) (_ : l < m) h => HMORE.out k l h)
  have hge := HST.out.need
  have hb1 := manyN_bd (notSafeF n m f g b s) hn4 hm4
  have hb2 := manyN_bd (notSafeF n m f g b' s) hn4 hm4
  obtain ⟨u, hu⟩ : ∃ u, manyN n m (notSafeF n m f g b s) = u := ⟨_, rfl⟩
  obtain ⟨v, hv⟩ : ∃ v, manyN n m (notSafeF n m f g b' s) = v := ⟨_, rfl⟩
  rw [hu] at hle hge hb1
  rw [hv] at hle hb2
  have HU := Lib.hid hu; have HV := Lib.hid hv; have HLE := Lib.hid hle; have HGE := Lib.hid hge
  clear hp hcnt hu hv hle hge hb1 hb2 HSR HST
  go_wp2_with fail
  go_loopg [11, 12] n (fun g' x i wr => ∃ k : Nat, k ≤ n ∧ g' = n - k ∧ i = .int .i64 k ∧ x = .int .i64 (sumN k (fun x => sumN m (one p x))) ∧ Ext w4 wr)
  case atStart => exact ⟨0, Nat.zero_le _, rfl, rfl, rfl, Ext.refl _⟩
  case round =>
    obtain ⟨k, hk, rfl, rfl, rfl, hext⟩ := hrel
    have hbase : sumN k (fun x => sumN m (one p x)) = sumN k (fun x => sumN m (one p x)) + sumN 0 (one p k) := by simp [sumN]
    have hk1 : sumN (k + 1) (fun x => sumN m (one p x)) = sumN k (fun x => sumN m (one p x)) + sumN m (one p k) := rfl
    have HK1 := Lib.hid hk1; have HBASE := Lib.hid hbase
    clear hk1 hbase
    by_cases hlt : k < n
    · have hz : (k : Int) < (n : Int) := by omega
      have HPB : Hid (∀ l, l ≤ m → 0 ≤ sumN k (fun x => sumN m (one p x)) + sumN l (one p k) ∧ sumN k (fun x => sumN m (one p x)) + sumN l (one p k) ≤ 20) := fun l hl => sumN_part k l (by omega) m hm4 hl
      obtain ⟨s0, hs00⟩ : ∃ s0, sumN k (fun x => sumN m (one p x)) = s0 := ⟨_, rfl⟩
      rw [hs00] at HPB HK1 HBASE ⊢
      clear hs00
      go_wp2_with fail
      go_loopg [11, 13] m (fun g' x i wi => ∃ l : Nat, l ≤ m ∧ g' = m - l ∧ i = .int .i64 l ∧ x = .int .i64 (s0 + sumN l (one p k)) ∧ Ext w4 wi)
      case atStart => exact ⟨0, Nat.zero_le _, rfl, rfl, by rw [← HBASE.out], hext⟩
      case round =>
        clear hext
        obtain ⟨l, hl, rfl, rfl, rfl, hext⟩ := hrel
        obtain ⟨a2, ck2, c2⟩ := HTAB.out k _ hext hlt
        by_cases hlt2 : l < m
        · have hlz : (l : Int) < (m : Int) := by omega
          obtain ⟨mb2, mf2, mk2, cm1, cm2⟩ := HMASK.out k l _ hext hlt hlt2
          obtain ⟨mb3, mf3, mk3, cx1, cx2⟩ := HOUT.out k l _ hext hlt hlt2
          have hone : sumN (l + 1) (one p k) = sumN l (one p k) + one p k l := rfl
          have hpb := HPB.out l hl
          have hnew := HNEW.out k l
          have hmore := HMORE.out k l
          obtain ⟨z, hzz⟩ : ∃ z, sumN l (one p k) = z := ⟨_, rfl⟩
          rw [hzz] at hone hpb ⊢
          obtain ⟨t0, ht0⟩ : ∃ t0, s0 + z = t0 := ⟨_, rfl⟩
          rw [ht0] at hpb ⊢
          have HT0 := Lib.hid ht0
          obtain ⟨hpb0, hpb1⟩ := hpb
          clear hzz ht0
          cases hb : b k l with
          | true =>
            have hb' := hmore hb
            rw [hb] at cm2
            rw [hb'] at cx2
            have h1 : one p k l = 0 := by unfold one; rw [hnew, hb, hb']; rfl
            rw [h1, Int.add_zero] at hone
            have HONE := Lib.hid hone
            clear hb hb' hmore hnew hone h1
            go_wp2_with fail
            go_roundg (m - (l + 1))
            case measure => omega
            case rel => exact ⟨l + 1, by omega, rfl, by go_num, by rw [HONE.out, HT0.out], hext⟩
          | false =>
            rw [hb] at cm2
            cases hb' : b' k l with
            | false =>
              rw [hb'] at cx2
              have h1 : one p k l = 0 := by unfold one; rw [hnew, hb, hb']; rfl
              rw [h1, Int.add_zero] at hone
              have HONE := Lib.hid hone
              clear hb hb' hmore hnew hone h1
              go_wp2_with fail
              go_roundg (m - (l + 1))
              case measure => omega
              case rel => exact ⟨l + 1, by omega, rfl, by go_num, by rw [HONE.out, HT0.out], hext⟩
            | true =>
              rw [hb'] at cx2
              have h1 : one p k l = 1 := by unfold one; rw [hnew, hb, hb']; rfl
              have hone2 : s0 + sumN (l + 1) (one p k) = t0 + 1 := by rw [hone, h1, ← Int.add_assoc, HT0.out]
              have HONE := Lib.hid hone2
              clear hb hb' hmore hnew hone hone2 h1
              go_wp2_with fail
              go_roundg (m - (l + 1))
              case measure => omega
              case rel => exact ⟨l + 1, by omega, rfl, by go_num, by rw [HONE.out], hext⟩
        · have hlz : ¬ (l : Int) < (m : Int) := by omega
          obtain rfl : l = m := by omega
          rw [← HK1.out]
          obtain ⟨z, hzz⟩ : ∃ z, sumN (k + 1) (fun x => sumN l (one p x)) = z := ⟨_, rfl⟩
          rw [hzz]
          have HZZ := Lib.hid hzz
          clear hzz
          go_wp2_with fail
          go_roundg (n - (k + 1))
          case measure => omega
          case rel => exact ⟨k + 1, by omega, rfl, by go_num, by rw [HZZ.out], hext⟩
    · have hz : ¬ (k : Int) < (n : Int) := by omega
      obtain rfl : k = n := by omega
      have hcnt : 1 ≤ sumN k (fun x => sumN m (one p x)) ∧ sumN k (fun x => sumN m (one p x)) ≤ 4 := HCNT.out
      obtain ⟨z, hzz⟩ : ∃ z, sumN k (fun x => sumN m (one p x)) = z := ⟨_, rfl⟩
      rw [hzz] at hcnt ⊢
      have g1 : ¬ z < 1 := by omega
      have g1b : decide (z < 1) = false := decide_eq_false g1
      have g2 : ¬ 4 < z := by omega
      have g2b : decide (4 < z) = false := decide_eq_false g2
      have g3 : ¬ u < v := by have := HLE.out; omega
      have g3b : decide (u < v) = false := decide_eq_false g3
      have g4 : (0 : Int) < u := by have := HGE.out; omega
      have g4b : decide ((0 : Int) < u) = true := decide_eq_true g4
      clear hzz hcnt HBASE HK1
      go_wp2_with fail
      refine (NEED.out b' _ _ wr wr hext (Ext.refl _) (RO.out.ext hext)).mono ?_
      rintro e w6 ⟨rfl, e6⟩
      rw [HV.out]
      go_wp2_with fail
      refine (NEED.out b _ _ w6 w6 (hext.trans e6) (Ext.refl _) (RB.out.ext (hext.trans e6))).mono ?_
      rintro e w7 ⟨rfl, e7⟩
      rw [HU.out]
      go_wp2_with fail
      refine (NEED.out b _ _ w7 w7 ((hext.trans e6).trans e7) (Ext.refl _) (RB.out.ext ((hext.trans e6).trans e7))).mono ?_
      rintro e w8 ⟨rfl, e8⟩
      rw [HU.out]
      go_wp2_with fail
      go_ret
      exact ⟨rfl, (((E4.trans hext).trans e6).trans e7).trans e8⟩
end Go.Proofs.Ytjkkedoncdeofaa
