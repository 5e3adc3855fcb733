/- How many first cells are not safe; whether a pattern is ok. -/
import Derived.Test.YtnlolgooicgfdaaSafe
namespace Go.Proofs.Ytnlolgooicgfdaa
open Go.RowKit Go.DC Go.Shelf
attribute [local go_sem] Oper.semAt_some
theorem PatternSafeX_any (a mb : Option Addr) (c d : Nat) (t : List (List Int)) (mk : List (List Bool)) (i j s : Int) (w : World) (ht : IRows w a t) (hmk : BRows w mb mk) (hm : t.length ≤ 9223372036854775807) (hm2 : mk.length ≤ 9223372036854775807) (_hi : -9223372036854775808 ≤ i ∧ i ≤ 9223372036854775807) (_hj : -9223372036854775808 ≤ j ∧ j ≤ 9223372036854775807) (_hs : -9223372036854775808 ≤ s ∧ s ≤ 9223372036854775807) :
    Calls Try.prog 52 #[.slice a t.length c, .slice mb mk.length d, .int .i64 i, .int .i64 j, .int .i64 s] w (Ret (.bool (safeV t mk i j s)) w) := PatternSafe_any a mb c d t mk i j s w ht hmk hm hm2
/-- What is asked of the arguments. -/
noncomputable def needOk (t : List (List Int)) (fm mk : List (List Bool)) (s : Int) : Bool := maskOk t fm && (maskOk t mk && inCell s)
noncomputable def needF (t : List (List Int)) (fm mk : List (List Bool)) (s : Int) : Nat → Nat → Bool := notSafe (get false fm) (fun i j => safeF t.length (wide t) (get 0 t) (get false mk) i j s)
theorem needV_no {t : List (List Int)} {fm mk : List (List Bool)} {s : Int} (h : needOk t fm mk s = false) : needV t fm mk s = -1 := by
  unfold needOk at h; unfold needV; rw [h]; rfl
theorem needV_yes {t : List (List Int)} {fm mk : List (List Bool)} {s : Int} (h : needOk t fm mk s = true) : needV t fm mk s = manyN t.length (wide t) (needF t fm mk s) := by
  unfold needOk at h; unfold needV; rw [h]; rfl
theorem needOk_iff {t : List (List Int)} {fm mk : List (List Bool)} {s : Int} : needOk t fm mk s = true ↔ maskOk t fm = true ∧ maskOk t mk = true ∧ inCell s = true := by
  unfold needOk; rw [Bool.and_eq_true, Bool.and_eq_true]
theorem needOk_no1 {t : List (List Int)} {fm mk : List (List Bool)} {s : Int} (h : maskOk t fm = false) : needOk t fm mk s = false := by unfold needOk; rw [h]; rfl
theorem needOk_no2 {t : List (List Int)} {fm mk : List (List Bool)} {s : Int} (h : maskOk t mk = false) : needOk t fm mk s = false := by unfold needOk; rw [h]; simp
theorem needOk_no3 {t : List (List Int)} {fm mk : List (List Bool)} {s : Int} (h : inCell s = false) : needOk t fm mk s = false := by unfold needOk; rw [h]; simp
/-- Four new boxes. -/
structure Box4 (W : World) (n : Nat) (T1 T2 T3 T4 : TypeId) (u1 u2 u3 u4 : Value) : Prop where
  b1 : Box W n T1 u1
  b2 : Box W (n + 1) T2 u2
  b3 : Box W (n + 1 + 1) T3 u3
  b4 : Box W (n + 1 + 1 + 1) T4 u4
  size : W.heap.size = n + 4
theorem box4 (w : World) (T1 T2 T3 T4 : TypeId) (u1 u2 u3 u4 : Value) : Box4 ((((w.alloc (.cells #[u1] T1)).alloc (.cells #[u2] T2)).alloc (.cells #[u3] T3)).alloc (.cells #[u4] T4)) w.heap.size T1 T2 T3 T4 u1 u2 u3 u4 := by
  have s1 : (w.alloc (.cells #[u1] T1)).heap.size = w.heap.size + 1 := by simp
  have s2 : ((w.alloc (.cells #[u1] T1)).alloc (.cells #[u2] T2)).heap.size = w.heap.size + 2 := by simp
  have s3 : (((w.alloc (.cells #[u1] T1)).alloc (.cells #[u2] T2)).alloc (.cells #[u3] T3)).heap.size = w.heap.size + 3 := by simp
  have n1 := Box.new w T1 u1
  have n2 := Box.new (w.alloc (.cells #[u1] T1)) T2 u2
  have n3 := Box.new ((w.alloc (.cells #[u1] T1)).alloc (.cells #[u2] T2)) T3 u3
  have n4 := Box.new (((w.alloc (.cells #[u1] T1)).alloc (.cells #[u2] T2)).alloc (.cells #[u3] T3)) T4 u4
  rw [s1] at n2
  rw [s2] at n3
  rw [s3] at n4
  exact ⟨((n1.ext ((Ext.refl _).alloc _)).ext ((Ext.refl _).alloc _)).ext ((Ext.refl _).alloc _), (n2.ext ((Ext.refl _).alloc _)).ext ((Ext.refl _).alloc _), n3.ext ((Ext.refl _).alloc _), n4, by simp⟩
set_option maxHeartbeats 4000000 in
theorem sPatternNeed_any (a b b' : Option Addr) (c d d' : Nat) (t : List (List Int)) (fm mk : List (List Bool)) (s : Int) (w : World) (ht : IRows w a t) (hfm : BRows w b fm) (hmk : BRows w b' mk) (hm : t.length ≤ 9223372036854775807) (hm1 : fm.length ≤ 9223372036854775807) (hm2 : mk.length ≤ 9223372036854775807) (_hs : -9223372036854775808 ≤ s ∧ s ≤ 9223372036854775807) :
    Calls Try.prog 35 #[.slice a t.length c, .slice b fm.length d, .slice b' mk.length d', .int .i64 s] w (Ret (.int .i64 (needV t fm mk s)) w) := by
  have HT := Lib.hid ht; clear ht
  have HF := Lib.hid hfm; clear hfm
  have HM := Lib.hid hmk; clear hmk
  go_enter Try.func35, Try.ntmps35
  go_wp2_with fail
  refine (sMaskValid_any _ _ _ _ t fm _ HT.out HF.out hm hm1).mono ?_
  rintro e w1 ⟨rfl, e1⟩
  cases o1 : maskOk t fm
  · have HD := Lib.hid (needV_no (needOk_no1 (mk := mk) (s := s) o1)); clear o1
    go_wp2_with fail
    go_ret
    exact ⟨by rw [HD.out]; rfl, e1⟩
  go_wp2_with fail
  refine (sMaskValid_any _ _ _ _ t mk _ (HT.out.ext e1) (HM.out.ext e1) hm hm2).mono ?_
  rintro e w2 ⟨rfl, e2⟩
  cases o2 : maskOk t mk
  · have HD := Lib.hid (needV_no (needOk_no2 (fm := fm) (s := s) o2)); clear o1 o2
    go_wp2_with fail
    go_ret
    exact ⟨by rw [HD.out]; rfl, e1.trans e2⟩
  have hin : inBt s 0 99 = inCell s := rfl
  cases o3 : inCell s
  · have HD := Lib.hid (needV_no (needOk_no3 (t := t) (fm := fm) (mk := mk) o3))
    have O3 := Lib.hid (hin.trans o3)
    clear o1 o2 o3 hin
    go_wp2_with fail
    refine (l6InT_any _ _ _ _).mono ?_
    rintro e w3 ⟨rfl, rfl⟩
    rw [O3.out]
    go_wp2_with fail
    go_ret
    exact ⟨by rw [HD.out]; rfl, e1.trans e2⟩
  obtain ⟨h1, h4, m1, m4⟩ := maskOk_lens o1
  have hv := needV_yes (needOk_iff.2 ⟨o1, o2, o3⟩)
  have O3 := Lib.hid (hin.trans o3)
  have R := Lib.hid (tabOk_rect (maskOk_rect o1).1).1
  have RF := Lib.hid (maskOk_rect o1).2
  obtain ⟨g, hg⟩ : ∃ g, get false fm = g := ⟨_, rfl⟩
  obtain ⟨q, hq⟩ : ∃ q, (fun i j => safeF t.length (wide t) (get 0 t) (get false mk) i j s) = q := ⟨_, rfl⟩
  unfold needF at hv
  rw [hg, hq] at hv
  have E12 := e1.trans e2
  obtain ⟨b0, off0, a0, c0, ea0, hc0⟩ := (HT.out.ext E12).rowC R.out (i := 0) (by omega)
  subst ea0
  simp only [Nat.add_zero] at hc0
  obtain ⟨H, hH⟩ : ∃ H, t.length = H := ⟨_, rfl⟩
  obtain ⟨M, hM⟩ : ∃ M, wide t = M := ⟨_, rfl⟩
  have HSAFE : Hid (∀ (k l : Nat) (wx : World), Ext w2 wx → k < H → l < M → Calls Try.prog 62 #[.slice (some ⟨b0, off0, none⟩) t.length c, .slice b' mk.length d', .int .i64 k, .int .i64 l, .int .i64 s] wx (Ret (.bool (q k l)) wx)) := fun k l wx ex hk hl => by
    rw [← hq]
    exact l14Safe_any _ _ _ _ t mk k l s wx (HT.out.ext (E12.trans ex)) (HM.out.ext (E12.trans ex)) o2 (by omega) (by omega) o3
  have HFLAG : Hid (∀ (k l : Nat) (wx : World), Ext w2 wx → k < H → l < M → ∃ nb mf mb2 mf2 mk2, b = some ⟨nb, mf, none⟩ ∧ wx.cell? ⟨nb, mf + k, none⟩ = some (.slice (some ⟨mb2, mf2, none⟩) M mk2) ∧ wx.cell? ⟨mb2, mf2 + l, none⟩ = some (.bool (g k l))) := fun k l wx ex hk hl => by
    obtain ⟨nb, mf, mb2, mf2, mk2, e, c1, c2⟩ := (HF.out.ext (E12.trans ex)).atC false RF.out (i := k) (j := l) (by omega) (by omega)
    rw [hM] at c1
    rw [hg] at c2
    exact ⟨nb, mf, mb2, mf2, mk2, e, c1, c2⟩
  have hfl : fm.length = H := by rw [← hH]; exact RF.out.1
  rw [hM] at hc0 m1 m4 hv
  rw [hH] at h1 h4 hv HSAFE
  rw [hH, hfl]
  have HV := Lib.hid hv; have EE := Lib.hid E12
  have h0z : (0 : Int) < (H : Int) := by omega
  clear o1 o2 o3 hv hq hg hH hM hin e1 e2 E12 hm hm1 hm2 hfl
  go_wp2_with fail
  refine (l6InT_any _ _ _ _).mono ?_
  rintro e w3 ⟨rfl, rfl⟩
  rw [O3.out]
  go_wp2_with fail
  go_loopg [9, 10] H (fun g' s i wr => ∃ k : Nat, k ≤ H ∧ g' = H - k ∧ i = .int .i64 k ∧ s = .int .i64 (sumN k (fun i => sumN M (one (notSafe g q) i))) ∧ Ext w2 wr)
  case atStart => exact ⟨0, Nat.zero_le _, rfl, rfl, rfl, Ext.refl _⟩
  case round =>
    obtain ⟨k, hk, rfl, rfl, rfl, hext⟩ := hrel
    by_cases hlt : k < H
    · have hz : (k : Int) < (H : Int) := by omega
      have hub : 0 ≤ sumN k (fun i => sumN M (one (notSafe g q) i)) ∧ sumN k (fun i => sumN M (one (notSafe g q) i)) ≤ 16 := manyN_bd (notSafe g q) (h := k) (m := M) (by omega) m4
      have hsn : sumN (k + 1) (fun i => sumN M (one (notSafe g q) i)) = sumN k (fun i => sumN M (one (notSafe g q) i)) + sumN M (one (notSafe g q) k) := rfl
      obtain ⟨u, hu⟩ : ∃ u, sumN k (fun i => sumN M (one (notSafe g q) i)) = u := ⟨_, rfl⟩
      rw [hu] at hub hsn ⊢
      have HSN := Lib.hid hsn
      obtain ⟨hub0, hub1⟩ := hub
      clear hu hsn
      go_wp2_with fail
      go_loopg [9, 11] M (fun g' s i wi => ∃ l : Nat, l ≤ M ∧ g' = M - l ∧ i = .int .i64 l ∧ s = .int .i64 (u + sumN l (one (notSafe g q) k)) ∧ Ext w2 wi)
      case atStart => exact ⟨0, Nat.zero_le _, rfl, rfl, by simp [sumN], hext⟩
      case round =>
        clear hext
        obtain ⟨l, hl, rfl, rfl, rfl, hext⟩ := hrel
        have hc0' := hext.cell hc0
        by_cases hlt2 : l < M
        · have hlz : (l : Int) < (M : Int) := by omega
          obtain ⟨nb, mf, mb2, mf2, mk2, rfl, cm1, cm2⟩ := HFLAG.out k l _ hext hlt hlt2
          have hvb : 0 ≤ sumN l (one (notSafe g q) k) ∧ sumN l (one (notSafe g q) k) ≤ 4 := by
            refine ⟨sumN_nonneg fun j _ => (one_bd (notSafe g q) k j).1, ?_⟩
            have e : sumN l (one (notSafe g q) k) ≤ sumN l (fun _ => 1) := sumN_le fun j _ => (one_bd (notSafe g q) k j).2
            rw [sumN_const] at e; omega
          have hsl : sumN (l + 1) (one (notSafe g q) k) = sumN l (one (notSafe g q) k) + one (notSafe g q) k l := rfl
          obtain ⟨v, hv⟩ : ∃ v, sumN l (one (notSafe g q) k) = v := ⟨_, rfl⟩
          rw [hv] at hvb hsl ⊢
          obtain ⟨hvb0, hvb1⟩ := hvb
          clear hv
          cases hg : g k l with
          | false =>
            rw [hg] at cm2
            have h1' : one (notSafe g q) k l = 0 := by unfold one notSafe; rw [hg]; rfl
            rw [h1', Int.add_zero] at hsl
            have HSL := Lib.hid hsl
            clear hsl h1' hg
            go_wp2_with fail
            go_roundg (M - (l + 1))
            case measure => omega
            case rel => exact ⟨l + 1, by omega, rfl, by go_num, by rw [HSL.out], hext⟩
          | true =>
            rw [hg] at cm2
            cases hq : q k l with
            | false =>
              have h1' : one (notSafe g q) k l = 1 := by unfold one notSafe; rw [hg, hq]; rfl
              rw [h1'] at hsl
              have HSL := Lib.hid hsl; have HQ := Lib.hid hq
              clear hsl h1' hq hg
              go_wp2_with fail
              refine (HSAFE.out k l _ hext hlt hlt2).mono ?_
              rintro e w4 ⟨rfl, e4⟩
              rw [HQ.out]
              go_wp2_with fail
              go_roundg (M - (l + 1))
              case measure => omega
              case rel => exact ⟨l + 1, by omega, rfl, by go_num, by rw [HSL.out, Int.add_assoc], hext.trans e4⟩
            | true =>
              have h1' : one (notSafe g q) k l = 0 := by unfold one notSafe; rw [hg, hq]; rfl
              rw [h1', Int.add_zero] at hsl
              have HSL := Lib.hid hsl; have HQ := Lib.hid hq
              clear hsl h1' hq hg
              go_wp2_with fail
              refine (HSAFE.out k l _ hext hlt hlt2).mono ?_
              rintro e w4 ⟨rfl, e4⟩
              rw [HQ.out]
              go_wp2_with fail
              go_roundg (M - (l + 1))
              case measure => omega
              case rel => exact ⟨l + 1, by omega, rfl, by go_num, by rw [HSL.out], hext.trans e4⟩
        · have hlz : ¬ (l : Int) < (M : Int) := by omega
          obtain rfl : l = M := by omega
          go_wp2_with fail
          go_roundg (H - (k + 1))
          case measure => omega
          case rel => exact ⟨k + 1, by omega, rfl, by go_num, by rw [HSN.out], hext⟩
    · have hz : ¬ (k : Int) < (H : Int) := by omega
      obtain rfl : k = H := by omega
      go_wp2_with fail
      go_ret
      exact ⟨ret_int HV.out.symm, EE.out.trans hext⟩
set_option maxHeartbeats 1000000 in
theorem sPatternOk_any (a b b' : Option Addr) (c d d' : Nat) (t : List (List Int)) (fm mk : List (List Bool)) (s : Int) (w : World) (ht : IRows w a t) (hfm : BRows w b fm) (hmk : BRows w b' mk) (hm : t.length ≤ 9223372036854775807) (hm1 : fm.length ≤ 9223372036854775807) (hm2 : mk.length ≤ 9223372036854775807) (hs : -9223372036854775808 ≤ s ∧ s ≤ 9223372036854775807) :
    Calls Try.prog 37 #[.slice a t.length c, .slice b fm.length d, .slice b' mk.length d', .int .i64 s] w (Ret (.bool (decide (needV t fm mk s = 0))) w) := by
  go_enter Try.func37, Try.ntmps37
  go_wp2_with fail
  refine (sPatternNeed_any _ _ _ _ _ _ t fm mk s _ ht hfm hmk hm hm1 hm2 hs).mono ?_
  rintro e w1 ⟨rfl, e1⟩
  obtain ⟨u, hu⟩ : ∃ u, needV t fm mk s = u := ⟨_, rfl⟩
  rw [hu]
  have HU := Lib.hid hu
  clear hu
  go_wp2_with fail
  go_ret
  exact ⟨ret_bool (by rw [HU.out, Bool.eq_iff_iff]; simp), e1⟩
set_option maxRecDepth 100000 in
set_option maxHeartbeats 4000000 in
theorem PatternNeed_any (a b b' : Option Addr) (c d d' : Nat) (t : List (List Int)) (fm mk : List (List Bool)) (s : Int) (w : World) (ht : IRows w a t) (hfm : BRows w b fm) (hmk : BRows w b' mk) (hm : t.length ≤ 9223372036854775807) (hm1 : fm.length ≤ 9223372036854775807) (hm2 : mk.length ≤ 9223372036854775807) (_hs : -9223372036854775808 ≤ s ∧ s ≤ 9223372036854775807) :
    Calls Try.prog 33 #[.slice a t.length c, .slice b fm.length d, .slice b' mk.length d', .int .i64 s] w (Ret (.int .i64 (needV t fm mk s)) w) := by
  have HT := Lib.hid ht; clear ht
  have HF := Lib.hid hfm; clear hfm
  have HM := Lib.hid hmk; clear hmk
  refine (callsIn_wide (n := 9)).1 ?_
  refine callsIn_of_wp_marks Try.func33 rfl trivial ?_ rfl
  simp only [Try.ntmps33, List.size_toArray, List.length_cons, List.length_nil, Nat.reduceAdd, Nat.reduceSub, Array.replicate_succ, Array.replicate_zero, List.push_toArray, List.append_toArray, List.nil_append, List.cons_append]
  gi_wp2_with fail
  have e0 : Ext w ((((w.alloc (.cells #[.slice a t.length c] 23)).alloc (.cells #[.slice b fm.length d] 24)).alloc (.cells #[.slice b' mk.length d'] 24)).alloc (.cells #[.int .i64 s] 3)) := ((((Ext.refl w).alloc _).alloc _).alloc _).alloc _
  have x4 : Box4 _ w.heap.size 23 24 24 3 (.slice a t.length c) (.slice b fm.length d) (.slice b' mk.length d') (.int .i64 s) := box4 w _ _ _ _ _ _ _ _
  obtain ⟨W0, hW0⟩ : ∃ W0, (((w.alloc (.cells #[.slice a t.length c] 23)).alloc (.cells #[.slice b fm.length d] 24)).alloc (.cells #[.slice b' mk.length d'] 24)).alloc (.cells #[.int .i64 s] 3) = W0 := ⟨_, rfl⟩
  rw [hW0] at e0 x4 ⊢
  clear hW0
  have hs0 := x4.size
  have HS0 := Lib.hid hs0; clear hs0
  have cT := x4.b1.cell; have cF := x4.b2.cell; have cM := x4.b3.cell; have cS := x4.b4.cell
  refine ⟨trivial, (callsIn_wide.2 (MaskValid_any _ _ _ _ t fm _ (HT.out.ext e0) (HF.out.ext e0) hm hm1)).mono ?_⟩
  rintro e w' ⟨rfl, rfl⟩
  cases o1 : maskOk t fm
  · have HD := Lib.hid (needV_no (needOk_no1 (mk := mk) (s := s) o1)); clear o1
    gi_wp2_with fail
    refine ⟨trivial, ?_⟩
    gi_wp2_with fail
    refine ⟨trivial, ?_⟩
    gi_wp2_with fail
    exact leave1 rfl ⟨by rw [HD.out]; rfl, e0⟩
  gi_wp2_with fail
  refine ⟨trivial, (callsIn_wide.2 (MaskValid_any _ _ _ _ t mk _ (HT.out.ext e0) (HM.out.ext e0) hm hm2)).mono ?_⟩
  rintro e w' ⟨rfl, rfl⟩
  cases o2 : maskOk t mk
  · have HD := Lib.hid (needV_no (needOk_no2 (fm := fm) (s := s) o2)); clear o1 o2
    gi_wp2_with fail
    refine ⟨trivial, ?_⟩
    gi_wp2_with fail
    exact leave1 rfl ⟨by rw [HD.out]; rfl, e0⟩
  cases o3 : inCell s
  · have HD := Lib.hid (needV_no (needOk_no3 (t := t) (fm := fm) (mk := mk) o3))
    have O3 := Lib.hid o3
    clear o1 o2 o3
    gi_wp2_with fail
    refine ⟨trivial, (callsIn_wide.2 (isCell_any _ _)).mono ?_⟩
    rintro e w' ⟨rfl, rfl⟩
    rw [O3.out]
    gi_wp2_with fail
    exact leave1 rfl ⟨by rw [HD.out]; rfl, e0⟩
  obtain ⟨h1, h4, m1, m4⟩ := maskOk_lens o1
  have hv := needV_yes (needOk_iff.2 ⟨o1, o2, o3⟩)
  have O3 := Lib.hid o3
  have R := Lib.hid (tabOk_rect (maskOk_rect o1).1).1
  have RF := Lib.hid (maskOk_rect o1).2
  obtain ⟨g, hg⟩ : ∃ g, get false fm = g := ⟨_, rfl⟩
  obtain ⟨q, hq⟩ : ∃ q, (fun i j => safeF t.length (wide t) (get 0 t) (get false mk) i j s) = q := ⟨_, rfl⟩
  unfold needF at hv
  rw [hg, hq] at hv
  have HSAFE : Hid (∀ (k l : Nat) (wx : World), Ext w wx → k < t.length → l < wide t → Calls Try.prog 52 #[.slice a t.length c, .slice b' mk.length d', .int .i64 k, .int .i64 l, .int .i64 s] wx (Ret (.bool (q k l)) wx)) := fun k l wx ex hk hl => by
    have := PatternSafe_any a b' c d' t mk k l s wx (HT.out.ext ex) (HM.out.ext ex) hm hm2
    rw [safeV_at o2 hk hl o3] at this
    rw [← hq]
    exact this
  have HFLAG : Hid (∀ (k l : Nat) (wx : World), Ext w wx → k < t.length → l < wide t → ∃ nb mf mb2 mf2 mk2, b = some ⟨nb, mf, none⟩ ∧ wx.cell? ⟨nb, mf + k, none⟩ = some (.slice (some ⟨mb2, mf2, none⟩) (wide t) mk2) ∧ wx.cell? ⟨mb2, mf2 + l, none⟩ = some (.bool (g k l))) := fun k l wx ex hk hl => by
    obtain ⟨nb, mf, mb2, mf2, mk2, e, c1, c2⟩ := (HF.out.ext ex).atC false RF.out (i := k) (j := l) hk hl
    rw [hg] at c2
    exact ⟨nb, mf, mb2, mf2, mk2, e, c1, c2⟩
  have hfl : fm.length = t.length := RF.out.1
  have HV := Lib.hid hv; have HFL := Lib.hid hfl
  have hw0 : w.heap.size < W0.heap.size := by have := HS0.out; omega
  have hw1 : w.heap.size + 1 < W0.heap.size := by have := HS0.out; omega
  clear o1 o2 o3 hv hq hg hm hm1 hm2 hfl
  gi_wp2_with fail
  refine ⟨trivial, (callsIn_wide.2 (isCell_any _ _)).mono ?_⟩
  rintro e w' ⟨rfl, rfl⟩
  rw [O3.out]
  gi_wp2_with fail
  have x1 : Ext W0 (W0.alloc (.cells #[.int .i64 0] 3)) := (Ext.refl W0).alloc _
  have bC := Box.new W0 3 (.int .i64 0)
  have bT1 := x4.b1.ext x1
  have bF1 := x4.b2.ext x1
  have bM1 := x4.b3.ext x1
  have bS1 := x4.b4.ext x1
  have e1 := e0.trans x1
  have hs1 : (W0.alloc (.cells #[.int .i64 0] 3)).heap.size = W0.heap.size + 1 := by simp
  obtain ⟨W1, hW1⟩ : ∃ W1, W0.alloc (.cells #[.int .i64 0] 3) = W1 := ⟨_, rfl⟩
  rw [hW1] at bC bT1 bF1 bM1 bS1 e1 hs1 ⊢
  clear hW1 x1 cT cF cM cS x4
  refine ⟨trivial, (cellsOf_in Fence.wide _ (wide_fn _) rfl _ _ _ _).mono ?_⟩
  rintro e w2 ⟨rfl, rfl⟩
  have x2 : Ext W1 (W1.alloc (.cells #[.slice a t.length c] 23)) := (Ext.refl W1).alloc _
  have bI := Box.new W1 23 (.slice a t.length c)
  have bT2 := bT1.ext x2
  have bF2 := bF1.ext x2
  have bM2 := bM1.ext x2
  have bS2 := bS1.ext x2
  have bC2 := bC.ext x2
  have e2 := e1.trans x2
  obtain ⟨W2, hW2⟩ : ∃ W2, W1.alloc (.cells #[.slice a t.length c] 23) = W2 := ⟨_, rfl⟩
  rw [hW2] at bI bT2 bF2 bM2 bS2 bC2 e2 ⊢
  have hcI := bI.cell
  obtain ⟨p0, hp0⟩ : ∃ p0, W0.heap.size = p0 := ⟨_, rfl⟩
  have hp0w : p0 = w.heap.size + 4 := by rw [← hp0]; exact HS0.out
  rw [hp0] at bC2 hs1 ⊢
  have HP0 := Lib.hid hp0w
  have hpw : w.heap.size + 4 ≤ p0 := by omega
  clear hW2 x2 bT1 bF1 bM1 bS1 bC hp0 hp0w e0
  gi_wp2_with fail
  refine wpIn_cells (by omega) w (p0 + 1) t.length (wide t) a c t HT.out R.out (by omega) (by omega) rfl e2 (by rw [← hs1]; exact hcI) rfl
    (fun pre W => Box W w.heap.size 23 (.slice a t.length c) ∧ Box W (w.heap.size + 1) 24 (.slice b fm.length d) ∧ Box W (w.heap.size + 1 + 1) 24 (.slice b' mk.length d') ∧ Box W (w.heap.size + 1 + 1 + 1) 3 (.int .i64 s) ∧ Box W p0 3 (.int .i64 (psum (one (notSafe g q)) pre)))
    (fun _ _ _ => False) (fun pre A B hs k => ⟨hs.1.cel k, hs.2.1.cel k, hs.2.2.1.cel k, hs.2.2.2.1.cel k, hs.2.2.2.2.cel k⟩) (fun _ _ _ _ hs _ => hs.elim)
    ⟨bT2, bF2, bM2, bS2, bC2⟩
    ?round ?done ?stop
  case round =>
    clear bT2 bF2 bM2 bS2 bC2 hcI
    intro l x W K hK
    have HK := Lib.hid hK; clear hK
    gi_wp2_with fail
    refine HK.out _ ?_
    clear HK K
    rintro l' pre W' ⟨b1, b2, b3, b4, b5⟩ hE hlt
    obtain ⟨⟨i, j⟩, hi, hj⟩ := x
    dsimp only at hi hj ⊢
    have hn : pre.length < 16 := by
      have h2 : t.length * wide t ≤ 4 * 4 := Nat.mul_le_mul (by omega) (by omega)
      omega
    have hpb := psum_bound (g := one (notSafe g q)) (B := 1) (fun k l _ _ => by have := one_bd (notSafe g q) k l; omega) pre
    have hnext : psum (one (notSafe g q)) (pre ++ [(⟨(i, j), hi, hj⟩ : Cell t.length (wide t))]) = psum (one (notSafe g q)) pre + one (notSafe g q) i j := by rw [psum_app, psum_one]
    obtain ⟨u, hu⟩ : ∃ u, psum (one (notSafe g q)) pre = u := ⟨_, rfl⟩
    rw [hu] at hpb hnext b5
    obtain ⟨hpb0, hpb1⟩ := hpb
    obtain ⟨nb, mf, mb2, mf2, mk2, rfl, cm1, cm2⟩ := HFLAG.out i j W' hE hi hj
    have hiz : (i : Int) < (fm.length : Int) := by rw [HFL.out]; omega
    have hjz : (j : Int) < (wide t : Int) := by omega
    have cb1 := b1.cell; have cb2 := b2.cell; have cb3 := b3.cell; have cb4 := b4.cell
    have B1 := Lib.hid b1; have B2 := Lib.hid b2; have B3 := Lib.hid b3; have B4 := Lib.hid b4; have B5 := Lib.hid b5; have HEE := Lib.hid hE
    have hsz : w.heap.size ≤ W'.heap.size := hE.size
    clear b1 b2 b3 b4 b5
    cases hg : g i j with
    | false =>
      rw [hg] at cm2
      have h1' : one (notSafe g q) i j = 0 := by unfold one notSafe; rw [hg]; rfl
      rw [h1', Int.add_zero] at hnext
      have HN := Lib.hid hnext
      clear hnext hg hu h1' hE
      gi_wp2_with fail
      refine ⟨trivial, ?_⟩
      gi_wp2_with fail
      have hst : Stp w.heap.size W2.heap.size W' W' := Stp.refl _ _ _
      exact ⟨hst.from_, hst.below, ⟨B1.out, B2.out, B3.out, B4.out, by rw [HN.out]; exact B5.out⟩, HEE.out⟩
    | true =>
      rw [hg] at cm2
      cases hq : q i j with
      | false =>
        have h1' : one (notSafe g q) i j = 1 := by unfold one notSafe; rw [hg, hq]; rfl
        rw [h1'] at hnext
        have HN := Lib.hid hnext; have HQ := Lib.hid hq
        clear hnext hg hq hu h1' hE
        gi_wp2_with fail
        refine ⟨trivial, CallsIn.inRound l' (callsIn_wide.2 ((HSAFE.out i j W' HEE.out hi hj).mono ?_))⟩
        rintro e w3 ⟨rfl, e3⟩
        rw [HQ.out]
        have b5' := B5.out.ext e3
        have cb5 := b5'.cell; have fb5 := b5'.frozen
        have B55 := Lib.hid b5'
        clear b5'
        gi_wp2_with fail
        have hst : Stp w.heap.size W2.heap.size W' (w3.setCell ⟨p0, 0, none⟩ (.int .i64 (u + 1))) := (Stp.of_ext e3 hsz).setCell (p := ⟨p0, 0, none⟩) (by show w.heap.size ≤ p0; omega) _
        exact ⟨hst.from_, hst.below, ⟨(B1.out.ext e3).other ⟨p0, 0, none⟩ _ (by show p0 ≠ w.heap.size; omega), (B2.out.ext e3).other ⟨p0, 0, none⟩ _ (by show p0 ≠ w.heap.size + 1; omega), (B3.out.ext e3).other ⟨p0, 0, none⟩ _ (by show p0 ≠ w.heap.size + 1 + 1; omega), (B4.out.ext e3).other ⟨p0, 0, none⟩ _ (by show p0 ≠ w.heap.size + 1 + 1 + 1; omega), by rw [HN.out]; exact B55.out.set _⟩, (HEE.out.trans e3).setCell (p := ⟨p0, 0, none⟩) (by show w.heap.size ≤ p0; omega) _⟩
      | true =>
        have h1' : one (notSafe g q) i j = 0 := by unfold one notSafe; rw [hg, hq]; rfl
        rw [h1', Int.add_zero] at hnext
        have HN := Lib.hid hnext; have HQ := Lib.hid hq
        clear hnext hg hq hu h1' hE
        gi_wp2_with fail
        refine ⟨trivial, CallsIn.inRound l' (callsIn_wide.2 ((HSAFE.out i j W' HEE.out hi hj).mono ?_))⟩
        rintro e w3 ⟨rfl, e3⟩
        rw [HQ.out]
        gi_wp2_with fail
        have hst : Stp w.heap.size W2.heap.size W' w3 := Stp.of_ext e3 hsz
        exact ⟨hst.from_, hst.below, ⟨B1.out.ext e3, B2.out.ext e3, B3.out.ext e3, B4.out.ext e3, by rw [HN.out]; exact B5.out.ext e3⟩, HEE.out.trans e3⟩
  case done =>
    rintro D W hD ⟨b1, b2, b3, b4, b5⟩ hE hK
    have cb5 := b5.cell
    have hDw : w.heap.size ≤ D := by have := e2.size; omega
    rw [psum_all] at cb5
    clear bT2 bF2 bM2 bS2 bC2
    gi_wp2_with fail
    exact leaveD1 hK rfl ⟨ret_int HV.out.symm, hE.taken hDw _⟩
  case stop =>
    intro D c pre W _ h _ _
    exact h.elim
set_option maxHeartbeats 1000000 in
theorem PatternOk_any (a b b' : Option Addr) (c d d' : Nat) (t : List (List Int)) (fm mk : List (List Bool)) (s : Int) (w : World) (ht : IRows w a t) (hfm : BRows w b fm) (hmk : BRows w b' mk) (hm : t.length ≤ 9223372036854775807) (hm1 : fm.length ≤ 9223372036854775807) (hm2 : mk.length ≤ 9223372036854775807) (hs : -9223372036854775808 ≤ s ∧ s ≤ 9223372036854775807) :
    Calls Try.prog 27 #[.slice a t.length c, .slice b fm.length d, .slice b' mk.length d', .int .i64 s] w (Ret (.bool (decide (needV t fm mk s = 0))) w) := by
  go_enter Try.func27, Try.ntmps27
  go_wp2_with fail
  refine (PatternNeed_any _ _ _ _ _ _ t fm mk s _ ht hfm hmk hm hm1 hm2 hs).mono ?_
  rintro e w1 ⟨rfl, e1⟩
  obtain ⟨u, hu⟩ : ∃ u, needV t fm mk s = u := ⟨_, rfl⟩
  rw [hu]
  have HU := Lib.hid hu
  clear hu
  go_wp2_with fail
  go_ret
  exact ⟨ret_bool (by rw [HU.out, Bool.eq_iff_iff]; simp), e1⟩
end Go.Proofs.Ytnlolgooicgfdaa
