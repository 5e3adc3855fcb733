/- A step of a pattern, as the reference makes it. -/
import Derived.Test.YtnlolgooicgfdaaStepLaw
namespace Go.Proofs.Ytnlolgooicgfdaa
open Go.RowKit Go.DC
theorem sumC_bd {n m : Nat} {f : Nat → Nat → Int} (hf : InT n m f) (b : Nat → Nat → Bool) {i j k l : Nat} (hi : i < n) (hj : j < m) (hk : k < n) (hl : l < m) (q : Nat) : 0 ≤ sumC f b i j k l q ∧ sumC f b i j k l q ≤ 99 := by
  have h1 : rowQ i k q < n := by unfold rowQ; split <;> assumption
  have h2 : colQ j l q < m := by unfold colQ; split <;> assumption
  have := hf.2 _ _ h1 h2
  unfold sumC; split <;> omega
theorem manyC_bd (b : Nat → Nat → Bool) (i j k l q : Nat) : 0 ≤ manyC b i j k l q ∧ manyC b i j k l q ≤ 1 := by unfold manyC; split <;> omega
theorem part_bd {g : Nat → Int} {B : Int} (hg : ∀ q, 0 ≤ g q ∧ g q ≤ B) (hB : 0 ≤ B) (n : Nat) (h4 : n ≤ 4) : 0 ≤ sumN n g ∧ sumN n g ≤ 4 * B := by
  refine ⟨sumN_nonneg fun q _ => (hg q).1, ?_⟩
  have e : sumN n g ≤ sumN n (fun _ => B) := sumN_le fun q _ => (hg q).2
  rw [sumN_const] at e
  have : (n : Int) * B ≤ 4 * B := Int.mul_le_mul_of_nonneg_right (by omega) hB
  omega
def NewOut (u v : Int) (w : World) (e : Ending) (w' : World) : Prop := e = .returned (.tuple #[.int .i64 u, .int .i64 v]) ∧ Ext w w'
set_option maxRecDepth 10000 in
set_option maxHeartbeats 4000000 in
theorem l14New_tab (a mb : Option Addr) (c d n m i j k l : Nat) (f : Nat → Nat → Int) (b : Nat → Nat → Bool) (w : World) (ht : IRows w a (tabOf n m f)) (hmk : BRows w mb (tabOf n m b)) (hf : InT n m f) (hi : i < n) (hj : j < m) (hk : k < n) (hl : l < m) :
    Calls Try.prog 64 #[.slice a n c, .slice mb n d, .int .i64 i, .int .i64 j, .int .i64 k, .int .i64 l] w (NewOut (sum4 f b i j k l) (many4 b i j k l) w) := by
  have HT := Lib.hid ht; have HM := Lib.hid hmk
  obtain ⟨W2, hW2⟩ : ∃ W2, (w.alloc (.cells #[.int .i64 i, .int .i64 i, .int .i64 k, .int .i64 k] 3)).alloc (.cells #[.int .i64 j, .int .i64 l, .int .i64 j, .int .i64 l] 3) = W2 := ⟨_, rfl⟩
  have e2 : Ext w W2 := by rw [← hW2]; exact ((Ext.refl w).alloc _).alloc _
  have hrow : ∀ q, q < 4 → W2.cell? ⟨w.heap.size, q, none⟩ = some (.int .i64 (rowQ i k q : Nat)) := fun q hq => by
    have : q = 0 ∨ q = 1 ∨ q = 2 ∨ q = 3 := by omega
    rw [← hW2]
    rcases this with rfl | rfl | rfl | rfl <;> simp [go_sem, rowQ]
  have hcol : ∀ q, q < 4 → W2.cell? ⟨w.heap.size + 1, q, none⟩ = some (.int .i64 (colQ j l q : Nat)) := fun q hq => by
    have : q = 0 ∨ q = 1 ∨ q = 2 ∨ q = 3 := by omega
    rw [← hW2]
    rcases this with rfl | rfl | rfl | rfl <;> simp [go_sem, colQ]
  have HR := Lib.hid hrow; have HC := Lib.hid hcol
  have hsb := part_bd (sumC_bd hf b hi hj hk hl) (by omega)
  have hmb := part_bd (manyC_bd b i j k l) (by omega)
  have HS := Lib.hid hsb; have HMB := Lib.hid hmb; have HF := Lib.hid hf
  have hn4 : n ≤ 4 := hf.1.2.1
  have hm4 : m ≤ 4 := hf.1.2.2.2
  have hrb : ∀ q, rowQ i k q < n := fun q => by unfold rowQ; split <;> assumption
  have hcb : ∀ q, colQ j l q < m := fun q => by unfold colQ; split <;> assumption
  have HRB := Lib.hid hrb; have HCB := Lib.hid hcb
  clear ht hmk hrow hcol hsb hmb hf hrb hcb
  go_enter Try.func64, Try.ntmps64
  go_wp2_with fail
  try rw [hW2]
  have hW2s : W2.heap.size = w.heap.size + 2 := by rw [← hW2]; simp
  have HWS := Lib.hid hW2s
  clear hW2 hW2s
  go_loopg [14, 15, 18] 4 (fun g s t p wr => ∃ q : Nat, q ≤ 4 ∧ g = 4 - q ∧ p = .int .i64 q ∧ s = .int .i64 (sumN q (sumC f b i j k l)) ∧ t = .int .i64 (sumN q (manyC b i j k l)) ∧ Ext W2 wr)
  case atStart => exact ⟨0, Nat.zero_le _, rfl, rfl, rfl, rfl, Ext.refl _⟩
  case round =>
    obtain ⟨q, hq, rfl, rfl, rfl, rfl, hext⟩ := hrel
    by_cases hq4 : q < 4
    · have hqz : (q : Int) < 4 := by omega
      have c1 := hext.cell (HR.out q hq4)
      have c2 := hext.cell (HC.out q hq4)
      obtain ⟨x, hx⟩ : ∃ x, rowQ i k q = x := ⟨_, rfl⟩
      obtain ⟨y, hy⟩ : ∃ y, colQ j l q = y := ⟨_, rfl⟩
      have hxn := HRB.out q
      have hym := HCB.out q
      rw [hx] at c1 hxn
      rw [hy] at c2 hym
      obtain ⟨tb, tf, tb2, tf2, tk, rfl, ct1, ct2⟩ := (HT.out.ext (e2.trans hext)).atC 0 (rect_tabOf n m f) hxn hym
      obtain ⟨nb, mf, mb2, mf2, mk2, rfl, cm1, cm2⟩ := (HM.out.ext (e2.trans hext)).atC false (rect_tabOf n m b) hxn hym
      rw [get_tabOf f hxn hym] at ct2
      rw [get_tabOf b hxn hym] at cm2
      have hcl := HF.out.2 x y hxn hym
      have hs1 : sumN (q + 1) (sumC f b i j k l) = sumN q (sumC f b i j k l) + sumC f b i j k l q := rfl
      have hs2 : sumN (q + 1) (manyC b i j k l) = sumN q (manyC b i j k l) + manyC b i j k l q := rfl
      obtain ⟨hu0, hu1⟩ := HS.out q hq
      obtain ⟨hv0, hv1⟩ := HMB.out q hq
      have hc1 : sumC f b i j k l q = if b x y then 0 else f x y := by unfold sumC; rw [hx, hy]
      have hc2 : manyC b i j k l q = if b x y then 0 else 1 := by unfold manyC; rw [hx, hy]
      rw [hc1] at hs1
      rw [hc2] at hs2
      obtain ⟨u, hu⟩ : ∃ u, sumN q (sumC f b i j k l) = u := ⟨_, rfl⟩
      obtain ⟨v, hv⟩ : ∃ v, sumN q (manyC b i j k l) = v := ⟨_, rfl⟩
      obtain ⟨z, hz⟩ : ∃ z, f x y = z := ⟨_, rfl⟩
      rw [hu] at hs1 hu0 hu1 ⊢
      rw [hv] at hs2 hv0 hv1 ⊢
      rw [hz] at hs1 hcl ct2
      have hxz : (x : Int) < (n : Int) := by omega
      have hyz : (y : Int) < (m : Int) := by omega
      have hw1 : IntKind.i64.wrap (u + z) = u + z := IntWalk.i64_in _ (by omega)
      obtain ⟨hcl0, hcl1⟩ := hcl
      unfold encI at ct2
      unfold encB at cm2
      have HW1 := Lib.hid hw1
      clear hu hv hz hx hy hc1 hc2 hw1
      cases hb : b x y with
      | true =>
        rw [hb] at hs1 hs2 cm2
        have e1' : sumN (q + 1) (sumC f b i j k l) = u := by rw [hs1]; simp
        have e2' : sumN (q + 1) (manyC b i j k l) = v := by rw [hs2]; simp
        have E1 := Lib.hid e1'; have E2 := Lib.hid e2'
        clear hs1 hs2 e1' e2' hb
        go_wp2_with fail
        go_quiet (fail)
        go_wp2_with fail
        go_roundg (4 - (q + 1))
        case measure => omega
        case rel => exact ⟨q + 1, by omega, rfl, by go_num, by rw [E1.out], by rw [E2.out], hext.drewN _⟩
      | false =>
        rw [hb] at hs1 hs2 cm2
        have e1' : sumN (q + 1) (sumC f b i j k l) = u + z := by rw [hs1]; simp
        have e2' : sumN (q + 1) (manyC b i j k l) = v + 1 := by rw [hs2]; simp
        have E1 := Lib.hid e1'; have E2 := Lib.hid e2'
        clear hs1 hs2 e1' e2' hb
        go_wp2_with fail
        go_quiet (fail)
        go_wp2_with fail
        have hw1 := HW1.out
        go_quiet (fail)
        clear hw1
        go_wp2_with fail
        go_roundg (4 - (q + 1))
        case measure => omega
        case rel => exact ⟨q + 1, by omega, rfl, by go_num, by rw [E1.out], by rw [E2.out], hext.drewN _⟩
    · have hqz : ¬ (q : Int) < 4 := by omega
      obtain rfl : q = 4 := by omega
      go_wp2_with fail
      go_ret2
      exact ⟨rfl, e2.trans hext⟩
/-- The first cell with p. -/
def FirstOut (n m : Nat) (p : Nat → Nat → Bool) (w : World) (e : Ending) (w' : World) : Prop := ∃ i j : Nat, FirstAt n m p i j ∧ e = .returned (.tuple #[.int .i64 i, .int .i64 j]) ∧ Ext w w'
set_option maxRecDepth 10000 in
set_option maxHeartbeats 4000000 in
theorem l14First_tab (a b0 mb : Option Addr) (c c0 d n m : Nat) (s : Int) (f : Nat → Nat → Int) (g b : Nat → Nat → Bool) (w : World) (ht : IRows w a (tabOf n m f)) (hfm : BRows w b0 (tabOf n m g)) (hmk : BRows w mb (tabOf n m b)) (hf : InT n m f) (hs : inCell s = true) (h1 : 1 ≤ manyN n m (notSafeF n m f g b s)) :
    Calls Try.prog 63 #[.slice a n c, .slice b0 n c0, .slice mb n d, .int .i64 s] w (FirstOut n m (notSafeF n m f g b s) w) := by
  obtain ⟨q, hq⟩ : ∃ q, (fun i j => safeF n m f b i j s) = q := ⟨_, rfl⟩
  have hp : notSafeF n m f g b s = notSafe g q := by rw [← hq]; rfl
  rw [hp] at h1 ⊢
  have hw : wide (tabOf n m f) = m := wide_tabOf f (by have := hf.1; omega)
  have HSAFE : Hid (∀ (k l : Nat) (wx : World), Ext w wx → k < n → l < m → Calls Try.prog 62 #[.slice a n c, .slice mb n d, .int .i64 k, .int .i64 l, .int .i64 s] wx (Ret (.bool (q k l)) wx)) := fun k l wx ex hk hl => by
    have := l14Safe_any a mb c d (tabOf n m f) (tabOf n m b) k l s wx (ht.ext ex) (hmk.ext ex) (maskOk_tabOf hf) (by rw [tabOf_length]; exact hk) (by rw [hw]; exact hl) hs
    rw [tabOf_length, tabOf_length, hw, ← safeF_congr hf.pos hk hl (fun k l hk hl => (get_tabOf f hk hl).symm) (fun k l hk hl => (get_tabOf b hk hl).symm)] at this
    rw [← hq]
    exact this
  obtain ⟨⟨hn1, hn4⟩, hm1, hm4⟩ : (1 ≤ n ∧ n ≤ 4) ∧ 1 ≤ m ∧ m ≤ 4 := ⟨⟨hf.1.1, hf.1.2.1⟩, hf.1.2.2⟩
  have HFLAG : Hid (∀ (k l : Nat) (wx : World), Ext w wx → k < n → l < m → ∃ nb mf mb2 mf2 mk2, b0 = some ⟨nb, mf, none⟩ ∧ wx.cell? ⟨nb, mf + k, none⟩ = some (.slice (some ⟨mb2, mf2, none⟩) m mk2) ∧ wx.cell? ⟨mb2, mf2 + l, none⟩ = some (.bool (g k l))) := fun k l wx ex hk hl => by
    obtain ⟨nb, mf, mb2, mf2, mk2, e, c1, c2⟩ := (hfm.ext ex).atC false (rect_tabOf n m g) (i := k) (j := l) hk hl
    rw [get_tabOf g hk hl] at c2
    exact ⟨nb, mf, mb2, mf2, mk2, e, c1, c2⟩
  obtain ⟨bt, off0, a0, ct, ea0, hc0⟩ := ht.rowC (rect_tabOf n m f) (i := 0) (by omega)
  subst ea0
  simp only [Nat.add_zero] at hc0
  have h0z : (0 : Int) < (n : Int) := by omega
  have H1 := Lib.hid h1
  clear hq hp hw ht hfm hmk hf hs h1
  go_enter Try.func63, Try.ntmps63
  go_wp2_with fail
  go_loopg [10] n (fun g' i wr => ∃ k : Nat, k ≤ n ∧ g' = n - k ∧ i = .int .i64 k ∧ Hid (∀ x y, x < n → y < m → x < k → notSafe g q x y = false) ∧ Ext w wr)
  case atStart => exact ⟨0, Nat.zero_le _, rfl, rfl, fun x y _ _ h => absurd h (by omega), Ext.refl _⟩
  case round =>
    obtain ⟨k, hk, rfl, rfl, hall, hext⟩ := hrel
    by_cases hlt : k < n
    · have hz : (k : Int) < (n : Int) := by omega
      go_wp2_with fail
      go_loopg [11] m (fun g' i wi => ∃ l : Nat, l ≤ m ∧ g' = m - l ∧ i = .int .i64 l ∧ Hid (∀ x y, x < n → y < m → (x < k ∨ (x = k ∧ y < l)) → notSafe g q x y = false) ∧ Ext w wi)
      case atStart => exact ⟨0, Nat.zero_le _, rfl, rfl, fun x y hx hy h => hall.out x y hx hy (by omega), hext⟩
      case round =>
        clear hext hall
        obtain ⟨l, hl, rfl, rfl, hall, hext⟩ := hrel
        have hc0' := hext.cell hc0
        by_cases hlt2 : l < m
        · have hlz : (l : Int) < (m : Int) := by omega
          obtain ⟨nb, mf, mb2, mf2, mk2, rfl, cm1, cm2⟩ := HFLAG.out k l _ hext hlt hlt2
          have hnext : notSafe g q k l = false → ∀ x y, x < n → y < m → (x < k ∨ (x = k ∧ y < l + 1)) → notSafe g q x y = false := fun h0 x y hx hy h => by
            by_cases e : x = k ∧ y = l
            · rw [e.1, e.2]; exact h0
            · exact hall.out x y hx hy (by omega)
          have HN := Lib.hid hnext
          clear hnext
          cases hg : g k l with
          | false =>
            have h0 : notSafe g q k l = false := by unfold notSafe; rw [hg]; rfl
            rw [hg] at cm2
            have H0 := Lib.hid h0
            clear h0 hg
            go_wp2_with fail
            go_roundg (m - (l + 1))
            case measure => omega
            case rel => exact ⟨l + 1, by omega, rfl, by go_num, HN.out H0.out, hext⟩
          | true =>
            rw [hg] at cm2
            cases hq : q k l with
            | true =>
              have h0 : notSafe g q k l = false := by unfold notSafe; rw [hg, hq]; rfl
              have H0 := Lib.hid h0; have HQ := Lib.hid hq
              clear h0 hg hq
              go_wp2_with fail
              refine (HSAFE.out k l _ hext hlt hlt2).mono ?_
              rintro e w4 ⟨rfl, e4⟩
              rw [HQ.out]
              go_wp2_with fail
              go_roundg (m - (l + 1))
              case measure => omega
              case rel => exact ⟨l + 1, by omega, rfl, by go_num, HN.out H0.out, hext.trans e4⟩
            | false =>
              have h0 : notSafe g q k l = true := by unfold notSafe; rw [hg, hq]; rfl
              have H0 := Lib.hid h0; have HQ := Lib.hid hq
              clear h0 hg hq
              go_wp2_with fail
              refine (HSAFE.out k l _ hext hlt hlt2).mono ?_
              rintro e w4 ⟨rfl, e4⟩
              rw [HQ.out]
              go_wp2_with fail
              go_ret2
              exact ⟨k, l, ⟨hlt, hlt2, H0.out, hall.out⟩, rfl, hext.trans e4⟩
        · have hlz : ¬ (l : Int) < (m : Int) := by omega
          obtain rfl : l = m := by omega
          go_wp2_with fail
          go_roundg (n - (k + 1))
          case measure => omega
          case rel => exact ⟨k + 1, by omega, rfl, by go_num, fun x y hx hy h => hall.out x y hx hy (by omega), hext⟩
    · obtain rfl : k = n := by omega
      exfalso
      have := manyN_zero (h := k) (m := m) (p := notSafe g q) (fun x y hx hy => hall.out x y hx hy hx)
      have h2 := H1.out
      omega
def stR : Option (Nat × Nat) → Int | none => -1 | some x => x.1
def stC : Option (Nat × Nat) → Int | none => -1 | some x => x.2
def stB (f : Nat → Nat → Int) (b : Nat → Nat → Bool) (i j : Nat) : Option (Nat × Nat) → Int | none => 0 | some x => sum4 f b i j x.1 x.2
/-- What a step hands back. -/
def StepOut (n m : Nat) (f : Nat → Nat → Int) (g b : Nat → Nat → Bool) (s : Int) (w : World) (e : Ending) (w' : World) : Prop :=
  ∃ v vs r, e = .returned (.tuple #[v, .bool (Option.isSome r)]) ∧ StepR n m f g b s r ∧ OwnB w' w.heap.size v vs (match r with | some b' => tabOf n m b' | none => []) ∧ Ext w w'
theorem bestStep_yes {f : Nat → Nat → Int} {b : Nat → Nat → Bool} {i j k l : Nat} {st : Option (Nat × Nat)} (h1 : candB b i j k l = true) (h2 : lessB f b i j k l st = true) : bestStep f b i j k l st = some (k, l) := by unfold bestStep; rw [h1, h2]; rfl
theorem bestStep_no1 {f : Nat → Nat → Int} {b : Nat → Nat → Bool} {i j k l : Nat} {st : Option (Nat × Nat)} (h1 : candB b i j k l = false) : bestStep f b i j k l st = st := by unfold bestStep; rw [h1]; rfl
theorem bestStep_no2 {f : Nat → Nat → Int} {b : Nat → Nat → Bool} {i j k l : Nat} {st : Option (Nat × Nat)} (h2 : lessB f b i j k l st = false) : bestStep f b i j k l st = st := by unfold bestStep; rw [h2, Bool.and_false]; rfl
set_option maxRecDepth 10000 in
set_option maxHeartbeats 8000000 in
theorem sPatternStep_tab (a b0 mb : Option Addr) (c c0 d n m : Nat) (s : Int) (f : Nat → Nat → Int) (g b : Nat → Nat → Bool) (w : World) (ht : IRows w a (tabOf n m f)) (hfm : BRows w b0 (tabOf n m g)) (hmk : BRows w mb (tabOf n m b)) (hf : InT n m f) (hs : inCell s = true) :
    Calls Try.prog 38 #[.slice a n c, .slice b0 n c0, .slice mb n d, .int .i64 s] w (StepOut n m f g b s w) := by
  have HT := Lib.hid ht; have HFM := Lib.hid hfm; have HM := Lib.hid hmk; have HF := Lib.hid hf; have HS := Lib.hid hs
  obtain ⟨⟨hn1, hn4⟩, hm1, hm4⟩ : (1 ≤ n ∧ n ≤ 4) ∧ 1 ≤ m ∧ m ≤ 4 := ⟨⟨hf.1.1, hf.1.2.1⟩, hf.1.2.2⟩
  have NEED := sPatternNeed_any a b0 mb c c0 d (tabOf n m f) (tabOf n m g) (tabOf n m b) s w ht hfm hmk (by rw [tabOf_length]; omega) (by rw [tabOf_length]; omega) (by rw [tabOf_length]; omega) (by have := inCell_iff.1 hs; omega)
  rw [tabOf_length, tabOf_length, tabOf_length, needV_tab hf hs] at NEED
  have NEED' : Hid (Calls Try.prog 35 #[.slice a n c, .slice b0 n c0, .slice mb n d, .int .i64 s] w (Ret (.int .i64 (manyN n m (notSafeF n m f g b s))) w)) := NEED
  obtain ⟨u, hu⟩ : ∃ u, manyN n m (notSafeF n m f g b s) = u := ⟨_, rfl⟩
  rw [hu] at NEED'
  have HU := Lib.hid hu
  have E0 : Ext w (w.alloc (.cells #[] 42)) := (Ext.refl w).alloc _
  clear NEED ht hfm hmk hf hs hu E0
  go_enter Try.func38, Try.ntmps38
  go_wp2_with fail
  refine NEED'.out.mono ?_
  rintro e w1 ⟨rfl, e1⟩
  by_cases hu1 : u < 1
  · have hemp : OwnB (w1.alloc (.cells #[] 42)) w.heap.size (.slice (some ⟨w1.heap.size, 0, none⟩) 0 0) [] [] := (ownT_empty (enc := encB) (te := 4) (ts := 42) w1 (Nat.le_refl _)).base e1.size
    have HE := Lib.hid hemp
    clear hemp
    go_wp2_with fail
    go_ret2
    exact ⟨_, [], none, rfl, .inl ⟨by rw [HU.out]; exact hu1, rfl⟩, HE.out, e1.alloc _⟩
  have hu1b : decide (u < 1) = false := by simpa using hu1
  go_wp2_with fail
  refine (l14First_tab a b0 mb c c0 d n m s f g b w1 (HT.out.ext e1) (HFM.out.ext e1) (HM.out.ext e1) HF.out HS.out (by rw [HU.out]; omega)).mono ?_
  rintro e w2 ⟨i, j, hfirst, rfl, e2⟩
  have hi := hfirst.hi
  have hj := hfirst.hj
  have FA := Lib.hid hfirst
  have E2 := e1.trans e2
  obtain ⟨bt, off0, a0, ct, ea0, hc0⟩ := (HT.out.ext E2).rowC (rect_tabOf n m f) (i := 0) (by omega)
  subst ea0
  simp only [Nat.add_zero] at hc0
  have h0z : (0 : Int) < (n : Int) := by omega
  have HHELD : Hid (∀ k, k ≤ n → Held n m b i j (bestN f b i j m k)) := fun k hk => Held.all k hk
  have HSB : Hid (∀ k l, k < n → l < m → 0 ≤ sum4 f b i j k l ∧ sum4 f b i j k l ≤ 396 ∧ 0 ≤ many4 b i j k l ∧ many4 b i j k l ≤ 4) := fun k l hk hl => by
    have h1 := part_bd (sumC_bd HF.out b hi hj hk hl) (by omega) 4 (Nat.le_refl _)
    have h2 := part_bd (manyC_bd b i j k l) (by omega) 4 (Nat.le_refl _)
    unfold sum4 many4; omega
  clear hfirst e1 e2
  go_wp2_with fail
  go_loopg [12, 13, 14, 15] n (fun g' r cc bb i' wr => ∃ k : Nat, k ≤ n ∧ g' = n - k ∧ i' = .int .i64 k ∧ r = .int .i64 (stR (bestN f b i j m k)) ∧ cc = .int .i64 (stC (bestN f b i j m k)) ∧ bb = .int .i64 (stB f b i j (bestN f b i j m k)) ∧ Ext w2 wr)
  case atStart => exact ⟨0, Nat.zero_le _, rfl, rfl, rfl, rfl, rfl, Ext.refl _⟩
  case round =>
    obtain ⟨k, hk, rfl, rfl, rfl, rfl, rfl, hext⟩ := hrel
    have hheld0 := HHELD.out k hk
    have hnext : bestN f b i j m (k + 1) = bestR f b i j k (bestN f b i j m k) m := rfl
    obtain ⟨st0, hst0⟩ : ∃ st, bestN f b i j m k = st := ⟨_, rfl⟩
    rw [hst0] at hheld0 hnext ⊢
    have HN := Lib.hid hnext
    by_cases hlt : k < n
    · have hz : (k : Int) < (n : Int) := by omega
      have HH0 := Lib.hid hheld0
      clear hst0 hnext hheld0
      go_wp2_with fail
      go_loopg [12, 13, 14, 16] m (fun g' r cc bb i' wi => ∃ l : Nat, l ≤ m ∧ g' = m - l ∧ i' = .int .i64 l ∧ r = .int .i64 (stR (bestR f b i j k st0 l)) ∧ cc = .int .i64 (stC (bestR f b i j k st0 l)) ∧ bb = .int .i64 (stB f b i j (bestR f b i j k st0 l)) ∧ Ext w2 wi)
      case atStart => exact ⟨0, Nat.zero_le _, rfl, rfl, rfl, rfl, rfl, hext⟩
      case round =>
        clear hext
        obtain ⟨l, hl, rfl, rfl, rfl, rfl, rfl, hext⟩ := hrel
        have hc0' := hext.cell hc0
        have hheld := HH0.out.row (f := f) (k := k) hlt l hl
        have hstep : bestR f b i j k st0 (l + 1) = bestStep f b i j k l (bestR f b i j k st0 l) := rfl
        obtain ⟨st, hst⟩ : ∃ st, bestR f b i j k st0 l = st := ⟨_, rfl⟩
        rw [hst] at hheld hstep ⊢
        have HST := Lib.hid hst
        clear hst
        by_cases hlt2 : l < m
        · have hlz : (l : Int) < (m : Int) := by omega
          obtain ⟨hq0, hq1, hq2, hq3⟩ := HSB.out k l hlt hlt2
          have NEW := Lib.hid (l14New_tab (some ⟨bt, off0, none⟩) mb c d n m i j k l f b wr (HT.out.ext (E2.trans hext)) (HM.out.ext (E2.trans hext)) HF.out hi hj hlt hlt2)
          have hcand : candB b i j k l = ((!decide (k = i) && !decide (l = j)) && decide (0 < many4 b i j k l)) := rfl
          have hbb : ∀ r c', st = some (r, c') → 0 ≤ sum4 f b i j r c' ∧ sum4 f b i j r c' ≤ 396 := fun r c' e => by
            obtain ⟨h1, h2, _⟩ := hheld r c' e
            have := HSB.out r c' h1 h2
            omega
          obtain ⟨x, hx⟩ : ∃ x, sum4 f b i j k l = x := ⟨_, rfl⟩
          obtain ⟨y, hy⟩ : ∃ y, many4 b i j k l = y := ⟨_, rfl⟩
          rw [hx] at NEW hq0 hq1
          rw [hy] at NEW hq2 hq3 hcand
          have HXX := Lib.hid hx
          have HSTEP := Lib.hid hstep
          have HCA := Lib.hid hcand
          clear hx hy hstep hcand
          have fin : ∀ st', bestStep f b i j k l st = st' → bestR f b i j k st0 (l + 1) = st' := fun st' e => HSTEP.out.trans e
          have FIN := Lib.hid fin
          clear fin
          have key : (candB b i j k l = false ∧ (((k : Int) != (i : Int)) = false ∨ (((k : Int) != (i : Int)) = true ∧ ((l : Int) != (j : Int)) = false) ∨ (((k : Int) != (i : Int)) = true ∧ ((l : Int) != (j : Int)) = true ∧ decide (0 < y) = false)))
              ∨ (candB b i j k l = true ∧ ((k : Int) != (i : Int)) = true ∧ ((l : Int) != (j : Int)) = true ∧ decide (0 < y) = true) := by
            rw [HCA.out]
            by_cases e1 : k = i
            · exact .inl ⟨by simp [e1], .inl (by simp [e1])⟩
            · by_cases e2 : l = j
              · exact .inl ⟨by simp [e2], .inr (.inl ⟨by rw [bne_iff_ne]; omega, by simp [e2]⟩)⟩
              · by_cases e3 : 0 < y
                · exact .inr ⟨by simp [e1, e2, e3], by rw [bne_iff_ne]; omega, by rw [bne_iff_ne]; omega, by simp [e3]⟩
                · exact .inl ⟨by simp [e3], .inr (.inr ⟨by rw [bne_iff_ne]; omega, by rw [bne_iff_ne]; omega, by simp [e3]⟩)⟩
          rcases key with ⟨hc, hways⟩ | ⟨hc, g1, g2, g3⟩
          · have hno := FIN.out _ (bestStep_no1 hc)
            have HNO := Lib.hid hno
            clear hc hno
            obtain ⟨p1, hp1⟩ : ∃ p, stR st = p := ⟨_, rfl⟩
            obtain ⟨p2, hp2⟩ : ∃ p, stC st = p := ⟨_, rfl⟩
            obtain ⟨p3, hp3⟩ : ∃ p, stB f b i j st = p := ⟨_, rfl⟩
            rw [hp1, hp2, hp3]
            have HP1 := Lib.hid hp1; have HP2 := Lib.hid hp2; have HP3 := Lib.hid hp3
            clear hp1 hp2 hp3
            rcases hways with g1 | ⟨g1, g2⟩ | ⟨g1, g2, g3⟩
            all_goals
              go_wp2_with fail
              refine NEW.out.mono ?_
              rintro e w4 ⟨rfl, e4⟩
              go_wp2_with fail
              go_roundg (m - (l + 1))
              case measure => omega
              case rel => exact ⟨l + 1, by omega, rfl, by go_num, by rw [HNO.out, HP1.out], by rw [HNO.out, HP2.out], by rw [HNO.out, HP3.out], hext.trans e4⟩
          · cases st with
            | none =>
              have hyes := FIN.out _ (bestStep_yes hc rfl)
              have HYES := Lib.hid hyes
              clear hc hyes hbb hheld
              have r1 : stR none = -1 := rfl
              have r2 : stC none = -1 := rfl
              have r3 : stB f b i j none = 0 := rfl
              rw [r1, r2, r3]
              clear r1 r2 r3
              go_wp2_with fail
              refine NEW.out.mono ?_
              rintro e w4 ⟨rfl, e4⟩
              go_wp2_with fail
              go_roundg (m - (l + 1))
              case measure => omega
              case rel => exact ⟨l + 1, by omega, rfl, by go_num, by rw [HYES.out]; rfl, by rw [HYES.out]; rfl, by rw [HYES.out]; show _ = Value.int .i64 (sum4 f b i j k l); rw [HXX.out], hext.trans e4⟩
            | some rc =>
              obtain ⟨r, cc⟩ := rc
              have hz' := hbb r cc rfl
              have hrn := (hheld r cc rfl).1
              have r1 : stR (some (r, cc)) = (r : Int) := rfl
              have r2 : stC (some (r, cc)) = (cc : Int) := rfl
              have r3 : stB f b i j (some (r, cc)) = sum4 f b i j r cc := rfl
              rw [r1, r2, r3]
              obtain ⟨z, hz⟩ : ∃ z, sum4 f b i j r cc = z := ⟨_, rfl⟩
              have hlb : lessB f b i j k l (some (r, cc)) = decide (x < z) := by show decide (sum4 f b i j k l < sum4 f b i j r cc) = _; rw [HXX.out, hz]
              rw [hz] at hz' r3 ⊢
              have R3 := Lib.hid r3
              clear r1 r2 r3 hz hbb hheld
              have hr0 : ¬ (r : Int) < 0 := by omega
              have hr0b : decide ((r : Int) < 0) = false := decide_eq_false hr0
              by_cases hxz : x < z
              · have hyes := FIN.out _ (bestStep_yes hc (by rw [hlb]; exact decide_eq_true hxz))
                have HYES := Lib.hid hyes
                have hxzb : decide (x < z) = true := by simpa using hxz
                clear hc hyes hlb hr0
                go_wp2_with fail
                refine NEW.out.mono ?_
                rintro e w4 ⟨rfl, e4⟩
                go_wp2_with fail
                go_roundg (m - (l + 1))
                case measure => omega
                case rel => exact ⟨l + 1, by omega, rfl, by go_num, by rw [HYES.out]; rfl, by rw [HYES.out]; rfl, by rw [HYES.out]; show _ = Value.int .i64 (sum4 f b i j k l); rw [HXX.out], hext.trans e4⟩
              · have hno := FIN.out _ (bestStep_no2 (by rw [hlb]; exact decide_eq_false hxz))
                have HNO := Lib.hid hno
                have hxzb : decide (x < z) = false := by simpa using hxz
                clear hc hno hlb hr0
                go_wp2_with fail
                refine NEW.out.mono ?_
                rintro e w4 ⟨rfl, e4⟩
                go_wp2_with fail
                go_roundg (m - (l + 1))
                case measure => omega
                case rel => exact ⟨l + 1, by omega, rfl, by go_num, by rw [HNO.out]; rfl, by rw [HNO.out]; rfl, by rw [HNO.out, R3.out], hext.trans e4⟩
        · have hlz : ¬ (l : Int) < (m : Int) := by omega
          obtain rfl : l = m := by omega
          have h2 := HN.out.trans HST.out
          have H2 := Lib.hid h2
          clear hstep hheld h2
          obtain ⟨p1, hp1⟩ : ∃ p, stR st = p := ⟨_, rfl⟩
          obtain ⟨p2, hp2⟩ : ∃ p, stC st = p := ⟨_, rfl⟩
          obtain ⟨p3, hp3⟩ : ∃ p, stB f b i j st = p := ⟨_, rfl⟩
          rw [hp1, hp2, hp3]
          have HP1 := Lib.hid hp1; have HP2 := Lib.hid hp2; have HP3 := Lib.hid hp3
          clear hp1 hp2 hp3
          go_wp2_with fail
          go_roundg (n - (k + 1))
          case measure => omega
          case rel => exact ⟨k + 1, by omega, rfl, by go_num, by rw [H2.out, HP1.out], by rw [H2.out, HP2.out], by rw [H2.out, HP3.out], hext⟩
    · have hz : ¬ (k : Int) < (n : Int) := by omega
      obtain rfl : k = n := by omega
      have HST := Lib.hid hst0
      have hneed : 1 ≤ manyN k m (notSafeF k m f g b s) := by rw [HU.out]; omega
      have HNEED := Lib.hid hneed
      clear hnext hst0 hneed
      cases st0 with
      | none =>
        have r1 : stR none = -1 := rfl
        rw [r1]
        clear r1 hheld0
        have hemp : OwnB (wr.alloc (.cells #[] 42)) w.heap.size (.slice (some ⟨wr.heap.size, 0, none⟩) 0 0) [] [] := (ownT_empty (enc := encB) (te := 4) (ts := 42) wr (Nat.le_refl _)).base (E2.trans hext).size
        have HE := Lib.hid hemp
        clear hemp
        go_wp2_with fail
        go_ret2
        exact ⟨_, [], none, rfl, .inr ⟨i, j, FA.out, HNEED.out, by rw [HST.out]; rfl⟩, HE.out, (E2.trans hext).alloc _⟩
      | some rc =>
        obtain ⟨r, cc⟩ := rc
        obtain ⟨hrn, hcm, _⟩ := hheld0 r cc rfl
        have r1 : stR (some (r, cc)) = (r : Int) := rfl
        have r2 : stC (some (r, cc)) = (cc : Int) := rfl
        rw [r1, r2]
        have hr0 : ¬ (r : Int) < 0 := by omega
        have hr0b : decide ((r : Int) < 0) = false := decide_eq_false hr0
        have MK : Hid (Calls Try.prog 36 #[.slice mb k d] wr (CopyMask k m b wr)) := by
          have h := l14Mask_any mb d (tabOf k m b) wr (HM.out.ext (E2.trans hext)) (by rw [tabOf_length]; omega) (fun q hq => by rw [tabOf_rowlen]; omega)
          rw [tabOf_length] at h
          refine h.mono ?_
          rintro e w' ⟨v, vs, rfl, o, ex⟩
          obtain ⟨p, cp, _, _, ev, _⟩ := o.atC (i := 0) (j := 0) (by omega) (by omega)
          subst ev
          exact ⟨p, cp, vs, rfl, o, ex⟩
        have hiz : (i : Int) < (k : Int) := by omega
        have hjz : (j : Int) < (m : Int) := by omega
        have hrz : (r : Int) < (k : Int) := by omega
        have hcz : (cc : Int) < (m : Int) := by omega
        clear hheld0 r1 r2 hr0
        go_wp2_with fail
        refine MK.out.mono ?_
        rintro e w4 ⟨o, co, vs, rfl, own, e4⟩
        -- the four stores
        obtain ⟨_, _, g1, ck1, ev, _, c1, hg1, _, hvs1, cg1, fg1, _⟩ := own.atC (i := i) (j := j) hi hj
        cases ev
        have own1 := own.setC (j := j) hi hvs1 true
        obtain ⟨_, _, g2, ck2, ev, _, c2, hg2, _, hvs2, cg2, fg2, _⟩ := own1.atC (i := i) (j := cc) hi hcm
        cases ev
        have own2 := own1.setC (j := cc) hi hvs2 true
        obtain ⟨_, _, g3, ck3, ev, _, c3, hg3, _, hvs3, cg3, fg3, _⟩ := own2.atC (i := r) (j := j) hrn hj
        cases ev
        have own3 := own2.setC (j := j) hrn hvs3 true
        obtain ⟨_, _, g4, ck4, ev, _, c4, hg4, _, hvs4, cg4, fg4, _⟩ := own3.atC (i := r) (j := cc) hrn hcm
        cases ev
        have own4 := own3.setC (j := cc) hrn hvs4 true
        rw [set4_upd] at own4
        have x4 := (((e4.setCell (p := ⟨g1, j, none⟩) hg1 (encB true)).setCell (p := ⟨g2, cc, none⟩) hg2 (encB true)).setCell (p := ⟨g3, j, none⟩) hg3 (encB true)).setCell (p := ⟨g4, cc, none⟩) hg4 (encB true)
        unfold encB at cg1 cg2 c2 c3 c4 cg3 cg4 fg2 fg3 fg4 own4 x4
        have OW4 := Lib.hid own4; have X4 := Lib.hid x4
        clear own own1 own2 own3 own4 x4 hvs1 hvs2 hvs3 hvs4
        go_wp2_with fail
        go_ret2
        exact ⟨_, vs, some (set4 b i j r cc), rfl, .inr ⟨i, j, FA.out, HNEED.out, by rw [HST.out]; rfl⟩, OW4.out.base (E2.trans hext).size, (E2.trans hext).trans X4.out⟩
end Go.Proofs.Ytnlolgooicgfdaa
