/- Comparisons and copies that the laws and the reference use. -/
import Derived.Test.YtelcdjbbcffliaaTabCopyI
namespace Go.Proofs.Ytelcdjbbcffliaa
open Go.RowKit Go.DC
theorem eq_upto {α : Type} [DecidableEq α] {xs ys : List α} (hl : xs.length = ys.length) (h : ∀ k (h1 : k < xs.length) (h2 : k < ys.length), xs[k] = ys[k]) : xs = ys := List.ext_getElem hl h
set_option maxHeartbeats 1000000 in
theorem eqIntS_any (a b : Option Addr) (c d : Nat) (xs ys : List Int) (w : World) (hx : IRow w a xs) (hy : IRow w b ys) (hm : xs.length ≤ 9223372036854775807) (_hm2 : ys.length ≤ 9223372036854775807) :
    Calls Try.prog 62 #[.slice a xs.length c, .slice b ys.length d] w (Ret (.bool (decide (xs = ys))) w) := by
  have HX := Lib.hid hx; clear hx
  have HY := Lib.hid hy; clear hy
  by_cases hl : xs.length = ys.length
  · have hlb : ((xs.length : Int) != (ys.length : Int)) = false := by rw [hl]; simp
    have HL := Lib.hid hl; clear hl
    go_enter Try.func62, Try.ntmps62
    go_wp2_with fail
    go_loopg [5] xs.length (fun g i wr => ∃ k : Nat, k ≤ xs.length ∧ g = xs.length - k ∧ i = .int .i64 k ∧ (∀ j (h1 : j < xs.length) (h2 : j < ys.length), j < k → xs[j] = ys[j]) ∧ Ext w wr)
    case atStart => exact ⟨0, Nat.zero_le _, rfl, rfl, fun j _ _ h => absurd h (by omega), Ext.refl _⟩
    case round =>
      obtain ⟨k, hk, rfl, rfl, hsame, hext⟩ := hrel
      have HS := Lib.hid hsame; clear hsame
      by_cases hlt : k < xs.length
      · have hz : (k : Int) < (xs.length : Int) := by omega
        have hlt2 : k < ys.length := by rw [← HL.out]; exact hlt
        have hz2 : (k : Int) < (ys.length : Int) := by omega
        obtain ⟨g1, o1, rfl, c1⟩ := (HX.out.ext hext) k hlt
        obtain ⟨g2, o2, rfl, c2⟩ := (HY.out.ext hext) k hlt2
        unfold encI at c1 c2
        by_cases he : xs[k] = ys[k]
        · have hb : (xs[k] != ys[k]) = false := by rw [he]; simp
          have HE := Lib.hid he; clear he
          go_wp2_with fail
          go_quiet (fail)
          go_wp2_with fail
          go_roundg (xs.length - (k + 1))
          case measure => omega
          case rel => exact ⟨k + 1, by omega, rfl, by go_num, fun j h1 h2 hj => by
            by_cases e : j = k
            · subst e; exact HE.out
            · exact HS.out j h1 h2 (by omega), hext.drewN _⟩
        · have hb : (xs[k] != ys[k]) = true := by rw [bne_iff_ne]; exact he
          go_wp2_with fail
          go_quiet (fail)
          go_wp2_with fail
          go_ret
          exact ⟨ret_bool (decide_eq_false (fun e => he (by subst e; rfl))).symm, hext.drewN _⟩
      · have hz : ¬ (k : Int) < (xs.length : Int) := by omega
        go_wp2_with fail
        go_ret
        exact ⟨ret_bool (decide_eq_true (eq_upto HL.out (fun j h1 h2 => HS.out j h1 h2 (by omega)))).symm, hext⟩
  · have hlb : ((xs.length : Int) != (ys.length : Int)) = true := by rw [bne_iff_ne]; omega
    have hlb2 : ¬ (xs.length : Int) = (ys.length : Int) := by omega
    have hne : ¬ xs = ys := fun e => hl (by rw [e])
    have HN := Lib.hid hne; clear hne hl
    go_enter Try.func62, Try.ntmps62
    go_wp2_with fail
    go_ret
    exact ⟨ret_bool (decide_eq_false HN.out).symm, Ext.refl _⟩
set_option maxHeartbeats 1000000 in
theorem sameInts_any (a b : Option Addr) (c d : Nat) (xs ys : List Int) (w : World) (hx : IRow w a xs) (hy : IRow w b ys) (hm : xs.length ≤ 9223372036854775807) (_hm2 : ys.length ≤ 9223372036854775807) :
    Calls Try.prog 65 #[.slice a xs.length c, .slice b ys.length d] w (Ret (.bool (decide (xs = ys))) w) := by
  have HX := Lib.hid hx; clear hx
  have HY := Lib.hid hy; clear hy
  by_cases hl : xs.length = ys.length
  · have hlb : ((xs.length : Int) != (ys.length : Int)) = false := by rw [hl]; simp
    have HL := Lib.hid hl; clear hl
    go_enter Try.func65, Try.ntmps65
    go_wp2_with fail
    go_loopg [5] xs.length (fun g i wr => ∃ k : Nat, k ≤ xs.length ∧ g = xs.length - k ∧ i = .int .i64 k ∧ (∀ j (h1 : j < xs.length) (h2 : j < ys.length), j < k → xs[j] = ys[j]) ∧ Ext w wr)
    case atStart => exact ⟨0, Nat.zero_le _, rfl, rfl, fun j _ _ h => absurd h (by omega), Ext.refl _⟩
    case round =>
      obtain ⟨k, hk, rfl, rfl, hsame, hext⟩ := hrel
      have HS := Lib.hid hsame; clear hsame
      by_cases hlt : k < xs.length
      · have hz : (k : Int) < (xs.length : Int) := by omega
        have hlt2 : k < ys.length := by rw [← HL.out]; exact hlt
        have hz2 : (k : Int) < (ys.length : Int) := by omega
        obtain ⟨g1, o1, rfl, c1⟩ := (HX.out.ext hext) k hlt
        obtain ⟨g2, o2, rfl, c2⟩ := (HY.out.ext hext) k hlt2
        unfold encI at c1 c2
        by_cases he : xs[k] = ys[k]
        · have hb : (xs[k] != ys[k]) = false := by rw [he]; simp
          have HE := Lib.hid he; clear he
          go_wp2_with fail
          go_quiet (fail)
          go_wp2_with fail
          go_roundg (xs.length - (k + 1))
          case measure => omega
          case rel => exact ⟨k + 1, by omega, rfl, by go_num, fun j h1 h2 hj => by
            by_cases e : j = k
            · subst e; exact HE.out
            · exact HS.out j h1 h2 (by omega), hext.drewN _⟩
        · have hb : (xs[k] != ys[k]) = true := by rw [bne_iff_ne]; exact he
          go_wp2_with fail
          go_quiet (fail)
          go_wp2_with fail
          go_ret
          exact ⟨ret_bool (decide_eq_false (fun e => he (by subst e; rfl))).symm, hext.drewN _⟩
      · have hz : ¬ (k : Int) < (xs.length : Int) := by omega
        go_wp2_with fail
        go_ret
        exact ⟨ret_bool (decide_eq_true (eq_upto HL.out (fun j h1 h2 => HS.out j h1 h2 (by omega)))).symm, hext⟩
  · have hlb : ((xs.length : Int) != (ys.length : Int)) = true := by rw [bne_iff_ne]; omega
    have hlb2 : ¬ (xs.length : Int) = (ys.length : Int) := by omega
    have hne : ¬ xs = ys := fun e => hl (by rw [e])
    have HN := Lib.hid hne; clear hne hl
    go_enter Try.func65, Try.ntmps65
    go_wp2_with fail
    go_ret
    exact ⟨ret_bool (decide_eq_false HN.out).symm, Ext.refl _⟩
set_option maxHeartbeats 1000000 in
theorem eqIntSS_any (a b : Option Addr) (c d : Nat) (xs ys : List (List Int)) (w : World) (hx : IRows w a xs) (hy : IRows w b ys) (hm : xs.length ≤ 9223372036854775807) (_hm2 : ys.length ≤ 9223372036854775807) (hr : ∀ r ∈ xs, r.length ≤ 9223372036854775807) (hr2 : ∀ r ∈ ys, r.length ≤ 9223372036854775807) :
    Calls Try.prog 33 #[.slice a xs.length c, .slice b ys.length d] w (Ret (.bool (decide (xs = ys))) w) := by
  have HX := Lib.hid hx; clear hx
  have HY := Lib.hid hy; clear hy
  have HR := Lib.hid hr; clear hr
  have HR2 := Lib.hid hr2; clear hr2
  by_cases hl : xs.length = ys.length
  · have hlb : ((xs.length : Int) != (ys.length : Int)) = false := by rw [hl]; simp
    have HL := Lib.hid hl; clear hl
    go_enter Try.func33, Try.ntmps33
    go_wp2_with fail
    go_loopg [5] xs.length (fun g i wr => ∃ k : Nat, k ≤ xs.length ∧ g = xs.length - k ∧ i = .int .i64 k ∧ (∀ j (h1 : j < xs.length) (h2 : j < ys.length), j < k → xs[j] = ys[j]) ∧ Ext w wr)
    case atStart => exact ⟨0, Nat.zero_le _, rfl, rfl, fun j _ _ h => absurd h (by omega), Ext.refl _⟩
    case round =>
      obtain ⟨k, hk, rfl, rfl, hsame, hext⟩ := hrel
      have HS := Lib.hid hsame; clear hsame
      by_cases hlt : k < xs.length
      · have hz : (k : Int) < (xs.length : Int) := by omega
        have hlt2 : k < ys.length := by rw [← HL.out]; exact hlt
        have hz2 : (k : Int) < (ys.length : Int) := by omega
        obtain ⟨g1, o1, ak, ck, rfl, c1, _, _, rk⟩ := (HX.out.ext hext) k hlt
        obtain ⟨g2, o2, bk, dk, rfl, c2, _, _, sk⟩ := (HY.out.ext hext) k hlt2
        have RK := Lib.hid rk; clear rk
        have SK := Lib.hid sk; clear sk
        go_wp2_with fail
        go_still_tail 8, (by kernel_rfl)
        change wpList _ _ _ _ _ wr.drew
        obtain ⟨w2, hw2⟩ : ∃ w2, wr.drew = w2 := ⟨_, rfl⟩
        have e2 : Ext wr w2 := hw2 ▸ (Ext.refl wr).drew
        rw [hw2]
        clear hw2
        go_wp2_with fail
        refine (eqIntS_any _ _ _ _ xs[k] ys[k] _ (RK.out.ext e2) (SK.out.ext e2) (HR.out _ (List.getElem_mem hlt)) (HR2.out _ (List.getElem_mem hlt2))).mono ?_
        rintro e w3 ⟨rfl, e3⟩
        have E3 := (hext.trans e2).trans e3
        by_cases he : xs[k] = ys[k]
        · have hb : decide (xs[k] = ys[k]) = true := by simpa using he
          rw [hb]
          have HE := Lib.hid he; clear he hb
          go_wp2_with fail
          go_roundg (xs.length - (k + 1))
          case measure => omega
          case rel => exact ⟨k + 1, by omega, rfl, by go_num, fun j h1 h2 hj => by
            by_cases e : j = k
            · subst e; exact HE.out
            · exact HS.out j h1 h2 (by omega), E3⟩
        · have hb : decide (xs[k] = ys[k]) = false := by simpa using he
          rw [hb]
          have HE := Lib.hid he; clear he hb
          go_wp2_with fail
          go_ret
          exact ⟨ret_bool (decide_eq_false (fun e => HE.out (by subst e; rfl))).symm, E3⟩
      · have hz : ¬ (k : Int) < (xs.length : Int) := by omega
        go_wp2_with fail
        go_ret
        exact ⟨ret_bool (decide_eq_true (eq_upto HL.out (fun j h1 h2 => HS.out j h1 h2 (by omega)))).symm, hext⟩
  · have hlb : ((xs.length : Int) != (ys.length : Int)) = true := by rw [bne_iff_ne]; omega
    have hlb2 : ¬ (xs.length : Int) = (ys.length : Int) := by omega
    have hne : ¬ xs = ys := fun e => hl (by rw [e])
    have HN := Lib.hid hne; clear hne hl
    go_enter Try.func33, Try.ntmps33
    go_wp2_with fail
    go_ret
    exact ⟨ret_bool (decide_eq_false HN.out).symm, Ext.refl _⟩
set_option maxHeartbeats 1000000 in
theorem sameRows_any (a b : Option Addr) (c d : Nat) (xs ys : List (List Int)) (w : World) (hx : IRows w a xs) (hy : IRows w b ys) (hm : xs.length ≤ 9223372036854775807) (_hm2 : ys.length ≤ 9223372036854775807) (hr : ∀ r ∈ xs, r.length ≤ 9223372036854775807) (hr2 : ∀ r ∈ ys, r.length ≤ 9223372036854775807) :
    Calls Try.prog 38 #[.slice a xs.length c, .slice b ys.length d] w (Ret (.bool (decide (xs = ys))) w) := by
  have HX := Lib.hid hx; clear hx
  have HY := Lib.hid hy; clear hy
  have HR := Lib.hid hr; clear hr
  have HR2 := Lib.hid hr2; clear hr2
  by_cases hl : xs.length = ys.length
  · have hlb : ((xs.length : Int) != (ys.length : Int)) = false := by rw [hl]; simp
    have HL := Lib.hid hl; clear hl
    go_enter Try.func38, Try.ntmps38
    go_wp2_with fail
    go_loopg [5] xs.length (fun g i wr => ∃ k : Nat, k ≤ xs.length ∧ g = xs.length - k ∧ i = .int .i64 k ∧ (∀ j (h1 : j < xs.length) (h2 : j < ys.length), j < k → xs[j] = ys[j]) ∧ Ext w wr)
    case atStart => exact ⟨0, Nat.zero_le _, rfl, rfl, fun j _ _ h => absurd h (by omega), Ext.refl _⟩
    case round =>
      obtain ⟨k, hk, rfl, rfl, hsame, hext⟩ := hrel
      have HS := Lib.hid hsame; clear hsame
      by_cases hlt : k < xs.length
      · have hz : (k : Int) < (xs.length : Int) := by omega
        have hlt2 : k < ys.length := by rw [← HL.out]; exact hlt
        have hz2 : (k : Int) < (ys.length : Int) := by omega
        obtain ⟨g1, o1, ak, ck, rfl, c1, _, _, rk⟩ := (HX.out.ext hext) k hlt
        obtain ⟨g2, o2, bk, dk, rfl, c2, _, _, sk⟩ := (HY.out.ext hext) k hlt2
        have RK := Lib.hid rk; clear rk
        have SK := Lib.hid sk; clear sk
        go_wp2_with fail
        go_still_tail 8, (by kernel_rfl)
        change wpList _ _ _ _ _ wr.drew
        obtain ⟨w2, hw2⟩ : ∃ w2, wr.drew = w2 := ⟨_, rfl⟩
        have e2 : Ext wr w2 := hw2 ▸ (Ext.refl wr).drew
        rw [hw2]
        clear hw2
        go_wp2_with fail
        refine (sameInts_any _ _ _ _ xs[k] ys[k] _ (RK.out.ext e2) (SK.out.ext e2) (HR.out _ (List.getElem_mem hlt)) (HR2.out _ (List.getElem_mem hlt2))).mono ?_
        rintro e w3 ⟨rfl, e3⟩
        have E3 := (hext.trans e2).trans e3
        by_cases he : xs[k] = ys[k]
        · have hb : decide (xs[k] = ys[k]) = true := by simpa using he
          rw [hb]
          have HE := Lib.hid he; clear he hb
          go_wp2_with fail
          go_roundg (xs.length - (k + 1))
          case measure => omega
          case rel => exact ⟨k + 1, by omega, rfl, by go_num, fun j h1 h2 hj => by
            by_cases e : j = k
            · subst e; exact HE.out
            · exact HS.out j h1 h2 (by omega), E3⟩
        · have hb : decide (xs[k] = ys[k]) = false := by simpa using he
          rw [hb]
          have HE := Lib.hid he; clear he hb
          go_wp2_with fail
          go_ret
          exact ⟨ret_bool (decide_eq_false (fun e => HE.out (by subst e; rfl))).symm, E3⟩
      · have hz : ¬ (k : Int) < (xs.length : Int) := by omega
        go_wp2_with fail
        go_ret
        exact ⟨ret_bool (decide_eq_true (eq_upto HL.out (fun j h1 h2 => HS.out j h1 h2 (by omega)))).symm, hext⟩
  · have hlb : ((xs.length : Int) != (ys.length : Int)) = true := by rw [bne_iff_ne]; omega
    have hlb2 : ¬ (xs.length : Int) = (ys.length : Int) := by omega
    have hne : ¬ xs = ys := fun e => hl (by rw [e])
    have HN := Lib.hid hne; clear hne hl
    go_enter Try.func38, Try.ntmps38
    go_wp2_with fail
    go_ret
    exact ⟨ret_bool (decide_eq_false HN.out).symm, Ext.refl _⟩
end Go.Proofs.Ytelcdjbbcffliaa
