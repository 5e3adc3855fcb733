/- Masks of tables: both checks. -/
import Derived.Test.YtelcdjbbcffliaaTabImpl
import Derived.Test.YtelcdjbbcffliaaTabEqI
/- Masks of tables: both checks. -/
namespace Go.Proofs.Ytelcdjbbcffliaa
open Go.RowKit Go.DC
/-- A mask of a table. -/
def maskOk (t : List (List Int)) (m : List (List Bool)) : Bool := tabOk t && decide (m.length = t.length) && m.all (fun r => r.length == wide t)
theorem maskOk_no {t : List (List Int)} {m : List (List Bool)} {k : Nat} (hk : k < m.length) (h : ¬ m[k].length = wide t) : maskOk t m = false := by
  unfold maskOk
  rw [all_not hk (by simpa using h), Bool.and_false]
theorem maskOk_yes {t : List (List Int)} {m : List (List Bool)} (h1 : tabOk t = true) (hl : m.length = t.length) (h : ∀ k (hk : k < m.length), m[k].length = wide t) : maskOk t m = true := by
  unfold maskOk
  simp only [h1, hl, decide_true, Bool.and_true, Bool.true_and, List.all_eq_true]
  intro r hr
  obtain ⟨k, hk, rfl⟩ := List.getElem_of_mem hr
  simpa using h k hk
theorem maskOk_rect {t : List (List Int)} {m : List (List Bool)} (h : maskOk t m = true) : tabOk t = true ∧ Rect m t.length (wide t) := by
  unfold maskOk at h
  simp only [Bool.and_eq_true, decide_eq_true_eq, List.all_eq_true, beq_iff_eq] at h
  exact ⟨h.1.1, h.1.2, fun k hk => h.2 _ (List.getElem_mem hk)⟩
set_option maxRecDepth 10000 in
set_option maxHeartbeats 1000000 in
theorem MaskValid_any (a b : Option Addr) (c d : Nat) (t : List (List Int)) (m : List (List Bool)) (w : World) (ht : IRows w a t) (hmk : BRows w b m) (hm : t.length ≤ 9223372036854775807) (hm2 : m.length ≤ 9223372036854775807) :
    Calls Try.prog 49 #[.slice a t.length c, .slice b m.length d] w fun e w' => e = .returned (.bool (maskOk t m)) ∧ w = w' := by
  have HT := Lib.hid ht; clear ht
  have HM := Lib.hid hmk; clear hmk
  go_enter Try.func49, Try.ntmps49
  go_wp2_with fail
  refine (TableValid_any _ _ t _ HT.out hm).mono ?_
  rintro e w' ⟨rfl, rfl⟩
  cases o1 : tabOk t
  · have hd : maskOk t m = false := by simp [maskOk, o1]
    have HD := Lib.hid hd; clear hd o1
    go_wp2_with fail
    go_ret
    exact ⟨ret_bool HD.out.symm, rfl⟩
  have O1 := Lib.hid o1; clear o1
  by_cases hl : m.length = t.length
  · have hlb : ((m.length : Int) != (t.length : Int)) = false := by rw [hl]; simp
    have HL := Lib.hid hl; clear hl
    obtain ⟨_, h1, _, _, _, _⟩ := tabOk_rect O1.out
    obtain ⟨b0, off0, a0, c0, rfl, hc0, _, _, _⟩ := HT.out 0 (by omega)
    rw [← wide_eq (by omega)] at hc0
    simp only [Nat.add_zero] at hc0
    have h0z : (0 : Int) < (t.length : Int) := by omega
    go_wp2_with fail
    go_loop [19] (fun i => ∃ k : Nat, k ≤ m.length ∧ i = .int .i64 k ∧ Hid (∀ j (hj : j < m.length), j < k → m[j].length = wide t)) (fun i => m.length - (intOf i).toNat)
    case atStart => exact ⟨0, Nat.zero_le _, rfl, fun j _ h => absurd h (by omega)⟩
    case round =>
      obtain ⟨k, hk, rfl, hall⟩ := hrel
      by_cases hlt : k < m.length
      · have hz : (k : Int) < (m.length : Int) := by omega
        obtain ⟨bk, offk, ak, ck, rfl, hck, _, _, _⟩ := HM.out k hlt
        by_cases hw : m[k].length = wide t
        · have hwb : ((m[k].length : Int) != (wide t : Int)) = false := by rw [hw]; simp
          have HW := Lib.hid hw; clear hw
          go_wp2_with fail
          go_round
          case rel => exact ⟨k + 1, by omega, by go_num, fun j hj h => by
            by_cases e : j = k
            · subst e; exact HW.out
            · exact hall j hj (by omega)⟩
          case measure => simp [intOf]; omega
        · have hwb : ((m[k].length : Int) != (wide t : Int)) = true := by rw [bne_iff_ne]; omega
          have hwz : ¬ (m[k].length : Int) = (wide t : Int) := by omega
          have HW := Lib.hid (maskOk_no hlt hw); clear hw
          go_wp2_with fail
          go_ret
          exact ⟨ret_bool HW.out.symm, rfl⟩
      · have hz : ¬ (k : Int) < (m.length : Int) := by omega
        go_wp2_with fail
        go_ret
        exact ⟨ret_bool (maskOk_yes O1.out HL.out (fun j hj => hall j hj (by omega))).symm, rfl⟩
  · have hlb : ((m.length : Int) != (t.length : Int)) = true := by rw [bne_iff_ne]; omega
    have hlz : ¬ (m.length : Int) = (t.length : Int) := by omega
    have hd : maskOk t m = false := by simp [maskOk, hl]
    have HD := Lib.hid hd; clear hd hl
    go_wp2_with fail
    go_ret
    exact ⟨ret_bool HD.out.symm, rfl⟩
set_option maxRecDepth 10000 in
set_option maxHeartbeats 1000000 in
theorem sMaskValid_any (a b : Option Addr) (c d : Nat) (t : List (List Int)) (m : List (List Bool)) (w : World) (ht : IRows w a t) (hmk : BRows w b m) (hm : t.length ≤ 9223372036854775807) (hm2 : m.length ≤ 9223372036854775807) :
    Calls Try.prog 54 #[.slice a t.length c, .slice b m.length d] w (Ret (.bool (maskOk t m)) w) := by
  have HT := Lib.hid ht; clear ht
  have HM := Lib.hid hmk; clear hmk
  go_enter Try.func54, Try.ntmps54
  go_wp2_with fail
  refine (sTableValid_any _ _ t _ HT.out hm).mono ?_
  rintro e w1 ⟨rfl, e1⟩
  cases o1 : tabOk t
  · have hd : maskOk t m = false := by simp [maskOk, o1]
    have HD := Lib.hid hd; clear hd o1
    go_wp2_with fail
    go_ret
    exact ⟨ret_bool HD.out.symm, e1⟩
  have O1 := Lib.hid o1; clear o1
  by_cases hl : m.length = t.length
  · have hlb : ((m.length : Int) != (t.length : Int)) = false := by rw [hl]; simp
    obtain ⟨_, h1, _, _, _, _⟩ := tabOk_rect O1.out
    have h0z : (0 : Int) < (t.length : Int) := by omega
    have HL := Lib.hid hl; clear hl
    go_wp2_with fail
    go_loopg [5] m.length (fun g i wr => ∃ k : Nat, k ≤ m.length ∧ g = m.length - k ∧ i = .int .i64 k ∧ Hid (∀ j (hj : j < m.length), j < k → m[j].length = wide t) ∧ Ext w wr)
    case atStart => exact ⟨0, Nat.zero_le _, rfl, rfl, fun j _ h => absurd h (by omega), e1⟩
    case round =>
      obtain ⟨k, hk, rfl, rfl, hall, hext⟩ := hrel
      by_cases hlt : k < m.length
      · have hz : (k : Int) < (m.length : Int) := by omega
        obtain ⟨bk, offk, ak, ck, rfl, hck, _, _, _⟩ := (HM.out.ext hext) k hlt
        obtain ⟨b0, off0, a0, c0, rfl, hc0, _, _, _⟩ := (HT.out.ext hext) 0 (by omega)
        rw [← wide_eq (by omega)] at hc0
        simp only [Nat.add_zero] at hc0
        by_cases hw : m[k].length = wide t
        · have hwb : ((m[k].length : Int) != (wide t : Int)) = false := by rw [hw]; simp
          have HW := Lib.hid hw; clear hw
          go_wp2_with fail
          go_quiet (fail)
          go_wp2_with fail
          go_roundg (m.length - (k + 1))
          case measure => omega
          case rel => exact ⟨k + 1, by omega, rfl, by go_num, fun j hj h => by
            by_cases e : j = k
            · subst e; exact HW.out
            · exact hall j hj (by omega), hext.drewN _⟩
        · have hwb : ((m[k].length : Int) != (wide t : Int)) = true := by rw [bne_iff_ne]; omega
          have hwz : ¬ (m[k].length : Int) = (wide t : Int) := by omega
          have HW := Lib.hid (maskOk_no hlt hw); clear hw
          go_wp2_with fail
          go_quiet (fail)
          go_wp2_with fail
          go_ret
          exact ⟨ret_bool HW.out.symm, hext.drewN _⟩
      · have hz : ¬ (k : Int) < (m.length : Int) := by omega
        go_wp2_with fail
        go_ret
        exact ⟨ret_bool (maskOk_yes O1.out HL.out (fun j hj => hall j hj (by omega))).symm, hext⟩
  · have hlb : ((m.length : Int) != (t.length : Int)) = true := by rw [bne_iff_ne]; omega
    have hlz : ¬ (m.length : Int) = (t.length : Int) := by omega
    have hd : maskOk t m = false := by simp [maskOk, hl]
    have HD := Lib.hid hd; clear hd hl
    go_wp2_with fail
    go_ret
    exact ⟨ret_bool HD.out.symm, e1⟩
end Go.Proofs.Ytelcdjbbcffliaa

/- Comparisons and copies that the laws and the reference use. -/
namespace Go.Proofs.Ytelcdjbbcffliaa
open Go.RowKit Go.DC
theorem eq_uptoB {α : Type} [DecidableEq α] {xs ys : List α} (hl : xs.length = ys.length) (h : ∀ k (h1 : k < xs.length) (h2 : k < ys.length), xs[k] = ys[k]) : xs = ys := List.ext_getElem hl h
set_option maxRecDepth 10000 in
set_option maxHeartbeats 1000000 in
theorem eqBoolS_any (a b : Option Addr) (c d : Nat) (xs ys : List Bool) (w : World) (hx : BRow w a xs) (hy : BRow w b ys) (hm : xs.length ≤ 9223372036854775807) (_hm2 : ys.length ≤ 9223372036854775807) :
    Calls Try.prog 63 #[.slice a xs.length c, .slice b ys.length d] w (Ret (.bool (decide (xs = ys))) w) := by
  have HX := Lib.hid hx; clear hx
  have HY := Lib.hid hy; clear hy
  by_cases hl : xs.length = ys.length
  · have hlb : ((xs.length : Int) != (ys.length : Int)) = false := by rw [hl]; simp
    have HL := Lib.hid hl; clear hl
    go_enter Try.func63, Try.ntmps63
    go_wp2_with fail
    go_loopg [5] xs.length (fun g i wr => ∃ k : Nat, k ≤ xs.length ∧ g = xs.length - k ∧ i = .int .i64 k ∧ (∀ j (h1 : j < xs.length) (h2 : j < ys.length), j < k → xs[j] = ys[j]) ∧ Ext w wr)
    case atStart => exact ⟨0, Nat.zero_le _, rfl, rfl, fun j _ _ h => absurd h (by omega), Ext.refl _⟩
    case round =>
      obtain ⟨k, hk, rfl, rfl, hsame, hext⟩ := hrel
      have HS := Lib.hid hsame; clear hsame
      by_cases hlt : k < xs.length
      · have hz : (k : Int) < (xs.length : Int) := by omega
        have hlt2 : k < ys.length := by rw [← HL.out]; exact hlt
        have hz2 : (k : Int) < (ys.length : Int) := by omega
        obtain ⟨g1, o1, rfl, c1⟩ := (HX.out.ext hext) k hlt
        obtain ⟨g2, o2, rfl, c2⟩ := (HY.out.ext hext) k hlt2
        unfold encB at c1 c2
        by_cases he : xs[k] = ys[k]
        · have hb : (xs[k] == ys[k]) = true := by rw [he]; simp
          have HE := Lib.hid he; clear he
          go_wp2_with fail
          go_quiet (fail)
          go_wp2_with fail
          go_roundg (xs.length - (k + 1))
          case measure => omega
          case rel => exact ⟨k + 1, by omega, rfl, by go_num, fun j h1 h2 hj => by
            by_cases e : j = k
            · subst e; exact HE.out
            · exact HS.out j h1 h2 (by omega), hext.drewN _⟩
        · have hb : (xs[k] == ys[k]) = false := by rw [beq_eq_false_iff_ne]; exact he
          go_wp2_with fail
          go_quiet (fail)
          go_wp2_with fail
          go_ret
          exact ⟨ret_bool (decide_eq_false (fun e => he (by subst e; rfl))).symm, hext.drewN _⟩
      · have hz : ¬ (k : Int) < (xs.length : Int) := by omega
        go_wp2_with fail
        go_ret
        exact ⟨ret_bool (decide_eq_true (eq_uptoB HL.out (fun j h1 h2 => HS.out j h1 h2 (by omega)))).symm, hext⟩
  · have hlb : ((xs.length : Int) != (ys.length : Int)) = true := by rw [bne_iff_ne]; omega
    have hlb2 : ¬ (xs.length : Int) = (ys.length : Int) := by omega
    have hne : ¬ xs = ys := fun e => hl (by rw [e])
    have HN := Lib.hid hne; clear hne hl
    go_enter Try.func63, Try.ntmps63
    go_wp2_with fail
    go_ret
    exact ⟨ret_bool (decide_eq_false HN.out).symm, Ext.refl _⟩
set_option maxRecDepth 10000 in
set_option maxHeartbeats 1000000 in
theorem eqBoolSS_any (a b : Option Addr) (c d : Nat) (xs ys : List (List Bool)) (w : World) (hx : BRows w a xs) (hy : BRows w b ys) (hm : xs.length ≤ 9223372036854775807) (_hm2 : ys.length ≤ 9223372036854775807) (hr : ∀ r ∈ xs, r.length ≤ 9223372036854775807) (hr2 : ∀ r ∈ ys, r.length ≤ 9223372036854775807) :
    Calls Try.prog 34 #[.slice a xs.length c, .slice b ys.length d] w (Ret (.bool (decide (xs = ys))) w) := by
  have HX := Lib.hid hx; clear hx
  have HY := Lib.hid hy; clear hy
  have HR := Lib.hid hr; clear hr
  have HR2 := Lib.hid hr2; clear hr2
  by_cases hl : xs.length = ys.length
  · have hlb : ((xs.length : Int) != (ys.length : Int)) = false := by rw [hl]; simp
    have HL := Lib.hid hl; clear hl
    go_enter Try.func34, Try.ntmps34
    go_wp2_with fail
    go_loopg [5] xs.length (fun g i wr => ∃ k : Nat, k ≤ xs.length ∧ g = xs.length - k ∧ i = .int .i64 k ∧ (∀ j (h1 : j < xs.length) (h2 : j < ys.length), j < k → xs[j] = ys[j]) ∧ Ext w wr)
    case atStart => exact ⟨0, Nat.zero_le _, rfl, rfl, fun j _ _ h => absurd h (by omega), Ext.refl _⟩
    case round =>
      obtain ⟨k, hk, rfl, rfl, hsame, hext⟩ := hrel
      have HS := Lib.hid hsame; clear hsame
      by_cases hlt : k < xs.length
      · have hz : (k : Int) < (xs.length : Int) := by omega
        have hlt2 : k < ys.length := by rw [← HL.out]; exact hlt
        have hz2 : (k : Int) < (ys.length : Int) := by omega
        obtain ⟨g1, o1, ak, ck, rfl, c1, _, _, rk⟩ := (HX.out.ext hext) k hlt
        obtain ⟨g2, o2, bk, dk, rfl, c2, _, _, sk⟩ := (HY.out.ext hext) k hlt2
        have RK := Lib.hid rk; clear rk
        have SK := Lib.hid sk; clear sk
        go_wp2_with fail
        go_still_tail 8, (by kernel_rfl)
        change wpList _ _ _ _ _ wr.drew
        obtain ⟨w2, hw2⟩ : ∃ w2, wr.drew = w2 := ⟨_, rfl⟩
        have e2 : Ext wr w2 := hw2 ▸ (Ext.refl wr).drew
        rw [hw2]
        clear hw2
        go_wp2_with fail
        refine (eqBoolS_any _ _ _ _ xs[k] ys[k] _ (RK.out.ext e2) (SK.out.ext e2) (HR.out _ (List.getElem_mem hlt)) (HR2.out _ (List.getElem_mem hlt2))).mono ?_
        rintro e w3 ⟨rfl, e3⟩
        have E3 := (hext.trans e2).trans e3
        by_cases he : xs[k] = ys[k]
        · have hb : decide (xs[k] = ys[k]) = true := by simpa using he
          rw [hb]
          have HE := Lib.hid he; clear he hb
          go_wp2_with fail
          go_roundg (xs.length - (k + 1))
          case measure => omega
          case rel => exact ⟨k + 1, by omega, rfl, by go_num, fun j h1 h2 hj => by
            by_cases e : j = k
            · subst e; exact HE.out
            · exact HS.out j h1 h2 (by omega), E3⟩
        · have hb : decide (xs[k] = ys[k]) = false := by simpa using he
          rw [hb]
          have HE := Lib.hid he; clear he hb
          go_wp2_with fail
          go_ret
          exact ⟨ret_bool (decide_eq_false (fun e => HE.out (by subst e; rfl))).symm, E3⟩
      · have hz : ¬ (k : Int) < (xs.length : Int) := by omega
        go_wp2_with fail
        go_ret
        exact ⟨ret_bool (decide_eq_true (eq_uptoB HL.out (fun j h1 h2 => HS.out j h1 h2 (by omega)))).symm, hext⟩
  · have hlb : ((xs.length : Int) != (ys.length : Int)) = true := by rw [bne_iff_ne]; omega
    have hlb2 : ¬ (xs.length : Int) = (ys.length : Int) := by omega
    have hne : ¬ xs = ys := fun e => hl (by rw [e])
    have HN := Lib.hid hne; clear hne hl
    go_enter Try.func34, Try.ntmps34
    go_wp2_with fail
    go_ret
    exact ⟨ret_bool (decide_eq_false HN.out).symm, Ext.refl _⟩
end Go.Proofs.Ytelcdjbbcffliaa

/- Copies that the reference and the laws make; sizes; marks. -/
namespace Go.Proofs.Ytelcdjbbcffliaa
open Go.RowKit Go.DC
theorem set_take1B {α : Type} {zs : List α} {k : Nat} {z : α} (h : k < zs.length) : (zs.take k ++ List.replicate (zs.length - k) z).set k zs[k] = zs.take (k + 1) ++ List.replicate (zs.length - (k + 1)) z := by
  apply List.ext_getElem
  · simp; omega
  · intro i h1 h2
    simp only [List.getElem_set, List.getElem_append, List.getElem_replicate, List.length_take, List.getElem_take]
    repeat' split
    all_goals first | rfl | omega | (rename_i h3 _; subst h3; rfl) | (rename_i h3; subst h3; rfl)
set_option maxRecDepth 10000 in
set_option maxHeartbeats 1000000 in
theorem toBoolS_any (a : Option Addr) (c : Nat) (zs : List Bool) (w : World) (hr : BRow w a zs) (hl : zs.length ≤ 2000000) :
    Calls Try.prog 61 #[.slice a zs.length c] w (NewRow encB 4 zs w) := by
  have HR := Lib.hid hr; clear hr
  have hmk := run_make_row' (P := Try.prog) 53 4 (.bool false) 1 Try.underlying53 Try.dcElemB rfl .i64 .i64 zs.length (by omega) (by omega)
  go_enter Try.func61, Try.ntmps61
  go_wp2_with fail
  clear hmk
  go_loopg [4] zs.length (fun g i wr => ∃ k : Nat, k ≤ zs.length ∧ g = zs.length - k ∧ i = .int .i64 k ∧ wr.ownsRow w.heap.size 4 1 (.slice (some ⟨w.heap.size, 0, none⟩) zs.length zs.length) zs.length ((zs.take k ++ List.replicate (zs.length - k) false).map encB) ∧ Ext w wr)
  case atStart =>
    refine ⟨0, Nat.zero_le _, rfl, rfl, ?_, (Ext.refl _).alloc _⟩
    have := World.ownsRow_lit (base := w.heap.size) (e := 4) (size := 1) w (madeCells #[.bool false] zs.length) zs.length (Nat.le_refl _) (by unfold maxLen; omega) (by simp [size_madeCells])
    rw [toList_madeCells_one] at this
    simpa using this
  case round =>
    obtain ⟨k, hk, rfl, rfl, own, hext⟩ := hrel
    by_cases hlt : k < zs.length
    · have hz : (k : Int) < (zs.length : Int) := by omega
      obtain ⟨b, off, rfl, hc⟩ := (HR.out.ext hext) k hlt
      unfold encB at hc
      have hold := World.ownsRow.cellAt own k (by omega)
      rw [List.getElem?_eq_getElem (by simp; omega)] at hold
      have hfr := World.ownsRow.frozenAt own k
      have hst := (World.ownsRow.stored own k (encB zs[k])).1
      rw [← List.map_set, set_take1B hlt] at hst
      have HS := Lib.hid hst; clear hst own
      go_wp2_with fail
      go_roundg (zs.length - (k + 1))
      case measure => omega
      case rel => exact ⟨k + 1, by omega, rfl, by go_num, HS.out, hext.setCell (p := ⟨w.heap.size, k, none⟩) (Nat.le_refl _) _⟩
    · have hz : ¬ (k : Int) < (zs.length : Int) := by omega
      go_wp2_with fail
      go_ret
      have hkh : k = zs.length := by omega
      subst hkh
      exact ⟨_, rfl, by simpa using own, hext⟩
set_option maxRecDepth 10000 in
set_option maxHeartbeats 1000000 in
theorem toBoolSS_any (a : Option Addr) (c : Nat) (t : List (List Bool)) (w : World) (ht : BRows w a t) (hl : t.length ≤ 2000000) (hll : ∀ k (h : k < t.length), t[k].length ≤ 2000000) :
    Calls Try.prog 32 #[.slice a t.length c] w (NewTab encB 4 53 t w) := by
  have HT := Lib.hid ht; clear ht
  have HL := Lib.hid hll; clear hll
  have hmk := run_make_row' (P := Try.prog) 24 53 (.slice none 0 0) 24 Try.underlying24 Try.dcRowB rfl .i64 .i64 t.length (by omega) (by omega)
  go_enter Try.func32, Try.ntmps32
  go_wp2_with fail
  clear hmk
  go_loopg [4] t.length (fun g i wr => ∃ (k : Nat) (vs : List Value), k ≤ t.length ∧ g = t.length - k ∧ i = .int .i64 k ∧ OwnB wr w.heap.size (.slice (some ⟨w.heap.size, 0, none⟩) t.length t.length) vs (t.take k ++ List.replicate (t.length - k) []) ∧ Ext w wr)
  case atStart => exact ⟨0, _, Nat.zero_le _, rfl, rfl, by simpa using OwnT.made (enc := encB) (te := 4) (ts := 53) w t.length (Nat.le_refl _) (by omega), (Ext.refl _).alloc _⟩
  case round =>
    obtain ⟨k, vs, hk, rfl, rfl, own, hext⟩ := hrel
    by_cases hlt : k < t.length
    · have hz : (k : Int) < (t.length : Int) := by omega
      have hlen : k < (t.take k ++ List.replicate (t.length - k) []).length := by simp; omega
      have hsz := hext.size
      have hsl : w.heap.size < wr.heap.size := (own.outer_lt rfl).2
      obtain ⟨b, off, ak, ck, rfl, hck, hlk, hnk, hrk⟩ := (HT.out.ext hext) k hlt
      have HR := Lib.hid hrk; clear hrk hnk
      go_wp2_with fail
      refine (toBoolS_any ak ck t[k] _ HR.out (HL.out k hlt)).mono ?_
      rintro e w1 ⟨u, rfl, hu, e1⟩
      have own1 := own.ext e1
      obtain ⟨c1, hc1, _, hf1⟩ := own1.cellAt hlen
      have hub := hu.lt
      have hset := own1.setRow hlen (owns_base hu hsz) (fun b hb => by have := (hub b hb).1; omega)
        (fun l hl _ b hb => by
          have h1 := (hub b hb).1
          intro hh
          have := (own.inner_lt hl hh).2
          omega)
      rw [set_take hlt] at hset
      have HS := Lib.hid hset
      obtain ⟨au, cu, rfl, _⟩ := owns_cells hu
      clear hset own own1 hub hu
      go_wp2_with fail
      go_roundg (t.length - (k + 1))
      case measure => omega
      case rel => exact ⟨k + 1, _, by omega, rfl, by go_num, HS.out, (hext.trans e1).setCell (p := ⟨w.heap.size, k, none⟩) (Nat.le_refl _) _⟩
    · have hz : ¬ (k : Int) < (t.length : Int) := by omega
      go_wp2_with fail
      go_ret
      have hkh : k = t.length := by omega
      subst hkh
      exact ⟨_, vs, rfl, by simpa using own, hext⟩
set_option maxRecDepth 10000 in
set_option maxHeartbeats 400000 in
theorem szBoolS_any (a : Option Addr) (n c : Nat) (left : Int) (w : World) (h0 : 0 ≤ left) (h1 : left ≤ 1048576) (hn : n ≤ 9223372036854775807) :
    Calls Try.prog 59 #[.slice a n c, .int .i64 left] w fun e w' => e = .returned (.int .i64 (if left < n then -1 else left - n)) ∧ w = w' := by
  by_cases h : left < n
  · rw [if_pos h]
    have h' : left - (n : Int) < 0 := by omega
    go_enter Try.func59, Try.ntmps59
    go_wp2
    go_ret
    exact ⟨rfl, rfl⟩
  · rw [if_neg h]
    have h' : ¬ left - (n : Int) < 0 := by omega
    go_enter Try.func59, Try.ntmps59
    go_wp2
    go_ret
    exact ⟨rfl, rfl⟩
def sizeB (t : List (List Bool)) : Nat := (t.map List.length).sum
theorem sizeB_take (t : List (List Bool)) (i : Nat) (h : i < t.length) : sizeB (t.take (i + 1)) = sizeB (t.take i) + t[i].length := by
  unfold sizeB; rw [List.take_succ_eq_append_getElem h, List.map_append, List.sum_append]; simp
theorem sizeB_le (t : List (List Bool)) (i : Nat) (h : i < t.length) : t[i].length ≤ sizeB t := by
  have h1 := sizeB_take t i h
  have h2 : sizeB t = sizeB (t.take (i + 1)) + sizeB (t.drop (i + 1)) := by
    unfold sizeB; rw [← List.sum_append, ← List.map_append, List.take_append_drop]
  omega
/-- What the size's count says: if something is left, all lengths are small. -/
def SizeB (t : List (List Bool)) (left : Int) (w : World) (e : Ending) (w' : World) : Prop :=
  ∃ r : Int, e = .returned (.int .i64 r) ∧ w = w' ∧ r ≤ left ∧ (0 ≤ r → (t.length : Int) + sizeB t ≤ left)

set_option maxRecDepth 10000 in
set_option maxHeartbeats 1000000 in
theorem szBoolSS_any (a : Option Addr) (c : Nat) (t : List (List Bool)) (left : Int) (w : World) (ht : BRows w a t) (h0 : 0 ≤ left) (h1 : left ≤ 1048576) (hm : t.length ≤ 9223372036854775807) (hmm : ∀ k (h : k < t.length), t[k].length ≤ 9223372036854775807) :
    Calls Try.prog 30 #[.slice a t.length c, .int .i64 left] w (SizeB t left w) := by
  have HT := Lib.hid ht; clear ht
  have HM := Lib.hid hmm; clear hmm
  by_cases h : left < t.length
  · have h' : left - (t.length : Int) < 0 := by omega
    go_enter Try.func30, Try.ntmps30
    go_wp2_with fail
    go_ret
    exact ⟨-1, rfl, rfl, by omega, fun h => by omega⟩
  · have h' : ¬ left - (t.length : Int) < 0 := by omega
    go_enter Try.func30, Try.ntmps30
    go_wp2_with fail
    go_loop [1, 5] (fun l i => ∃ (k : Nat) (r : Int), k ≤ t.length ∧ i = .int .i64 k ∧ l = .int .i64 r ∧ 0 ≤ r ∧ r ≤ left ∧ Hid (r + t.length + sizeB (t.take k) = left)) (fun _ i => t.length - (intOf i).toNat)
    case atStart => exact ⟨0, left - t.length, Nat.zero_le _, rfl, rfl, by omega, by omega, by simp [Hid, sizeB]⟩
    case round =>
      obtain ⟨k, r, hk, rfl, rfl, hr0, hr1, HA⟩ := hrel
      by_cases hlt : k < t.length
      · have hz : (k : Int) < (t.length : Int) := by omega
        obtain ⟨b, off, ak, ck, rfl, hck, hlk, hnk, hrk⟩ := HT.out k hlt
        clear hrk hnk
        go_wp2_with fail
        refine (szBoolS_any _ _ _ r _ hr0 (by omega) (HM.out k hlt)).mono ?_
        rintro e w' ⟨rfl, rfl⟩
        by_cases hs : r < t[k].length
        · rw [if_pos hs]
          go_wp2_with fail
          go_ret
          exact ⟨-1, rfl, rfl, by omega, fun h => by omega⟩
        · rw [if_neg hs]
          have hs' : ¬ r - (t[k].length : Int) < 0 := by omega
          have hst := Lib.hid (sizeB_take t k hlt)
          go_wp2_with fail
          go_round
          case rel => exact ⟨k + 1, _, by omega, by go_num, rfl, by omega, by omega, by have h1 := HA.out; have h2 := hst.out; simp only [Hid]; omega⟩
          case measure => simp [intOf]; omega
      · have hz : ¬ (k : Int) < (t.length : Int) := by omega
        go_wp2_with fail
        go_ret
        exact ⟨r, rfl, rfl, hr1, fun _ => by have h1 := HA.out; rw [List.take_of_length_le (by omega)] at h1; omega⟩
end Go.Proofs.Ytelcdjbbcffliaa

/- Tables of one's own that are built row by row, the last row cell by cell. -/
namespace Go.DC
open Go.RowKit
section
variable {α : Type} {enc : α → Value} {te ts : TypeId} {w w' : World} {B : Nat} {vo : Value} {vs : List Value} {t : List (List α)} {vr : Value} {zs : List α}
/-- A table of one's own, and beside it a row of one's own that is not yet in it. -/
structure Bld (enc : α → Value) (te ts : TypeId) (w : World) (B : Nat) (vo : Value) (vs : List Value) (t : List (List α)) (vr : Value) (zs : List α) : Prop where
  outer : OwnT enc te ts w B vo vs t
  row : w.ownsRow B te 1 vr zs.length (zs.map enc)
  ne : ∀ b, vr.ownBlock = some b → vo.ownBlock ≠ some b
  ap : ∀ l (_ : l < vs.length), ∀ b, vr.ownBlock = some b → vs[l].ownBlock ≠ some b
theorem Bld.ext (h : Bld enc te ts w B vo vs t vr zs) (e : Ext w w') : Bld enc te ts w' B vo vs t vr zs := ⟨h.outer.ext e, owns_ext h.row e, h.ne, h.ap⟩
theorem Bld.keep {r : Nat} (h : Bld enc te ts w B vo vs t vr zs) (e : Keep r w w') (hr : r < B) : Bld enc te ts w' B vo vs t vr zs := ⟨h.outer.keep e hr, owns_keep h.row e hr, h.ne, h.ap⟩
theorem Bld.start (h : OwnT enc te ts w B vo vs t) (hB : B ≤ w.heap.size) : Bld enc te ts (w.alloc (.cells #[] te)) B vo vs t (.slice (some ⟨w.heap.size, 0, none⟩) 0 0) [] :=
  ⟨h.ext ((Ext.refl w).alloc _), World.ownsRow_made w #[] 0 hB (by decide) rfl,
   fun b hb hh => by have := (h.outer_lt hh).2; simp [Value.ownBlock] at hb; omega,
   fun l hl b hb hh => by have := (h.inner_lt hl hh).2; simp [Value.ownBlock] at hb; omega⟩
theorem Bld.more {vr' : Value} {zs' : List α} (h : Bld enc te ts w B vo vs t vr zs) (g : w.grownBy w' vr.ownBlock) (o : w'.ownsRow B te 1 vr' zs'.length (zs'.map enc)) (hat : vr'.ownBlock = vr.ownBlock ∨ vr'.ownBlock = some w.heap.size) : Bld enc te ts w' B vo vs t vr' zs' := by
  refine ⟨h.outer.grown g ?_ ?_, o, fun b hb hh => ?_, fun l hl b hb hh => ?_⟩
  · cases hv : vo.ownBlock with
    | none => exact .inl rfl
    | some b => exact .inr (fun e => h.ne b e.symm hv)
  · intro k hk
    cases hv : vs[k].ownBlock with
    | none => exact .inl rfl
    | some b => exact .inr (fun e => h.ap k hk b e.symm hv)
  · rcases hat with e | e
    · exact h.ne b (e ▸ hb) hh
    · rw [e] at hb; cases hb
      have := (h.outer.outer_lt hh).2; omega
  · rcases hat with e | e
    · exact h.ap l hl b (e ▸ hb) hh
    · rw [e] at hb; cases hb
      have := (h.outer.inner_lt hl hh).2; omega
theorem Bld.lt (h : Bld enc te ts w B vo vs t vr zs) {b : Nat} (hb : vr.ownBlock = some b) : B ≤ b ∧ b < w.heap.size := h.row.lt b hb
theorem one_row (w : World) (z : α) : TRow enc (w.alloc (.cells #[enc z] te)) (some ⟨w.heap.size, 0, none⟩) [z] := fun i hi => ⟨w.heap.size, 0, rfl, by
  have : i = 0 := by simpa using hi
  subst this
  simp [go_sem]⟩
theorem one_cell (w : World) (u : Value) (ty : TypeId) : (w.alloc (.cells #[u] ty)).cell? ⟨w.heap.size, 0, none⟩ = some u := by simp [go_sem]
end
end Go.DC
namespace Go.Proofs.Ytelcdjbbcffliaa
open Go.RowKit Go.DC
abbrev BldB := @Bld Bool encB 4 53
/-- The value of a row of one's own is one cell. -/
theorem own_one {w : World} {B : Nat} {e : TypeId} {s n : Nat} {v : Value} {xs : List Value} (h : w.ownsRow B e s v n xs) : v.oneCell' = true := by
  obtain ⟨a, c, rfl, _⟩ := owns_cells h; rfl
/-- The mask of a table with equal flags. -/
def allM (t : List (List Int)) (b : Bool) : List (List Bool) := t.map fun r => List.replicate r.length b
theorem allM_take (t : List (List Int)) (b : Bool) {k : Nat} (h : k < t.length) : allM (t.take (k + 1)) b = allM (t.take k) b ++ [List.replicate t[k].length b] := by
  unfold allM
  rw [List.take_succ_eq_append_getElem h, List.map_append]; rfl
set_option maxRecDepth 10000 in
set_option maxHeartbeats 2000000 in
theorem allMask_any (a : Option Addr) (c : Nat) (t : List (List Int)) (b : Bool) (w : World) (ht : IRows w a t) (hl : t.length ≤ 1000) (hll : ∀ k (h : k < t.length), t[k].length ≤ 1000) :
    Calls Try.prog 27 #[.slice a t.length c, .bool b] w (NewTab encB 4 53 (allM t b) w) := by
  have HT := Lib.hid ht; clear ht
  have HL := Lib.hid hll; clear hll
  go_enter Try.func27, Try.ntmps27
  go_wp2_with fail
  go_loopg [5, 6] t.length (fun g v i wr => ∃ (k : Nat) (vs : List Value), k ≤ t.length ∧ g = t.length - k ∧ i = .int .i64 k ∧ OwnB wr w.heap.size v vs (allM (t.take k) b) ∧ Ext w wr)
  case atStart => exact ⟨0, [], Nat.zero_le _, rfl, rfl, by simpa [allM] using ownT_empty (enc := encB) (te := 4) (ts := 53) w (Nat.le_refl _), (Ext.refl _).alloc _⟩
  case round =>
    obtain ⟨k, vs, hk, rfl, rfl, own, hext⟩ := hrel
    by_cases hlt : k < t.length
    · have hz : (k : Int) < (t.length : Int) := by omega
      have hsz := hext.size
      have hll := HL.out k hlt
      obtain ⟨av, cv, hv, _, _⟩ := own.rows
      subst hv
      have bld0 := Bld.start own hsz
      have xa := (Ext.refl wr).alloc (.cells #[] 4)
      have hat : ∀ k', (Value.slice av (allM (t.take k) b).length cv).ownBlock = some k' → w.heap.size ≤ k' := fun k' hk' => (own.outer_lt hk').1
      have HA := Lib.hid hat
      have hN : (allM (t.take k) b).length ≤ 1000 := by simp [allM]; omega
      clear own hat
      go_wp2_with fail
      go_loopg [7, 8] t[k].length (fun g v' i wi => ∃ (j : Nat), j ≤ t[k].length ∧ g = t[k].length - j ∧ i = .int .i64 j ∧ BldB wi w.heap.size (.slice av (allM (t.take k) b).length cv) vs (allM (t.take k) b) v' (List.replicate j b) ∧ Ext w wi)
      case atStart => exact ⟨0, Nat.zero_le _, rfl, rfl, bld0, hext.trans xa⟩
      case round =>
        clear bld0 hext xa hsz
        obtain ⟨j, hj, rfl, rfl, bld, hext⟩ := hrel
        obtain ⟨tb, off, ak, ck, rfl, hck, _, _, _⟩ := (HT.out.ext hext) k hlt
        have hsz := hext.size
        by_cases hjt : j < t[k].length
        · have hjz : (j : Int) < (t[k].length : Int) := by omega
          have bld1 := bld.ext ((Ext.refl wr).alloc (.cells #[.bool b] 4))
          have hone : BRow (wr.alloc (.cells #[.bool b] 4)) (some ⟨wr.heap.size, 0, none⟩) [b] := one_row wr b
          have hb : (List.replicate j b).length + [b].length ≤ 10000000 := by simp; omega
          have hB : w.heap.size ≤ (wr.alloc (.cells #[.bool b] 4)).heap.size := by simp; omega
          have B1 := Lib.hid bld1; have HO := Lib.hid hone
          clear bld1 hone bld
          go_wp2_with (at_builtin; refine wpList_rowB rfl (.tmp 26) (.tmp 28) rfl w.heap.size _ (List.replicate j b) rfl B1.out.row _ _ [b] rfl (fun h => by cases h) HO.out hb hB ?_; intro v2 w2 hu hg _ hat)
          have bld2 := B1.out.more hg hu hat
          have e2 : Ext w w2 := (hext.alloc (.cells #[.bool b] 4)).grownNew hg (fun k' hk' => (B1.out.lt hk').1)
          rw [show List.replicate j b ++ [b] = List.replicate (j + 1) b by rw [List.replicate_succ']] at bld2
          clear hu hg hat B1 HO
          go_wp2_with fail
          go_roundg (t[k].length - (j + 1))
          case measure => omega
          case rel => exact ⟨j + 1, by omega, rfl, by go_num, bld2, e2⟩
        · have hjz : ¬ (j : Int) < (t[k].length : Int) := by omega
          have hjm : j = t[k].length := by omega
          have HJ := Lib.hid hjm; clear hjm
          obtain ⟨ar, cr, hvr, _⟩ := owns_cells bld.row
          rw [List.length_replicate] at hvr
          subst hvr
          have bld1 := bld.ext ((Ext.refl wr).alloc (.cells #[.slice ar j cr] 53))
          have hcell := one_cell wr (.slice ar j cr) 53
          have hB : w.heap.size ≤ (wr.alloc (.cells #[.slice ar j cr] 53)).heap.size := by simp; omega
          have B1 := Lib.hid bld1; have HC := Lib.hid hcell
          have hN2 : (allM (t.take k) b).length ≤ 10000000 := by omega
          clear bld bld1 hcell
          go_wp2_with (at_builtin; refine wpList_pushB rfl (.tmp 30) (.tmp 32) rfl w.heap.size _ vs (allM (t.take k) b) rfl B1.out.outer wr.heap.size rfl _ rfl HC.out (List.replicate j b) B1.out.row B1.out.ne B1.out.ap hN2 hB ?_; intro v' w2 own3 hg2 _)
          have e2 : Ext w w2 := (hext.alloc (.cells #[.slice ar j cr] 53)).grownNew hg2 HA.out
          have own4 : OwnB w2 w.heap.size v' (vs ++ [.slice ar j cr]) (allM (t.take (k + 1)) b) := by
            have := HJ.out
            rw [allM_take t b hlt, ← this]; exact own3
          clear own3 hg2 B1 HC
          go_wp2_with fail
          go_roundg (t.length - (k + 1))
          case measure => omega
          case rel => exact ⟨k + 1, _, by omega, rfl, by go_num, own4, e2⟩
    · have hz : ¬ (k : Int) < (t.length : Int) := by omega
      go_wp2_with fail
      go_ret
      have hkh : k = t.length := by omega
      subst hkh
      exact ⟨_, vs, rfl, by simpa using own, hext⟩
end Go.Proofs.Ytelcdjbbcffliaa
