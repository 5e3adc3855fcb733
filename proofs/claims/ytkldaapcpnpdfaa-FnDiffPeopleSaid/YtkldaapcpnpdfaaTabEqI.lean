/- Comparisons and copies that the laws and the reference use. -/
import Derived.Test.YtkldaapcpnpdfaaTabImpl
import Derived.Test.YtkldaapcpnpdfaaCells
/- Comparisons and copies that the laws and the reference use. -/
namespace Go.Proofs.Ytkldaapcpnpdfaa
open Go.RowKit Go.DC
theorem eq_upto {α : Type} [DecidableEq α] {xs ys : List α} (hl : xs.length = ys.length) (h : ∀ k (h1 : k < xs.length) (h2 : k < ys.length), xs[k] = ys[k]) : xs = ys := List.ext_getElem hl h
set_option maxRecDepth 10000 in
set_option maxHeartbeats 1000000 in
theorem sameInts_any (a b : Option Addr) (c d : Nat) (xs ys : List Int) (w : World) (hx : IRow w a xs) (hy : IRow w b ys) (hm : xs.length ≤ 9223372036854775807) (_hm2 : ys.length ≤ 9223372036854775807) :
    Calls Try.prog 40 #[.slice a xs.length c, .slice b ys.length d] w (Ret (.bool (decide (xs = ys))) w) := by
  have HX := Lib.hid hx; clear hx
  have HY := Lib.hid hy; clear hy
  by_cases hl : xs.length = ys.length
  · have hlb : ((xs.length : Int) != (ys.length : Int)) = false := by rw [hl]; simp
    have HL := Lib.hid hl; clear hl
    go_enter Try.func40, Try.ntmps40
    go_wp2_with fail
    go_loopg [5] xs.length (fun g i wr => ∃ k : Nat, k ≤ xs.length ∧ g = xs.length - k ∧ i = .int .i64 k ∧ (∀ j (h1 : j < xs.length) (h2 : j < ys.length), j < k → xs[j] = ys[j]) ∧ Ext w wr)
    case atStart => exact ⟨0, Nat.zero_le _, rfl, rfl, fun j _ _ h => absurd h (by omega), Ext.refl _⟩
    case round =>
      obtain ⟨k, hk, rfl, rfl, hsame, hext⟩ := hrel
      have HS := Lib.hid hsame; clear hsame
      by_cases hlt : k < xs.length
      · have hz : (k : Int) < (xs.length : Int) := by omega
        have hlt2 : k < ys.length := by rw [← HL.out]; exact hlt
        have hz2 : (k : Int) < (ys.length : Int) := by omega
        obtain ⟨g1, o1, rfl, c1⟩ := (HX.out.ext hext) k hlt
        obtain ⟨g2, o2, rfl, c2⟩ := (HY.out.ext hext) k hlt2
        unfold encI at c1 c2
        by_cases he : xs[k] = ys[k]
        · have hb : (xs[k] != ys[k]) = false := by rw [he]; simp
          have HE := Lib.hid he; clear he
          go_wp2_with fail
          go_quiet (fail)
          go_wp2_with fail
          go_roundg (xs.length - (k + 1))
          case measure => omega
          case rel => exact ⟨k + 1, by omega, rfl, by go_num, fun j h1 h2 hj => by
            by_cases e : j = k
            · subst e; exact HE.out
            · exact HS.out j h1 h2 (by omega), hext.drewN _⟩
        · have hb : (xs[k] != ys[k]) = true := by rw [bne_iff_ne]; exact he
          go_wp2_with fail
          go_quiet (fail)
          go_wp2_with fail
          go_ret
          exact ⟨ret_bool (decide_eq_false (fun e => he (by subst e; rfl))).symm, hext.drewN _⟩
      · have hz : ¬ (k : Int) < (xs.length : Int) := by omega
        go_wp2_with fail
        go_ret
        exact ⟨ret_bool (decide_eq_true (eq_upto HL.out (fun j h1 h2 => HS.out j h1 h2 (by omega)))).symm, hext⟩
  · have hlb : ((xs.length : Int) != (ys.length : Int)) = true := by rw [bne_iff_ne]; omega
    have hlb2 : ¬ (xs.length : Int) = (ys.length : Int) := by omega
    have hne : ¬ xs = ys := fun e => hl (by rw [e])
    have HN := Lib.hid hne; clear hne hl
    go_enter Try.func40, Try.ntmps40
    go_wp2_with fail
    go_ret
    exact ⟨ret_bool (decide_eq_false HN.out).symm, Ext.refl _⟩
set_option maxRecDepth 10000 in
set_option maxHeartbeats 1000000 in
theorem sameRows_any (a b : Option Addr) (c d : Nat) (xs ys : List (List Int)) (w : World) (hx : IRows w a xs) (hy : IRows w b ys) (hm : xs.length ≤ 9223372036854775807) (_hm2 : ys.length ≤ 9223372036854775807) (hr : ∀ r ∈ xs, r.length ≤ 9223372036854775807) (hr2 : ∀ r ∈ ys, r.length ≤ 9223372036854775807) :
    Calls Try.prog 26 #[.slice a xs.length c, .slice b ys.length d] w (Ret (.bool (decide (xs = ys))) w) := by
  have HX := Lib.hid hx; clear hx
  have HY := Lib.hid hy; clear hy
  have HR := Lib.hid hr; clear hr
  have HR2 := Lib.hid hr2; clear hr2
  by_cases hl : xs.length = ys.length
  · have hlb : ((xs.length : Int) != (ys.length : Int)) = false := by rw [hl]; simp
    have HL := Lib.hid hl; clear hl
    go_enter Try.func26, Try.ntmps26
    go_wp2_with fail
    go_loopg [5] xs.length (fun g i wr => ∃ k : Nat, k ≤ xs.length ∧ g = xs.length - k ∧ i = .int .i64 k ∧ (∀ j (h1 : j < xs.length) (h2 : j < ys.length), j < k → xs[j] = ys[j]) ∧ Ext w wr)
    case atStart => exact ⟨0, Nat.zero_le _, rfl, rfl, fun j _ _ h => absurd h (by omega), Ext.refl _⟩
    case round =>
      obtain ⟨k, hk, rfl, rfl, hsame, hext⟩ := hrel
      have HS := Lib.hid hsame; clear hsame
      by_cases hlt : k < xs.length
      · have hz : (k : Int) < (xs.length : Int) := by omega
        have hlt2 : k < ys.length := by rw [← HL.out]; exact hlt
        have hz2 : (k : Int) < (ys.length : Int) := by omega
        obtain ⟨g1, o1, ak, ck, rfl, c1, _, _, rk⟩ := (HX.out.ext hext) k hlt
        obtain ⟨g2, o2, bk, dk, rfl, c2, _, _, sk⟩ := (HY.out.ext hext) k hlt2
        have RK := Lib.hid rk; clear rk
        have SK := Lib.hid sk; clear sk
        go_wp2_with fail
        go_still_tail 8, (by kernel_rfl)
        change wpList _ _ _ _ _ wr.drew
        obtain ⟨w2, hw2⟩ : ∃ w2, wr.drew = w2 := ⟨_, rfl⟩
        have e2 : Ext wr w2 := hw2 ▸ (Ext.refl wr).drew
        rw [hw2]
        clear hw2
        go_wp2_with fail
        refine (sameInts_any _ _ _ _ xs[k] ys[k] _ (RK.out.ext e2) (SK.out.ext e2) (HR.out _ (List.getElem_mem hlt)) (HR2.out _ (List.getElem_mem hlt2))).mono ?_
        rintro e w3 ⟨rfl, e3⟩
        have E3 := (hext.trans e2).trans e3
        by_cases he : xs[k] = ys[k]
        · have hb : decide (xs[k] = ys[k]) = true := by simpa using he
          rw [hb]
          have HE := Lib.hid he; clear he hb
          go_wp2_with fail
          go_roundg (xs.length - (k + 1))
          case measure => omega
          case rel => exact ⟨k + 1, by omega, rfl, by go_num, fun j h1 h2 hj => by
            by_cases e : j = k
            · subst e; exact HE.out
            · exact HS.out j h1 h2 (by omega), E3⟩
        · have hb : decide (xs[k] = ys[k]) = false := by simpa using he
          rw [hb]
          have HE := Lib.hid he; clear he hb
          go_wp2_with fail
          go_ret
          exact ⟨ret_bool (decide_eq_false (fun e => HE.out (by subst e; rfl))).symm, E3⟩
      · have hz : ¬ (k : Int) < (xs.length : Int) := by omega
        go_wp2_with fail
        go_ret
        exact ⟨ret_bool (decide_eq_true (eq_upto HL.out (fun j h1 h2 => HS.out j h1 h2 (by omega)))).symm, hext⟩
  · have hlb : ((xs.length : Int) != (ys.length : Int)) = true := by rw [bne_iff_ne]; omega
    have hlb2 : ¬ (xs.length : Int) = (ys.length : Int) := by omega
    have hne : ¬ xs = ys := fun e => hl (by rw [e])
    have HN := Lib.hid hne; clear hne hl
    go_enter Try.func26, Try.ntmps26
    go_wp2_with fail
    go_ret
    exact ⟨ret_bool (decide_eq_false HN.out).symm, Ext.refl _⟩
end Go.Proofs.Ytkldaapcpnpdfaa

/- Copies that the reference and the laws make; sizes; marks. -/
namespace Go.Proofs.Ytkldaapcpnpdfaa
open Go.RowKit Go.DC
theorem set_take1 {α : Type} {zs : List α} {k : Nat} {z : α} (h : k < zs.length) : (zs.take k ++ List.replicate (zs.length - k) z).set k zs[k] = zs.take (k + 1) ++ List.replicate (zs.length - (k + 1)) z := by
  apply List.ext_getElem
  · simp; omega
  · intro i h1 h2
    simp only [List.getElem_set, List.getElem_append, List.getElem_replicate, List.length_take, List.getElem_take]
    repeat' split
    all_goals first | rfl | omega | (rename_i h3 _; subst h3; rfl) | (rename_i h3; subst h3; rfl)
def sizeI (t : List (List Int)) : Nat := (t.map List.length).sum
theorem sizeI_take (t : List (List Int)) (i : Nat) (h : i < t.length) : sizeI (t.take (i + 1)) = sizeI (t.take i) + t[i].length := by
  unfold sizeI; rw [List.take_succ_eq_append_getElem h, List.map_append, List.sum_append]; simp
theorem sizeI_le (t : List (List Int)) (i : Nat) (h : i < t.length) : t[i].length ≤ sizeI t := by
  have h1 := sizeI_take t i h
  have h2 : sizeI t = sizeI (t.take (i + 1)) + sizeI (t.drop (i + 1)) := by
    unfold sizeI; rw [← List.sum_append, ← List.map_append, List.take_append_drop]
  omega
end Go.Proofs.Ytkldaapcpnpdfaa

/- The reference's checks of tables. -/
namespace Go.Proofs.Ytkldaapcpnpdfaa
open Go.RowKit Go.DC
def inBt (n lo hi : Int) : Bool := decide (lo ≤ n) && decide (n ≤ hi)
/-- A call that hands back v and only draws. -/
def Quiet (v : Value) (w : World) (e : Ending) (w' : World) : Prop := e = .returned v ∧ ∃ m, w' = w.drewN m
theorem Quiet.ext {v : Value} {w w' : World} {e : Ending} (h : Quiet v w e w') : e = .returned v ∧ Ext w w' := by
  obtain ⟨he, m, rfl⟩ := h
  exact ⟨he, (Ext.refl w).drewN m⟩
set_option maxRecDepth 10000 in
set_option maxHeartbeats 400000 in
theorem l6InT_any (n lo hi : Int) (w : World) :
    Calls Try.prog 49 #[.int .i64 n, .int .i64 lo, .int .i64 hi] w fun e w' => e = .returned (.bool (inBt n lo hi)) ∧ w = w' := by
  by_cases h : lo ≤ n
  · have hh : inBt n lo hi = decide (n ≤ hi) := by simp [inBt, h]
    have H := Lib.hid hh; clear hh
    go_enter Try.func49, Try.ntmps49
    go_wp2
    go_ret
    rw [H.out]; simp
  · have h' : decide (lo ≤ n) = false := by simpa using h
    have hh : inBt n lo hi = false := by simp [inBt, h]
    have H := Lib.hid hh; clear hh
    go_enter Try.func49, Try.ntmps49
    go_wp2
    go_ret
    rw [H.out]; simp
end Go.Proofs.Ytkldaapcpnpdfaa

/- The reference's difference of two tables. -/
namespace Go.Proofs.Ytkldaapcpnpdfaa
open Go.RowKit Go.DC
theorem shape_iff {s t : List (List Int)} (h1 : tabOk s = true) (h2 : tabOk t = true) : shape s = shape t ↔ s.length = t.length ∧ wide s = wide t := by
  obtain ⟨r1, a1, _, _, _, _⟩ := tabOk_rect h1
  obtain ⟨r2, b1, _, _, _, _⟩ := tabOk_rect h2
  constructor
  · intro e
    have r := shape_rect h1 e
    refine ⟨shape_len e, ?_⟩
    have := r.2 0 (by omega)
    rw [r2.2 0 (by omega)] at this
    exact this.symm
  · rintro ⟨e1, e2⟩
    exact shape_eq e1 (fun k h1' h2' => by rw [r1.2 k h1', r2.2 k h2', e2])
end Go.Proofs.Ytkldaapcpnpdfaa
