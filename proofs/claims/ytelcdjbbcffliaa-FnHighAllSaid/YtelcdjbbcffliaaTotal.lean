/- Totals. -/
import Derived.Test.YtelcdjbbcffliaaSums
namespace Go.Proofs.Ytelcdjbbcffliaa
open Go.RowKit Go.DC Go.Shelf
attribute [local go_sem] Oper.semAt_some
def totT (t : List (List Int)) : Int := sumN t.length (fun i => sumN (wide t) (get 0 t i))
def totalOf (t : List (List Int)) : Int := if tabOk t then totT t else -1
theorem rowOf_eq (h : Nat) (F : Nat → Int) : rowOf h F = ((List.range h).map F).map encI := by simp [rowOf]
set_option maxHeartbeats 1000000 in
theorem total_any (a : Option Addr) (c h B : Nat) (F : Nat → Int) (w : World) (hr : w.ownsRow B 3 1 (.slice a h c) h (rowOf h F)) (hh : h ≤ 8) (hb : ∀ i, i < h → -100000000 ≤ F i ∧ F i ≤ 100000000) :
    Calls Try.prog 64 #[.slice a h c] w fun e w' => e = .returned (.int .i64 (sumN h F)) ∧ w = w' := by
  have HR := Lib.hid hr; clear hr
  have HB := Lib.hid hb; clear hb
  have hbd : ∀ k, k ≤ h → -(100000000 * (k : Int)) ≤ sumN k F ∧ sumN k F ≤ 100000000 * (k : Int) := fun k => by
    induction k with
    | zero => intro _; simp [sumN]
    | succ k ih =>
      intro hk
      have h1 := ih (by omega)
      have h2 := HB.out k (by omega)
      simp only [sumN]
      omega
  have HBD := Lib.hid hbd; clear hbd
  go_enter Try.func64, Try.ntmps64
  go_wp2_with fail
  go_loop [3, 8] (fun s i => ∃ k : Nat, k ≤ h ∧ i = .int .i64 k ∧ s = .int .i64 (sumN k F)) (fun _ i => h - (intOf i).toNat)
  case atStart => exact ⟨0, Nat.zero_le _, rfl, rfl⟩
  case round =>
    obtain ⟨k, hk, rfl, rfl⟩ := hrel
    by_cases hlt : k < h
    · have hz : (k : Int) < (h : Int) := by omega
      obtain ⟨a', c', e', _, hx⟩ := owns_cells HR.out
      cases e'
      obtain ⟨g, rfl, _, hc, _⟩ := hx k _ (rowOf_at F hlt)
      have h1 := HBD.out k (by omega)
      have h2 := HB.out k hlt
      obtain ⟨y, hy⟩ : ∃ y, F k = y := ⟨_, rfl⟩
      obtain ⟨u, hu⟩ : ∃ u, sumN k F = u := ⟨_, rfl⟩
      rw [hy] at hc h2
      rw [hu] at h1 ⊢
      have hs : sumN (k + 1) F = u + y := by rw [sumN, hy, hu]
      have HS := Lib.hid hs; clear hs hy hu hx
      obtain ⟨h10, h11⟩ := h1
      obtain ⟨h20, h21⟩ := h2
      have hk8 : (k : Int) ≤ 8 := by omega
      unfold encI at hc
      go_wp2_with fail
      go_round
      case rel => exact ⟨k + 1, by omega, by go_num, by rw [HS.out]⟩
      case measure => simp [intOf]; omega
    · have hz : ¬ (k : Int) < (h : Int) := by omega
      have hkh : k = h := by omega
      have HK := Lib.hid hkh; clear hkh
      go_wp2_with fail
      go_ret
      exact ⟨by rw [HK.out]; rfl, rfl⟩
theorem sum_bd {n : Nat} {F : Nat → Int} {B : Int} (h : ∀ i, i < n → -B ≤ F i ∧ F i ≤ B) : ∀ k, k ≤ n → -(B * (k : Int)) ≤ sumN k F ∧ sumN k F ≤ B * (k : Int)
  | 0, _ => by simp [sumN]
  | k + 1, hk => by
    have h1 := sum_bd h k (by omega)
    have h2 := h k (by omega)
    rw [sumN, Int.natCast_succ, Int.mul_add]
    omega
/-- What is needed of a valid table. -/
theorem tabOk_bd {t : List (List Int)} (h : tabOk t = true) : ∀ i j, i < t.length → j < wide t → -1000000 ≤ get 0 t i j ∧ get 0 t i j ≤ 1000000 := fun i j hi hj => by
  have := (tabOk_rect h).2.2.2.2.2 i j hi hj
  omega
theorem rowsum_bd {t : List (List Int)} (h : tabOk t = true) : ∀ i, i < t.length → 0 ≤ sumN (wide t) (get 0 t i) ∧ sumN (wide t) (get 0 t i) ≤ 396 := fun i hi => by
  obtain ⟨_, _, h4, _, m4, hc⟩ := tabOk_rect h
  have h1 := sum_bd (n := wide t) (F := get 0 t i) (B := 99) (fun j hj => by have := hc i j hi hj; omega) (wide t) (Nat.le_refl _)
  have h2 := sumN_nonneg (n := wide t) (f := get 0 t i) (fun j hj => (hc i j hi hj).1)
  omega
set_option maxHeartbeats 1000000 in
theorem TableTotal_any (a : Option Addr) (c : Nat) (t : List (List Int)) (w : World) (ht : IRows w a t) (hm : t.length ≤ 9223372036854775807) :
    Calls Try.prog 37 #[.slice a t.length c] w (Ret (.int .i64 (totalOf t)) w) := by
  have HT := Lib.hid ht; clear ht
  go_enter Try.func37, Try.ntmps37
  go_wp2_with fail
  refine (TableValid_any _ _ t _ HT.out hm).mono ?_
  rintro e w' ⟨rfl, rfl⟩
  cases o1 : tabOk t
  · have hd : totalOf t = -1 := by simp [totalOf, o1]
    have HD := Lib.hid hd; clear hd o1
    go_wp2_with fail
    go_ret
    exact ⟨by rw [HD.out]; rfl, Ext.refl _⟩
  have O1 := Lib.hid o1; clear o1
  obtain ⟨r, h1, h4, m1, m4, _⟩ := tabOk_rect O1.out
  have R := Lib.hid r; clear r
  go_wp2_with fail
  refine (sumsOf_any _ _ t.length (wide t) t _ HT.out R.out h1 h4 m1 m4 (tabOk_bd O1.out)).mono ?_
  rintro e w1 ⟨v1, v2, rfl, o1, o2, e1⟩
  obtain ⟨a1, c1, hv, _, _⟩ := owns_cells o1
  subst hv
  have OO := Lib.hid o1; clear o1 o2
  go_wp2_with fail
  refine (total_any _ _ t.length _ (fun i => sumN (wide t) (get 0 t i)) _ OO.out (by omega) (fun i hi => by have := rowsum_bd O1.out i hi; omega)).mono ?_
  rintro e w' ⟨rfl, rfl⟩
  go_wp2_with fail
  go_ret
  exact ⟨by unfold totalOf; rw [O1.out]; rfl, e1⟩
def SumsRet (t : List (List Int)) (w : World) (e : Ending) (w' : World) : Prop :=
  ∃ v1 v2, e = .returned (.tuple #[v1, v2, .bool (tabOk t)]) ∧ Ext w w' ∧
    (if tabOk t then w'.ownsRow w.heap.size 3 1 v1 t.length (rowOf t.length fun i => sumN (wide t) (get 0 t i)) ∧ w'.ownsRow w.heap.size 3 1 v2 (wide t) (rowOf (wide t) fun j => sumN t.length (fun i => get 0 t i j)) else v1 = .slice none 0 0 ∧ v2 = .slice none 0 0)
set_option maxHeartbeats 1000000 in
theorem TableSums_any (a : Option Addr) (c : Nat) (t : List (List Int)) (w : World) (ht : IRows w a t) (hm : t.length ≤ 9223372036854775807) :
    Calls Try.prog 28 #[.slice a t.length c] w (SumsRet t w) := by
  have HT := Lib.hid ht; clear ht
  go_enter Try.func28, Try.ntmps28
  go_wp2_with fail
  refine (TableValid_any _ _ t _ HT.out hm).mono ?_
  rintro e w' ⟨rfl, rfl⟩
  cases o1 : tabOk t
  · have O1 := Lib.hid o1; clear o1
    go_wp2_with fail
    go_ret3
    exact ⟨_, _, by rw [O1.out]; rfl, Ext.refl _, by rw [O1.out]; exact ⟨rfl, rfl⟩⟩
  have O1 := Lib.hid o1; clear o1
  obtain ⟨r, h1, h4, m1, m4, _⟩ := tabOk_rect O1.out
  have R := Lib.hid r; clear r
  go_wp2_with fail
  refine (sumsOf_any _ _ t.length (wide t) t _ HT.out R.out h1 h4 m1 m4 (tabOk_bd O1.out)).mono ?_
  rintro e w1 ⟨v1, v2, rfl, o1, o2, e1⟩
  have OO := Lib.hid o1; have OP := Lib.hid o2; clear o1 o2
  go_wp2_with fail
  go_ret3
  exact ⟨_, _, by rw [O1.out]; rfl, e1, by rw [O1.out]; exact ⟨OO.out, OP.out⟩⟩
end Go.Proofs.Ytelcdjbbcffliaa
