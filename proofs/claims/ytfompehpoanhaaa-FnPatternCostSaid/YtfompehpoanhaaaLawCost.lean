/- The laws FnPatternCost and FnExactPatternCost. -/
import Derived.Test.YtfompehpoanhaaaCost
import Derived.Test.YtfompehpoanhaaaTabDraw
import Derived.Test.YtfompehpoanhaaaTabEqB
import Derived.Test.YtfompehpoanhaaaTabEqI
namespace Go.Proofs.Ytfompehpoanhaaa
open Go.RowKit Go.DC
/-- The flags of the first k rows, and the first j ones of row k, are turned. -/
def turned (b : Nat → Nat → Bool) (k j : Nat) : Nat → Nat → Bool := fun i' j' => if i' < k ∨ (i' = k ∧ j' < j) then !b i' j' else b i' j'
theorem turned_step (b : Nat → Nat → Bool) (k j : Nat) : upd (turned b k j) k j (!turned b k j k j) = turned b k (j + 1) := by
  funext i' j'
  unfold upd turned
  by_cases e : i' = k ∧ j' = j
  · obtain ⟨rfl, rfl⟩ := e
    simp
  · rw [if_neg e]
    by_cases e2 : i' < k ∨ (i' = k ∧ j' < j)
    · rw [if_pos e2, if_pos (by omega)]
    · rw [if_neg e2, if_neg (by omega)]
theorem turned_row (h m : Nat) (b : Nat → Nat → Bool) (k : Nat) : tabOf h m (turned b k m) = tabOf h m (turned b (k + 1) 0) := tabOf_congr fun i j _ hj => by
  unfold turned
  by_cases e : i < k ∨ (i = k ∧ j < m)
  · rw [if_pos e, if_pos (by omega)]
  · rw [if_neg e, if_neg (by omega)]
theorem maskOk_tabOf {t : List (List Int)} (ht : tabOk t = true) (b : Nat → Nat → Bool) : maskOk t (tabOf t.length (wide t) b) = true :=
  maskOk_yes ht (tabOf_length _ _ _) (fun _ hk => tabOf_rowlen _ _ _ hk)
theorem costT_tabOf (t : List (List Int)) (b : Nat → Nat → Bool) : costT t (tabOf t.length (wide t) b) = sumN t.length (fun i => sumN (wide t) (fun j => if b i j then get 0 t i j else 0)) :=
  sumN_congr fun i hi => sumN_congr fun j hj => by unfold costG; rw [get_tabOf b hi hj]
theorem cost_turned {t : List (List Int)} {m : List (List Bool)} (h : maskOk t m = true) : totalOf t = costOf t m + costOf t (tabOf t.length (wide t) (turned (get false m) t.length 0)) := by
  obtain ⟨hok, hr⟩ := maskOk_rect h
  unfold totalOf costOf
  rw [if_pos hok, if_pos h, if_pos (maskOk_tabOf hok _), costT_tabOf]
  unfold costT totT
  rw [← sumN_add]
  refine sumN_congr fun i hi => ?_
  rw [← sumN_add]
  refine sumN_congr fun j hj => ?_
  unfold costG turned
  cases get false m i j <;> simp [hi]
theorem allM_tabOf {t : List (List Int)} (h : tabOk t = true) (b : Bool) : allM t b = tabOf t.length (wide t) (fun _ _ => b) := by
  obtain ⟨r, _⟩ := tabOk_rect h
  rw [← replicate_tab]
  apply List.ext_getElem
  · simp [allM]
  · intro i h1 h2
    have hi : i < t.length := by simpa [allM] using h1
    simp [allM, r.2 i hi]
theorem cost_all {t : List (List Int)} (h : tabOk t = true) : costOf t (allM t true) = totalOf t := by
  unfold totalOf costOf
  rw [if_pos h, allM_tabOf h, if_pos (maskOk_tabOf h _), costT_tabOf]
  rfl
theorem costOf_bd {t : List (List Int)} {m : List (List Bool)} (h : maskOk t m = true) : 0 ≤ costOf t m ∧ costOf t m ≤ 1584 := by
  obtain ⟨hok, hr⟩ := maskOk_rect h
  obtain ⟨_, _, h4, _, m4, hc⟩ := tabOk_rect hok
  unfold costOf
  rw [if_pos h]
  have h1 : ∀ i, i < t.length → 0 ≤ sumN (wide t) (costG t m i) ∧ sumN (wide t) (costG t m i) ≤ 396 := fun i hi => by
    have a1 := sum_bd (n := wide t) (F := costG t m i) (B := 99) (fun j hj => by have := hc i j hi hj; unfold costG; split <;> omega) (wide t) (Nat.le_refl _)
    have a2 := sumN_nonneg (n := wide t) (f := costG t m i) (fun j hj => by have := hc i j hi hj; unfold costG; split <;> omega)
    omega
  have a1 := sum_bd (n := t.length) (F := fun i => sumN (wide t) (costG t m i)) (B := 396) (fun i hi => by have := h1 i hi; omega) t.length (Nat.le_refl _)
  have a2 := sumN_nonneg (n := t.length) (f := fun i => sumN (wide t) (costG t m i)) (fun i hi => (h1 i hi).1)
  unfold costT
  omega
set_option maxHeartbeats 4000000 in
theorem FnPatternCost_walk (a0 : Option Addr) (c0 : Nat) (xs : List Int) (w : World) (hx : Bytes w a0 xs) (hm0 : xs.length ≤ 9223372036854775807) (hl0 : xs.length ≤ c0) :
    Calls Try.prog 5 #[.slice a0 xs.length c0] w fun e w' => e = .returned (.bool true) ∧ Ext w w' := by
  by_cases hX : 1048576 < xs.length
  · have hz : (1048576 : Int) < (xs.length : Int) := by omega
    go_enter Try.func5, Try.ntmps5
    go_wp2_with fail
    go_ret
    exact ⟨rfl, Ext.refl _⟩
  have hz0 : ¬ (1048576 : Int) < (xs.length : Int) := by omega
  have hb0 : decide (1048576 < xs.length) = false := by simpa using hX
  have HX := Lib.hid hx; clear hx
  go_enter Try.func5, Try.ntmps5
  go_wp2_with fail
  refine (DrawPatternCost_any _ _ xs _ HX.out hm0 hl0).mono ?_
  rintro e w1 ⟨v1, vs1, t, v2, vs2, m, rfl, o1, o2, ht4, htr, hm5, hmr, e1⟩
  obtain ⟨a, c, rfl, _, rt, _⟩ := o1.rows
  obtain ⟨b, d, rfl, _, rm, _⟩ := o2.rows
  have RT := Lib.hid rt; have RM := Lib.hid rm; have HTR := Lib.hid htr; have HMR := Lib.hid hmr
  clear rt rm o1 o2 htr hmr
  go_wp2_with fail
  refine (PatternCost_any _ _ _ _ t m _ RT.out RM.out (by omega) (by omega)).mono ?_
  rintro e w2 ⟨rfl, e2⟩
  go_wp2_with fail
  refine (sPatternCost_any _ _ _ _ t m _ (RT.out.ext e2) (RM.out.ext e2) (by omega) (by omega)).mono ?_
  rintro e w3 ⟨rfl, e3⟩
  have E3 := (e1.trans e2).trans e3
  cases hmok : maskOk t m with
  | false =>
    have hc : costOf t m = -1 := by unfold costOf; rw [hmok]; rfl
    rw [hc]
    clear hmok hc
    go_wp2_with fail
    go_ret
    exact ⟨rfl, E3⟩
  | true =>
    obtain ⟨hc0, hc1⟩ := costOf_bd hmok
    have hCT := cost_turned hmok
    obtain ⟨hok, hrm⟩ := maskOk_rect hmok
    have hCA := cost_all hok
    obtain ⟨r, h1, h4, m1, m4, _⟩ := tabOk_rect hok
    obtain ⟨hv0, hv1⟩ := costOf_bd (maskOk_tabOf hok (turned (get false m) t.length 0))
    have hmeq := hrm.eq false
    have CT := Lib.hid hCT; have CA := Lib.hid hCA; have R := Lib.hid r; have RMM := Lib.hid hrm; have ME := Lib.hid hmeq
    clear hCT hCA r hrm hmeq hmok hok
    obtain ⟨u, hu⟩ : ∃ u, costOf t m = u := ⟨_, rfl⟩
    rw [hu] at CT hc0 hc1
    simp only [hu]
    have hnn : ¬ u < 0 := by omega
    have hnb : decide (u < 0) = false := by simpa using hnn
    have hbb : (u != u) = false := by simp
    have x13 := e2.trans e3
    go_wp2_with fail
    refine (copyMask_any _ _ m _ (RM.out.ext x13) (by omega) (fun k hk => by have := HMR.out _ (List.getElem_mem hk); omega)).mono ?_
    rintro e w4 ⟨v4, vs4, rfl, o4, e4⟩
    have E4 := E3.trans e4
    have RT3 := Lib.hid (RT.out.ext x13)
    rw [show m = tabOf t.length (wide t) (turned (get false m) 0 0) by rw [tabOf_congr (f := get false m) (fun i j _ _ => by unfold turned; simp)]; exact ME.out] at o4
    obtain ⟨b4, d4, hv4, _, _, _⟩ := o4.rows
    rw [tabOf_length] at hv4
    subst hv4
    obtain ⟨bf, hbf⟩ : ∃ bf, get false m = bf := ⟨_, rfl⟩
    rw [hbf] at o4 CT hv0 hv1
    obtain ⟨H, hH⟩ : ∃ H, t.length = H := ⟨_, rfl⟩
    obtain ⟨M, hM⟩ : ∃ M, wide t = M := ⟨_, rfl⟩
    rw [hH, hM] at o4 CT hv0 hv1 R
    rw [hH] at h1 h4 ht4
    rw [hM] at m1 m4
    simp only [hH]
    have HH := Lib.hid hH; have HM' := Lib.hid hM
    obtain ⟨oB, _, _, _, evB, _⟩ := o4.atC (i := 0) (j := 0) (by omega) (by omega)
    cases evB
    clear hH hM hbf e2 e3 x13 RM RT hu HMR ME RMM
    go_wp2_with fail
    go_loopg [8] H (fun g i wr => ∃ k : Nat, k ≤ H ∧ g = H - k ∧ i = .int .i64 k ∧ OwnB wr w3.heap.size (.slice (some ⟨oB, 0, none⟩) H d4) vs4 (tabOf H M (turned bf k 0)) ∧ Ext w3 wr)
    case atStart => exact ⟨0, Nat.zero_le _, rfl, rfl, o4, e4⟩
    case round =>
      clear o4
      obtain ⟨k, hk, rfl, rfl, own, hext⟩ := hrel
      by_cases hlt : k < H
      · have hz : (k : Int) < (H : Int) := by omega
        go_wp2_with fail
        go_loopg [9] M (fun g i wi => ∃ j : Nat, j ≤ M ∧ g = M - j ∧ i = .int .i64 j ∧ OwnB wi w3.heap.size (.slice (some ⟨oB, 0, none⟩) H d4) vs4 (tabOf H M (turned bf k j)) ∧ Ext w3 wi)
        case atStart => exact ⟨0, Nat.zero_le _, rfl, rfl, own, hext⟩
        case round =>
          clear own hext
          obtain ⟨j, hj, rfl, rfl, own, hext⟩ := hrel
          by_cases hjt : j < M
          · have hjz : (j : Int) < (M : Int) := by omega
            obtain ⟨o, co, g, ck, ev, ho, co1, hg, hgo, hvs, cg, fg, _⟩ := own.atC hlt hjt
            cases ev
            have hset := own.setC (j := j) hlt hvs (!turned bf k j k j)
            rw [turned_step] at hset
            obtain ⟨z, hz'⟩ : ∃ z, turned bf k j k j = z := ⟨_, rfl⟩
            rw [hz'] at cg hset
            unfold encB at cg hset
            have HS := Lib.hid hset
            have hs4 : w3.heap.size ≤ g := hg
            have hE := Lib.hid hext
            clear own hset hz' hext
            go_wp2_with fail
            go_still_tail 14, (by kernel_rfl)
            change wpList _ _ _ _ _ wr.drew
            go_wp2_with fail
            go_roundg (M - (j + 1))
            case measure => omega
            case rel => exact ⟨j + 1, by omega, rfl, by go_num, HS.out.ext ((Ext.refl _).drew), (hE.out.setCell (p := ⟨g, j, none⟩) hs4 _).drew⟩
          · have hjz : ¬ (j : Int) < (M : Int) := by omega
            have hjm : j = M := by omega
            obtain ⟨_, _, eo, _, rowso, _⟩ := own.rows
            rw [tabOf_length] at eo
            cases eo
            obtain ⟨_, _, _, _, ea, hco⟩ := rowso.rowC (rect_tabOf _ _ _) hlt
            cases ea
            have HJ := Lib.hid hjm; clear hjm rowso
            simp only [Nat.zero_add] at hco
            have own' : OwnB wr w3.heap.size (.slice (some ⟨oB, 0, none⟩) H d4) vs4 (tabOf H M (turned bf (k + 1) 0)) := by
              rw [← turned_row]; have e := HJ.out; subst e; exact own
            clear own
            go_wp2_with fail
            go_roundg (H - (k + 1))
            case measure => omega
            case rel => exact ⟨k + 1, by omega, rfl, by go_num, own', hext⟩
      · have hz : ¬ (k : Int) < (H : Int) := by omega
        have hkh : k = H := by omega
        have HK := Lib.hid hkh; clear hkh
        obtain ⟨_, _, eo, _, rowso, _⟩ := own.rows
        rw [tabOf_length] at eo
        cases eo
        have rows4 : BRows wr (some ⟨oB, 0, none⟩) (tabOf H M (turned bf H 0)) := by have := HK.out; subst this; exact rowso
        have RW := Lib.hid rows4
        have E5 := (E3.trans hext)
        have RT5 := Lib.hid (RT3.out.ext hext)
        have hxl : (tabOf H M (turned bf H 0)).length = H := tabOf_length _ _ _
        have pc := PatternCost_any a (some ⟨oB, 0, none⟩) c d4 t (tabOf H M (turned bf H 0)) wr RT5.out RW.out (by rw [HH.out]; omega) (by rw [hxl]; omega)
        rw [HH.out, hxl] at pc
        obtain ⟨v, hv⟩ : ∃ v, costOf t (tabOf H M (turned bf H 0)) = v := ⟨_, rfl⟩
        rw [hv] at pc hv0 hv1 CT
        have PC := Lib.hid pc
        have hwr : IntKind.i64.wrap (u + v) = u + v := IntWalk.i64_in _ (by omega)
        clear own rowso rows4 pc hxl hv
        go_wp2_with fail
        refine PC.out.mono ?_
        rintro e w5 ⟨rfl, e5⟩
        have tt := TableTotal_any a c t w5 (RT5.out.ext e5) (by rw [HH.out]; omega)
        rw [HH.out, CT.out] at tt
        have TT := Lib.hid tt; clear tt
        go_wp2_with fail
        refine TT.out.mono ?_
        rintro e w6 ⟨rfl, e6⟩
        have hee : (u + v == u + v) = true := by simp
        have am := allMask_any a c t true w6 (RT5.out.ext (e5.trans e6)) (by rw [HH.out]; omega) (fun k hk => by have := HTR.out _ (List.getElem_mem hk); omega)
        rw [HH.out] at am
        have AM := Lib.hid am; clear am
        go_wp2_with fail
        refine AM.out.mono ?_
        rintro e w7 ⟨v7, vs7, rfl, o7, e7⟩
        obtain ⟨a7, c7, hv7, _, r7, _⟩ := o7.rows
        subst hv7
        have x57 := (e5.trans e6).trans e7
        have hal : (allM t true).length = H := by simp [allM, HH.out]
        have pc2 := PatternCost_any a a7 c c7 t (allM t true) w7 (RT5.out.ext x57) r7 (by rw [HH.out]; omega) (by rw [hal]; omega)
        rw [HH.out, hal, CA.out, CT.out] at pc2
        have PC2 := Lib.hid pc2
        rw [hal]
        clear pc2 o7 r7 hal
        go_wp2_with fail
        refine PC2.out.mono ?_
        rintro e w8 ⟨rfl, e8⟩
        have tt := TableTotal_any a c t w8 (RT5.out.ext (x57.trans e8)) (by rw [HH.out]; omega)
        rw [HH.out, CT.out] at tt
        have TT := Lib.hid tt; clear tt
        go_wp2_with fail
        refine TT.out.mono ?_
        rintro e w9 ⟨rfl, e9⟩
        go_wp2_with fail
        go_ret
        exact ⟨rfl, E5.trans ((x57.trans e8).trans e9)⟩
end Go.Proofs.Ytfompehpoanhaaa
