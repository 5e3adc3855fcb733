/- The walk of FnDiffSameAdd. -/
import Derived.Test.YtkldaapcpnpdfaaAddLaw
namespace Go.Proofs.Ytkldaapcpnpdfaa
open Go.RowKit Go.DC
theorem code_same {P : Program} {Q : Exit → Act → World → Prop} {a : Act} {w : World} {c c' : Code} (e : c = c') (h : c'.wp P Q a w) : c.wp P Q a w := by rw [e]; exact h
set_option maxRecDepth 10000 in
set_option maxHeartbeats 4000000 in
theorem FnDiffSameAdd_walk (a0 : Option Addr) (c0 : Nat) (xs : List Int) (a1 : Option Addr) (c1 : Nat) (ys : List Int) (w : World) (hx : Bytes w a0 xs) (hm0 : xs.length ≤ 9223372036854775807) (hl0 : xs.length ≤ c0) (_hy : Bytes w a1 ys) (hm1 : ys.length ≤ 9223372036854775807) (_hl1 : ys.length ≤ c1) :
    Calls Try.prog 7 #[.slice a0 xs.length c0, .slice a1 ys.length c1] w fun e w' => e = .returned (.bool true) ∧ Ext w w' := by
  by_cases hX : 1048576 < xs.length
  · have hz : (1048576 : Int) < (xs.length : Int) := by omega
    go_enter Try.func7, Try.ntmps7
    go_wp2_with fail
    go_ret
    exact ⟨rfl, Ext.refl _⟩
  have hz0 : ¬ (1048576 : Int) < (xs.length : Int) := by omega
  have hb0 : decide (1048576 < xs.length) = false := by simpa using hX
  by_cases hY : 1048576 < ys.length
  · have hz : (1048576 : Int) < (ys.length : Int) := by omega
    go_enter Try.func7, Try.ntmps7
    go_wp2_with fail
    go_ret
    exact ⟨rfl, Ext.refl _⟩
  have hz1 : ¬ (1048576 : Int) < (ys.length : Int) := by omega
  have hb1 : decide (1048576 < ys.length) = false := by simpa using hY
  have HX := Lib.hid hx; clear hx
  go_enter Try.func7, Try.ntmps7
  go_wp2_with fail
  refine (DrawDiffSame_any _ _ xs _ HX.out hm0 hl0).mono ?_
  rintro e w1 ⟨u, v, ps, qs, rfl, hl, hl2, own, own2, e1⟩
  obtain ⟨a, c, rfl, hc, pers⟩ := own.pers
  obtain ⟨b, d, rfl, hd, pers2⟩ := own2.pers
  have hnP := Lib.hid own.nil
  have hnQ := Lib.hid own2.nil
  have HP := Lib.hid pers; clear pers own
  have HQ := Lib.hid pers2; clear pers2 own2
  go_wp2_with fail
  refine (DiffSame_any _ _ _ _ ps qs _ HP.out HQ.out (by omega) (by omega)).mono ?_
  rintro e w2 ⟨rfl, e2⟩
  go_wp2_with fail
  refine (sDiffSame_any _ _ _ _ ps qs _ (HP.out.ext e2) (HQ.out.ext e2) (by omega) (by omega)).mono ?_
  rintro e w3 ⟨rfl, e3⟩
  have E3 := (e1.trans e2).trans e3
  have hbne : (diffSame ps qs != diffSame ps qs) = false := by simp
  have hbeq : (diffSame ps qs == diffSame ps qs) = true := by simp
  by_cases hneg : diffSame ps qs < 0
  · obtain ⟨ds, hds⟩ : ∃ ds, diffSame ps qs = ds := ⟨_, rfl⟩
    rw [hds] at hneg hbne hbeq ⊢
    clear hds
    go_wp2_with fail
    go_ret
    exact ⟨rfl, E3⟩
  obtain ⟨o1, o2⟩ := diffSame_ok (by omega : 0 ≤ diffSame ps qs)
  have hds := diffSame_of o1 o2
  rw [hds] at hneg hbne hbeq ⊢
  have hle1 := common_le ps qs
  have hle2 := common_le_right ps qs
  have P3 := HP.out.ext (e2.trans e3)
  have Q3 := HQ.out.ext (e2.trans e3)
  have HP3 := Lib.hid P3; clear P3
  have HQ3 := Lib.hid Q3; clear Q3
  have O1 := Lib.hid o1; have O2 := Lib.hid o2
  have l1 := okPers_len o1; have l2 := okPers_len o2
  clear hds o1 o2 HP HQ e1 e2 e3
  obtain ⟨m, hm⟩ : ∃ m, common ps qs = m := ⟨_, rfl⟩
  rw [hm] at hneg hbne hbeq hle1 hle2 ⊢
  have HM := Lib.hid hm
  clear hm
  have hmge : (m : Int) ≥ 0 := by omega
  have dmge : decide ((m : Int) ≥ 0) = true := decide_eq_true hmge
  by_cases hA : ps.length = 0
  · have hA1 : ((ps.length : Int) == 0) = true := beq_iff_eq.2 (by omega)
    clear l1 l2 hl hl2 hc hd hle1 hle2
    go_wp2_with fail
    go_ret
    exact ⟨rfl, E3⟩
  have hA1 : ((ps.length : Int) == 0) = false := beq_eq_false_iff_ne.2 (by omega)
  by_cases hB : ps.length = 40
  · have hB1 : ((ps.length : Int) == 40) = true := beq_iff_eq.2 (by omega)
    clear hB l1 l2 hl hl2 hc hd hle1 hle2
    go_wp2_with fail
    go_ret
    exact ⟨rfl, E3⟩
  have hB1 : ((ps.length : Int) == 40) = false := beq_eq_false_iff_ne.2 (by omega)
  by_cases hC : qs.length = 40
  · have hC1 : ((qs.length : Int) == 40) = true := beq_iff_eq.2 (by omega)
    clear hC l1 l2 hl hl2 hc hd hle1 hle2
    go_wp2_with fail
    go_ret
    exact ⟨rfl, E3⟩
  have hC1 : ((qs.length : Int) == 40) = false := beq_eq_false_iff_ne.2 (by omega)
  obtain ⟨k, hkk⟩ : ∃ k, ys.length % ps.length = k := ⟨_, rfl⟩
  have hk1 : k < ps.length := by rw [← hkk]; exact Nat.mod_lt _ (by omega)
  have hmod : (ys.length : Int) % (ps.length : Int) = (k : Int) := by rw [← hkk]; exact (Int.natCast_emod _ _).symm
  have tmod : (ys.length : Int).tmod (ps.length : Int) = (k : Int) := by rw [Int.tmod_eq_emod_of_nonneg (by omega)]; exact hmod
  have wk : IntKind.i64.wrap (k : Int) = (k : Int) := IntWalk.i64_in _ (by omega)
  have hkz : (k : Int) < (ps.length : Int) := by omega
  have hn0 : ¬ (ps.length : Int) = 0 := by omega
  clear hkk
  obtain ⟨p, hp⟩ : ∃ p, ps[k] = p := ⟨_, rfl⟩
  obtain ⟨b0, off, ea, q0, q1, q2, q3⟩ := HP3.out k hk1
  subst ea
  rw [hp] at q0 q1 q2 q3
  have HPK := Lib.hid hp
  clear hp
  have ho : p.ok = true := by rw [← HPK.out]; exact okPers_ok O1.out hk1
  have hsame : diffSame (ps ++ [p]) (qs ++ [p]) = (m : Int) + 1 := by
    rw [diffSame_of (okPers_snoc O1.out ho (by omega)) (okPers_snoc O2.out ho (by omega)), common_add, HM.out]
    rfl
  have SAME := Lib.hid hsame
  clear hsame ho
  go_upto_region 11 with fail
  clear q0 q1 q2 q3 hmod tmod wk
  have c0' := new_cells4 w3 p 36 0 _ rfl
  have c1' := new_cells4 w3 p 36 1 _ rfl
  have c2' := new_cells4 w3 p 36 2 _ rfl
  have c3' := new_cells4 w3 p 36 3 _ rfl
  have X3 : Ext w3 (w3.alloc (.cells #[.int .i64 p.area, .int .i64 p.job, .int .i64 p.sex, .int .i64 p.pay] 36)) := (Ext.refl w3).alloc _
  obtain ⟨wa, hwa⟩ : ∃ wa, w3.alloc (.cells #[.int .i64 p.area, .int .i64 p.job, .int .i64 p.sex, .int .i64 p.pay] 36) = wa := ⟨_, rfl⟩
  rw [hwa] at c0' c1' c2' c3' X3 ⊢
  clear hwa
  go_cut [4] from 62 (fun s wx => s = .bool true ∧ Ext w3 wx)
  case first =>
    rename_i J K' hJ hK
    refine code_same (c' := .region 11 addOps true) (by kernel_rfl) ?_
    refine wp_region_any (by kernel_rfl) ?_
    refine add_all (w3 := wa) (ps := ps) (qs := qs) (p := p) (out := m) (g := w3.heap.size) ⟨rfl, rfl, (src_all HP3.out hnP.out).ext X3, (src_all HQ3.out hnQ.out).ext X3, l1, l2, rfl, rfl, rfl, rfl, c0', c1', c2', c3', by omega, by omega, SAME.out⟩ _ _ ((Ext.refl wa).drew) rfl ?_
    intro l a2 w2 hI h4
    exact hK _ _ (Met.intro (hJ _ _ ⟨slot a2 4, slot a2 62, slot a2 63, slot a2 64, slot a2 65, slot a2 66, slot a2 67, slot a2 68, slot a2 69, slot a2 70, slot a2 71, slot a2 72, slot a2 73, slot a2 74, slot a2 75, slot a2 76, slot a2 77, ⟨h4, X3.trans hI.ext⟩, hI.frame.trans rfl⟩))
  case rest =>
    obtain ⟨rfl, ex⟩ := hcut
    go_wp2_with fail
    go_ret
    exact ⟨rfl, E3.trans ex⟩
end Go.Proofs.Ytkldaapcpnpdfaa
