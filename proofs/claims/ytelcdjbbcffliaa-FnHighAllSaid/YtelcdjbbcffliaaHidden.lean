/- A drawn table with a mask and a cell that is often hidden. -/
import Derived.Test.YtelcdjbbcffliaaMaskDraw
import Derived.Test.YtelcdjbbcffliaaBound0
namespace Go.Proofs.Ytelcdjbbcffliaa
open Go.RowKit Go.DC
theorem results_tmp4 {fn : Func} {t u v x : Tmp} (h : fn.results = #[.tmp t, .tmp u, .tmp v, .tmp x]) (tmps : Array Value) (P : Program) (w : World) :
    (results fn tmps).run P w = .ok (.tuple #[tmps.getD t undef, tmps.getD u undef, tmps.getD v undef, tmps.getD x undef]) w := by
  simp [results, h]
theorem results_tmp5 {fn : Func} {t u v x y : Tmp} (h : fn.results = #[.tmp t, .tmp u, .tmp v, .tmp x, .tmp y]) (tmps : Array Value) (P : Program) (w : World) :
    (results fn tmps).run P w = .ok (.tuple #[tmps.getD t undef, tmps.getD u undef, tmps.getD v undef, tmps.getD x undef, tmps.getD y undef]) w := by
  simp [results, h]
/-- What is drawn. -/
def HidOut (r p : Nat) (w : World) (e : Ending) (w' : World) : Prop :=
  ∃ a1 c1 vs1 t a2 c2 vs2 mk i j, e = .returned (.tuple #[.slice a1 t.length c1, .slice a2 mk.length c2, .int .i64 i, .int .i64 j]) ∧ OwnI w' w.heap.size (.slice a1 t.length c1) vs1 t ∧ OwnB w' w.heap.size (.slice a2 mk.length c2) vs2 mk
    ∧ t.length ≤ 4 ∧ (∀ x ∈ t, x.length ≤ 4) ∧ mk.length ≤ 5 ∧ (∀ x ∈ mk, x.length ≤ 4) ∧ (0 ≤ i ∧ i ≤ 4) ∧ (-1 ≤ j ∧ j ≤ 4) ∧ (∃ p', p' ≤ p + 60 ∧ Rd w' r p') ∧ Keep r w w'
theorem small_set {mk : List (List Bool)} {k l : Nat} (hk : k < mk.length) (h : ∀ x ∈ mk, x.length ≤ 4) : ∀ x ∈ mk.set k (mk[k].set l true), x.length ≤ 4 := fun x hx => by
  rcases List.mem_or_eq_of_mem_set hx with h1 | h1
  · exact h x h1
  · rw [h1]; simpa using h _ (List.getElem_mem hk)
set_option maxRecDepth 10000 in
set_option maxHeartbeats 4000000 in
theorem l92Hidden_any (r p : Nat) (w : World) (h : Rd w r p) (hp : p ≤ 700000) :
    Calls Try.prog 40 #[.pointer (some ⟨r, 0, none⟩)] w (HidOut r p w) := by
  have hr := h.lt
  go_enter Try.func40, Try.ntmps40
  go_wp2_with fail
  refine (l92Table_any r p 7 _ h (by omega) (by omega) (by omega)).mono ?_
  rintro e w1 ⟨v1, vs1, t, rfl, o1, ht4, htr, ⟨p1, hp1, R1⟩, k1⟩
  have hr1 : r < w1.heap.size := R1.lt
  obtain ⟨a1, c1, hv, _⟩ := o1.rows
  subst hv
  have O1 := Lib.hid o1
  have HTR := Lib.hid htr
  clear h htr
  go_wp2_with fail
  refine (l92Mask_any r p1 w.heap.size _ _ vs1 t _ R1 (by omega) O1.out hr ht4 HTR.out).mono ?_
  rintro e w2 ⟨v2, vs2, mk, rfl, o2, hm5, hmr, ⟨p2, hp2, R2⟩, k2⟩
  obtain ⟨a2, c2, hv, _⟩ := o2.rows
  subst hv
  have O2 := Lib.hid o2
  have O12 := Lib.hid (O1.out.keep k2 hr)
  have HMR := Lib.hid hmr
  have K2 := k1.trans k2
  have hw1 : w.heap.size ≤ w1.heap.size := k1.size
  have hlt1 : ∀ b, (Value.slice a1 t.length c1).ownBlock = some b → b < w1.heap.size := fun b hb => (O1.out.outer_lt hb).2
  have hlt2 : ∀ k (hk : k < vs1.length) b, vs1[k].ownBlock = some b → b < w1.heap.size := fun k hk b hb => (O1.out.inner_lt hk hb).2
  have LT1 := Lib.hid hlt1; have LT2 := Lib.hid hlt2
  clear hmr k2 k1 o1 o2 R1 hlt1 hlt2
  go_upto_region 3 with fail
  go_cut [8] (fun s wx => ∃ (i : Int), s = .int .i64 i ∧ 0 ≤ i ∧ i ≤ 4 ∧ (1 ≤ t.length → i < t.length) ∧ Rd wx r (p2 + 1) ∧ Keep r w2 wx)
  case first =>
    by_cases hL : 1 < t.length
    · have hLz : (1 : Int) < (t.length : Int) := by omega
      go_wp2_with fail
      refine (pick_any r p2 t.length _ R2 (by omega) (by omega)).mono ?_
      rintro e w3 ⟨x, hx0, hx1, rfl, R3, k3⟩
      go_wp2_with fail
      go_meet
      exact ⟨x, rfl, hx0, by omega, fun _ => by omega, R3, k3⟩
    · have hLz : ¬ (1 : Int) < (t.length : Int) := by omega
      go_wp2_with fail
      refine (pick_any r p2 1 _ R2 (by omega) (by omega)).mono ?_
      rintro e w3 ⟨x, hx0, hx1, rfl, R3, k3⟩
      go_wp2_with fail
      go_meet
      exact ⟨x, rfl, hx0, by omega, fun _ => by omega, R3, k3⟩
  case rest =>
    obtain ⟨i, rfl, hi0, hi1, hi2, R3, k3⟩ := hcut
    go_wp2_with fail
    refine (pick_any r (p2 + 1) 3 _ R3 (by omega) (by omega)).mono ?_
    rintro e w4 ⟨j0, hj0, hj1, rfl, R4, k4⟩
    have k24 := k3.trans k4
    have hr2 : r < w2.heap.size := R2.lt
    obtain ⟨_, _, hv, _, rows4, _⟩ := (O12.out.keep k24 hr).rows
    cases hv
    have RW4 := Lib.hid rows4
    clear rows4 R3 k3 k4 R2
    go_wp2_with fail
    refine (sTableValid_any _ _ t _ RW4.out (by omega)).mono ?_
    rintro e w5 ⟨rfl, e5⟩
    have R5 := R4.ext e5
    have k25 := k24.trans (Keep.of_ext e5)
    have RW5 := Lib.hid (RW4.out.ext e5)
    clear R4 k24 e5 RW4
    go_upto_if 23 with fail
    go_cut [9] (fun s wx => ∃ (j : Int) (q : Nat), s = .int .i64 j ∧ 0 ≤ j ∧ j ≤ 4 ∧ (tabOk t = true → j < wide t) ∧ q ≤ p2 + 3 ∧ Rd wx r q ∧ Keep r w2 wx)
    case first =>
      cases o1 : tabOk t with
      | false =>
        have HO := Lib.hid o1; clear o1
        go_wp2_with fail
        go_meet
        exact ⟨j0, p2 + 2, rfl, hj0, by omega, (fun h => by rw [HO.out] at h; cases h), by omega, R5, k25⟩
      | true =>
        obtain ⟨_, h1, _, m1, m4, _⟩ := tabOk_rect o1
        have HO := Lib.hid o1; clear o1
        obtain ⟨b0, off0, a0, c0, e0, hc0, _, _, _⟩ := RW5.out 0 (by omega)
        subst e0
        rw [← wide_eq (by omega)] at hc0
        simp only [Nat.add_zero] at hc0
        have h0z : (0 : Int) < (t.length : Int) := by omega
        go_wp2_with fail
        refine (pick_any r (p2 + 1 + 1) (wide t) _ R5 (by omega) (by omega)).mono ?_
        rintro e w6 ⟨j1, hj0', hj1', rfl, R6, k6⟩
        go_wp2_with fail
        go_meet
        exact ⟨j1, p2 + 3, rfl, hj0', by omega, fun _ => by omega, by omega, R6, k25.trans k6⟩
    case rest =>
      clear R5 k25 RW5 hj0 hj1
      obtain ⟨j, q, rfl, hjj0, hjj1, hjw, hq, R6, k26⟩ := hcut
      obtain ⟨_, _, hv, _, rows1, _⟩ := (O12.out.keep k26 hr).rows
      cases hv
      obtain ⟨_, _, hv, _, rows2, _⟩ := (O2.out.keep k26 (by omega)).rows
      cases hv
      have RW1 := Lib.hid rows1; have RW2 := Lib.hid rows2; have JW := Lib.hid hjw
      clear rows1 rows2 hjw
      go_upto_region 7 with fail
      go_cut [37] (fun s wx => ∃ (b : Bool) (q' : Nat), s = .bool b ∧ Hid (b = true → maskOk t mk = true) ∧ q' ≤ p2 + 4 ∧ Rd wx r q' ∧ Keep r w2 wx)
      case first =>
        go_wp2_with fail
        refine (sMaskValid_any _ _ _ _ t mk _ RW1.out RW2.out (by omega) (by omega)).mono ?_
        rintro e w7 ⟨rfl, e7⟩
        have R7 := R6.ext e7
        have k27 := k26.trans (Keep.of_ext e7)
        clear R6 k26 e7 RW1 RW2
        cases o2 : maskOk t mk with
        | false =>
          have HO := Lib.hid o2; clear o2
          go_wp2_with fail
          go_meet
          exact ⟨false, q, rfl, (fun h => by cases h), by omega, R7, k27⟩
        | true =>
          have HO := Lib.hid o2; clear o2
          go_wp2_with fail
          refine (pick_any r q 3 _ R7 (by omega) (by omega)).mono ?_
          rintro e w8 ⟨y, hy0, hy1, rfl, R8, k8⟩
          go_wp2_with fail
          go_meet
          exact ⟨decide (0 < y), q + 1, rfl, (fun _ => HO.out), by omega, R8, k27.trans k8⟩
      case rest =>
        obtain ⟨b, q', rfl, hb, hq', R7, k27⟩ := hcut
        have O1W := Lib.hid (O12.out.keep k27 hr)
        have O2W := Lib.hid (O2.out.keep k27 (by omega))
        have K7 := K2.trans k27
        have KK := Lib.hid K7
        clear R6 k26 RW1 RW2 K7
        go_upto_if 37 with fail
        go_cut [] (fun wx => ∃ (vs : List Value) (m : List (List Bool)), OwnI wx w.heap.size (.slice a1 t.length c1) vs1 t ∧ OwnB wx w1.heap.size (.slice a2 mk.length c2) vs m ∧ m.length = mk.length ∧ Hid (∀ x ∈ m, x.length ≤ 4) ∧ Rd wx r q' ∧ Keep r w wx)
        case first =>
          cases b with
          | false =>
            clear hb
            go_wp2_with fail
            go_meet
            exact ⟨vs2, mk, O1W.out, O2W.out, rfl, HMR.out, R7, KK.out⟩
          | true =>
            have hok := hb.out rfl
            obtain ⟨h1, _, m1, _⟩ := maskOk_lens hok
            obtain ⟨hokt, hrm⟩ := maskOk_rect hok
            have hiL := hi2 h1
            have hjL := JW.out hokt
            obtain ⟨k, rfl⟩ := Int.eq_ofNat_of_zero_le hi0
            obtain ⟨l, rfl⟩ := Int.eq_ofNat_of_zero_le hjj0
            have hkm : k < mk.length := by rw [hrm.1]; omega
            have hlm : l < mk[k].length := by rw [hrm.2 k hkm]; omega
            obtain ⟨o, co', g, ck, ev, ho, co, hg, hgo, hvs, cg, fg, fo⟩ := O2W.out.at hkm hlm
            cases ev
            have hset := O2W.out.set (j := l) hkm hvs true
            have hrl := hrm.2 k hkm
            rw [hrl] at co
            have HSET := Lib.hid hset
            have SS := Lib.hid (small_set (l := l) hkm HMR.out)
            have hkz : (k : Int) < (mk.length : Int) := by omega
            have hlz : (l : Int) < (wide t : Int) := by omega
            unfold encB at cg HSET
            have O1X := Lib.hid (O1W.out.grown (grown_setCell wc ⟨g, l, none⟩ (.bool true)) (by
              cases hv : (Value.slice a1 t.length c1).ownBlock with
              | none => exact .inl rfl
              | some b => exact .inr (fun e => by have h1 := LT1.out b hv; have h2 : b = g := Option.some.inj e; omega)) (fun k' hk' => by
              cases hv : vs1[k'].ownBlock with
              | none => exact .inl rfl
              | some b => exact .inr (fun e => by have h1 := LT2.out k' hk' b hv; have h2 : b = g := Option.some.inj e; omega)))
            have R8 := R7.setOther ⟨g, l, none⟩ (by show r < g; omega) (.bool true)
            have K8 := Lib.hid (KK.out.setNew (p := ⟨g, l, none⟩) (by show w.heap.size ≤ g; omega) (.bool true))
            clear hb hok hokt hrm hset hvs hiL hjL hrl
            go_wp2_with fail
            go_meet
            exact ⟨vs2, _, O1X.out, HSET.out, by simp, SS.out, R8, K8.out⟩
        case rest =>
          clear R7 k27 O1W O2W KK hb
          obtain ⟨vs, m, oa, ob, hml, hms, R8, K8⟩ := hcut
          have OA := Lib.hid oa; have OB := Lib.hid ob; have HML := Lib.hid hml
          have hm5 : m.length ≤ 5 := by omega
          rw [← hml] at OB
          clear oa ob hml
          rw [← HML.out]
          go_wp2_with fail
          refine (pick_any r q' 24 _ R8 (by omega) (by omega)).mono ?_
          rintro e w9 ⟨y, hy0, hy1, rfl, R9, k9⟩
          by_cases hy : y = 0
          · subst hy
            have R10 := R9.ext ((Ext.refl w9).alloc (.cells #[.int .i64 (-1), .int .i64 4] 3))
            have q0 : (w9.alloc (.cells #[.int .i64 (-1), .int .i64 4] 3)).cell? ⟨w9.heap.size, 0, none⟩ = some (.int .i64 (-1)) := by simp [go_sem]
            have q1 : (w9.alloc (.cells #[.int .i64 (-1), .int .i64 4] 3)).cell? ⟨w9.heap.size, 1, none⟩ = some (.int .i64 4) := by simp [go_sem]
            have k10 := k9.alloc (.cells #[.int .i64 (-1), .int .i64 4] 3)
            have hr9 : r < w9.heap.size := R9.lt
            go_wp2_with fail
            refine (pick_any r (q' + 1) 2 _ R10 (by omega) (by omega)).mono ?_
            rintro e w11 ⟨z, hz0, hz1, rfl, R11, k11⟩
            have q0' := k11.cell (p := ⟨w9.heap.size, 0, none⟩) (Nat.ne_of_gt hr9) q0
            have q1' := k11.cell (p := ⟨w9.heap.size, 1, none⟩) (Nat.ne_of_gt hr9) q1
            have k12 := k10.trans k11
            obtain rfl | rfl : z = 0 ∨ z = 1 := by omega
            all_goals
              clear q0 q1 k10 R10
              go_wp2_with fail
              refine bodyPost_ret (results_tmp4 rfl _ _ _) rfl ?_
              exact ⟨a1, c1, vs1, t, a2, c2, vs, m, i, _, rfl, OA.out.keep k12 hr, (OB.out.keep k12 (by omega)).base hw1, ht4, HTR.out, hm5, hms.out, ⟨hi0, hi1⟩, by omega, ⟨q' + 2, by omega, R11⟩, K8.trans k12⟩
          · have hyb : (y == 0) = false := by simpa using hy
            go_wp2_with fail
            refine bodyPost_ret (results_tmp4 rfl _ _ _) rfl ?_
            exact ⟨a1, c1, vs1, t, a2, c2, vs, m, i, j, rfl, OA.out.keep k9 hr, (OB.out.keep k9 (by omega)).base hw1, ht4, HTR.out, hm5, hms.out, ⟨hi0, hi1⟩, by omega, ⟨q' + 1, by omega, R9⟩, K8.trans k9⟩
end Go.Proofs.Ytelcdjbbcffliaa
