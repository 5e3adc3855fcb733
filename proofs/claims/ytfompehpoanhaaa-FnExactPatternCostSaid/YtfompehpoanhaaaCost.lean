/- The cost of a mask. -/
import Derived.Test.YtfompehpoanhaaaSums
import Derived.Test.YtfompehpoanhaaaTabEqB
namespace Go.Proofs.Ytfompehpoanhaaa
open Go.RowKit Go.DC Go.Shelf
attribute [local go_sem] Oper.semAt_some
def costG (t : List (List Int)) (m : List (List Bool)) (i j : Nat) : Int := if get false m i j then get 0 t i j else 0
def costT (t : List (List Int)) (m : List (List Bool)) : Int := sumN t.length (fun i => sumN (wide t) (costG t m i))
def costOf (t : List (List Int)) (m : List (List Bool)) : Int := if maskOk t m then costT t m else -1
set_option maxHeartbeats 2000000 in
theorem sPatternCost_any (a b : Option Addr) (c d : Nat) (t : List (List Int)) (m : List (List Bool)) (w : World) (ht : IRows w a t) (hmk : BRows w b m) (hm : t.length ≤ 9223372036854775807) (hm2 : m.length ≤ 9223372036854775807) :
    Calls Try.prog 24 #[.slice a t.length c, .slice b m.length d] w (Ret (.int .i64 (costOf t m)) w) := by
  have HT := Lib.hid ht; clear ht
  have HM := Lib.hid hmk; clear hmk
  go_enter Try.func24, Try.ntmps24
  go_wp2_with fail
  refine (sMaskValid_any _ _ _ _ t m _ HT.out HM.out hm hm2).mono ?_
  rintro e w1 ⟨rfl, e1⟩
  cases o1 : maskOk t m
  · have hd : costOf t m = -1 := by simp [costOf, o1]
    have HD := Lib.hid hd; clear hd o1
    go_wp2_with fail
    go_ret
    exact ⟨by rw [HD.out]; rfl, e1⟩
  obtain ⟨hok, hrm⟩ := maskOk_rect o1
  have O1 := Lib.hid o1; clear o1
  obtain ⟨r, h1, h4, m1, m4, hcl⟩ := tabOk_rect hok
  have R := Lib.hid r; have RM := Lib.hid hrm; have CL := Lib.hid hcl
  clear r hrm hcl hok
  have HT1 := Lib.hid (HT.out.ext e1); have HM1 := Lib.hid (HM.out.ext e1)
  obtain ⟨H, hH⟩ : ∃ H, t.length = H := ⟨_, rfl⟩
  obtain ⟨M, hM⟩ : ∃ M, wide t = M := ⟨_, rfl⟩
  obtain ⟨b0, off0, a0, c0, ea0, hc0⟩ := HT1.out.rowC R.out (i := 0) (by omega)
  rw [hH, hM] at R RM CL
  rw [hM] at hc0 m1 m4
  rw [hH] at h1 h4 ⊢
  simp only [Nat.add_zero] at hc0
  cases ea0
  have h0z : (0 : Int) < (H : Int) := by omega
  have HH := Lib.hid hH; have HM' := Lib.hid hM; clear hH hM
  go_wp2_with fail
  go_loop [5, 6] (fun s i => ∃ k : Nat, k ≤ H ∧ i = .int .i64 k ∧ s = .int .i64 (sumN k (fun i => sumN M (costG t m i)))) (fun _ i => H - (intOf i).toNat)
  case atStart => exact ⟨0, Nat.zero_le _, rfl, rfl⟩
  case round =>
    obtain ⟨k, hk, rfl, rfl⟩ := hrel
    by_cases hlt : k < H
    · have hz : (k : Int) < (H : Int) := by omega
      have hb1 := sum_bd (n := H) (F := fun i => sumN M (costG t m i)) (B := 1000) (fun i hi => by
        have := sum_bd (n := M) (F := costG t m i) (B := 99) (fun j hj => by have := CL.out i j hi hj; unfold costG; split <;> omega) M (Nat.le_refl _)
        omega) k hk
      obtain ⟨u, hu⟩ : ∃ u, sumN k (fun i => sumN M (costG t m i)) = u := ⟨_, rfl⟩
      have HU := Lib.hid hu
      rw [hu] at hb1 ⊢
      obtain ⟨hb10, hb11⟩ := hb1
      have hk8 : (k : Int) ≤ 8 := by omega
      clear hu
      go_wp2_with fail
      go_loop [5, 7] (fun s i => ∃ j : Nat, j ≤ M ∧ i = .int .i64 j ∧ s = .int .i64 (u + sumN j (costG t m k))) (fun _ i => M - (intOf i).toNat)
      case atStart => exact ⟨0, Nat.zero_le _, rfl, by simp [sumN]⟩
      case round =>
        obtain ⟨j, hj, rfl, rfl⟩ := hrel
        by_cases hjt : j < M
        · have hjz : (j : Int) < (M : Int) := by omega
          have hb2 := sum_bd (n := M) (F := costG t m k) (B := 99) (fun j hj => by have := CL.out k j hlt hj; unfold costG; split <;> omega) j hj
          have hcx := CL.out k j hlt hjt
          obtain ⟨_, _, tb2, tf2, tk, ea, ct1, ct2⟩ := HT1.out.atC 0 R.out hlt hjt
          cases ea
          obtain ⟨mb, mf, mb2, mf2, mk, ea, cm1, cm2⟩ := HM1.out.atC false RM.out hlt hjt
          cases ea
          obtain ⟨v, hv⟩ : ∃ v, sumN j (costG t m k) = v := ⟨_, rfl⟩
          obtain ⟨y, hy⟩ : ∃ y, get 0 t k j = y := ⟨_, rfl⟩
          have hkm : (k : Int) < (m.length : Int) := by rw [RM.out.1]; omega
          rw [hv] at hb2 ⊢
          rw [hy] at ct2 hcx
          obtain ⟨hb20, hb21⟩ := hb2
          obtain ⟨hcx0, hcx1⟩ := hcx
          have hj8 : (j : Int) ≤ 8 := by omega
          unfold encI at ct2
          unfold encB at cm2
          cases hf : get false m k j with
          | true =>
            rw [hf] at cm2
            have hs : u + sumN (j + 1) (costG t m k) = u + v + y := by rw [sumN, hv]; unfold costG; rw [hf, hy]; simp; omega
            have HS := Lib.hid hs; clear hs hf hv hy
            go_wp2_with fail
            go_round
            case rel => exact ⟨j + 1, by omega, by go_num, by rw [HS.out]⟩
            case measure => simp [intOf]; omega
          | false =>
            rw [hf] at cm2
            have hs : u + sumN (j + 1) (costG t m k) = u + v := by rw [sumN, hv]; unfold costG; rw [hf]; simp
            have HS := Lib.hid hs; clear hs hf hv hy
            go_wp2_with fail
            go_round
            case rel => exact ⟨j + 1, by omega, by go_num, by rw [HS.out]⟩
            case measure => simp [intOf]; omega
        · have hjz : ¬ (j : Int) < (M : Int) := by omega
          have hjm : j = M := by omega
          have HJ := Lib.hid hjm; clear hjm
          go_wp2_with fail
          go_round
          case rel => exact ⟨k + 1, by omega, by go_num, by rw [HJ.out, sumN, HU.out]⟩
          case measure => simp [intOf]; omega
    · have hz : ¬ (k : Int) < (H : Int) := by omega
      have hkh : k = H := by omega
      have HK := Lib.hid hkh; clear hkh
      go_wp2_with fail
      go_ret
      exact ⟨by unfold costOf costT; rw [O1.out, HH.out, HM'.out, HK.out]; rfl, e1⟩
set_option maxRecDepth 100000 in
set_option maxHeartbeats 4000000 in
theorem PatternCost_any (a b : Option Addr) (c d : Nat) (t : List (List Int)) (m : List (List Bool)) (w : World) (ht : IRows w a t) (hmk : BRows w b m) (hm : t.length ≤ 9223372036854775807) (hm2 : m.length ≤ 9223372036854775807) :
    Calls Try.prog 23 #[.slice a t.length c, .slice b m.length d] w (Ret (.int .i64 (costOf t m)) w) := by
  have HT := Lib.hid ht; clear ht
  have HM := Lib.hid hmk; clear hmk
  refine (callsIn_wide (n := 9)).1 ?_
  refine callsIn_of_wp_marks Try.func23 rfl trivial ?_ rfl
  simp only [Try.ntmps23, List.size_toArray, List.length_cons, List.length_nil, Nat.reduceAdd, Nat.reduceSub, Array.replicate_succ, Array.replicate_zero, List.push_toArray, List.append_toArray, List.nil_append, List.cons_append]
  gi_wp2_with fail
  have e0 : Ext w ((w.alloc (.cells #[.slice a t.length c] 23)).alloc (.cells #[.slice b m.length d] 32)) := ((Ext.refl w).alloc _).alloc _
  have bT0 := (Box.new w 23 (.slice a t.length c)).ext ((Ext.refl _).alloc (.cells #[.slice b m.length d] 32))
  have bM0 := Box.new (w.alloc (.cells #[.slice a t.length c] 23)) 32 (.slice b m.length d)
  simp only [World.size_alloc] at bM0
  obtain ⟨W0, hW0⟩ : ∃ W0, (w.alloc (.cells #[.slice a t.length c] 23)).alloc (.cells #[.slice b m.length d] 32) = W0 := ⟨_, rfl⟩
  rw [hW0] at e0 bT0 bM0 ⊢
  clear hW0
  refine ⟨trivial, (callsIn_wide.2 (MaskValid_any _ _ _ _ t m _ (HT.out.ext e0) (HM.out.ext e0) hm hm2)).mono ?_⟩
  rintro e w' ⟨rfl, rfl⟩
  cases o1 : maskOk t m
  · have hd : costOf t m = -1 := by simp [costOf, o1]
    have HD := Lib.hid hd; clear hd o1
    gi_wp2_with fail
    exact leave1 rfl ⟨by rw [HD.out]; rfl, e0⟩
  obtain ⟨hok, hrm⟩ := maskOk_rect o1
  have O1 := Lib.hid o1; clear o1
  obtain ⟨r, h1, h4, m1, m4, hcl⟩ := tabOk_rect hok
  have R := Lib.hid r; have RM := Lib.hid hrm; have CL := Lib.hid hcl
  clear r hrm hcl hok
  have hcT := bT0.cell
  have hw01 : w.heap.size + 1 < W0.heap.size := bM0.lt
  have hw0 : w.heap.size < W0.heap.size := bT0.lt
  gi_wp2_with fail
  have x1 : Ext W0 (W0.alloc (.cells #[.int .i64 0] 3)) := (Ext.refl W0).alloc _
  have bC := Box.new W0 3 (.int .i64 0)
  have bT1 := bT0.ext x1
  have bM1 := bM0.ext x1
  have e1 := e0.trans x1
  have hs1 : (W0.alloc (.cells #[.int .i64 0] 3)).heap.size = W0.heap.size + 1 := by simp
  obtain ⟨W1, hW1⟩ : ∃ W1, W0.alloc (.cells #[.int .i64 0] 3) = W1 := ⟨_, rfl⟩
  rw [hW1] at bC bT1 bM1 e1 hs1 ⊢
  clear hW1 x1 hcT
  refine ⟨trivial, (cellsOf_in Fence.wide _ (wide_fn _) rfl _ _ _ _).mono ?_⟩
  rintro e w2 ⟨rfl, rfl⟩
  have x2 : Ext W1 (W1.alloc (.cells #[.slice a t.length c] 23)) := (Ext.refl W1).alloc _
  have bI := Box.new W1 23 (.slice a t.length c)
  have bT2 := bT1.ext x2
  have bM2 := bM1.ext x2
  have bC2 := bC.ext x2
  have e2 := e1.trans x2
  obtain ⟨W2, hW2⟩ : ∃ W2, W1.alloc (.cells #[.slice a t.length c] 23) = W2 := ⟨_, rfl⟩
  rw [hW2] at bI bT2 bM2 bC2 e2 ⊢
  have hcI := bI.cell
  clear hW2 x2 bT0 bM0 bT1 bM1 bC
  gi_wp2_with fail
  refine wpIn_cells (by omega) w (W0.heap.size + 1) t.length (wide t) a c t HT.out R.out (by omega) (by omega) rfl e2 (by rw [← hs1]; exact hcI) rfl
    (fun pre W => Box W w.heap.size 23 (.slice a t.length c) ∧ Box W (w.heap.size + 1) 32 (.slice b m.length d) ∧ Box W W0.heap.size 3 (.int .i64 (psum (costG t m) pre)))
    (fun _ _ _ => False) (fun pre A B hs k => ⟨hs.1.cel k, hs.2.1.cel k, hs.2.2.cel k⟩) (fun _ _ _ _ hs _ => hs.elim)
    ⟨bT2, bM2, bC2⟩
    ?round ?done ?stop
  case round =>
    clear bT2 bM2 bC2 hcI
    intro l x W K hK
    have HK := Lib.hid hK; clear hK
    gi_wp2_with fail
    refine HK.out _ ?_
    clear HK K
    rintro l' pre W' ⟨b1, b2, b3⟩ hE hlt
    obtain ⟨⟨i, j⟩, hi, hj⟩ := x
    dsimp only at hi hj ⊢
    obtain ⟨tb, tf, tb2, tf2, tk, ea, ct1, ct2⟩ := (HT.out.ext hE).atC 0 R.out hi hj
    cases ea
    obtain ⟨mb, mf, mb2, mf2, mk, ea, cm1, cm2⟩ := (HM.out.ext hE).atC false RM.out hi hj
    cases ea
    have hx := CL.out i j hi hj
    have hn : pre.length < 16 := by
      have h2 : t.length * wide t ≤ 4 * 4 := Nat.mul_le_mul (by omega) (by omega)
      omega
    have hpb := psum_bound (g := costG t m) (B := 99) (fun k l hk hl => by have := CL.out k l hk hl; unfold costG; split <;> omega) pre
    have hnext : psum (costG t m) (pre ++ [(⟨(i, j), hi, hj⟩ : Cell t.length (wide t))]) = psum (costG t m) pre + costG t m i j := by rw [psum_app, psum_one]
    obtain ⟨y, hy⟩ : ∃ y, get 0 t i j = y := ⟨_, rfl⟩
    obtain ⟨u, hu⟩ : ∃ u, psum (costG t m) pre = u := ⟨_, rfl⟩
    rw [hu] at hpb hnext b3
    rw [hy] at ct2 hx
    obtain ⟨hx0, hx1⟩ := hx
    obtain ⟨hpb0, hpb1⟩ := hpb
    have hit : (i : Int) < (t.length : Int) := by omega
    have him : (i : Int) < (m.length : Int) := by rw [RM.out.1]; omega
    have hjm : (j : Int) < (wide t : Int) := by omega
    have cb1 := b1.cell; have cb2 := b2.cell; have cb3 := b3.cell; have fb3 := b3.frozen
    have B1 := Lib.hid b1; have B2 := Lib.hid b2; have B3 := Lib.hid b3
    clear b1 b2 b3
    unfold encI at ct2
    unfold encB at cm2
    cases hf : get false m i j with
    | true =>
      rw [hf] at cm2
      have hv : costG t m i j = y := by unfold costG; rw [hf, hy]; rfl
      rw [hv] at hnext
      have HN := Lib.hid hnext; clear hnext hv hf hy hu
      gi_wp2_with fail
      refine wpR_still_tail 9 (by kernel_rfl) (by kernel_rfl) (by kernel_rfl) ?_
      simp only [List.take_succ_cons, List.take_zero, List.drop_succ_cons, List.drop_zero]
      repeat still_step
      refine wpStill_nil ?_
      go_wp2_with fail
      refine noOut_normal ?_
      gi_wp2_with fail
      have hst : Stp w.heap.size W2.heap.size W' ((W'.setCell ⟨W0.heap.size, 0, none⟩ (.int .i64 (u + y))).drew) := ((Stp.refl _ _ W').setCell (p := ⟨W0.heap.size, 0, none⟩) (by show w.heap.size ≤ W0.heap.size; omega) _).drew
      refine ⟨hst.from_, hst.below, ⟨?_, ?_, ?_⟩, (hE.setCell (p := ⟨W0.heap.size, 0, none⟩) (by show w.heap.size ≤ W0.heap.size; omega) _).drew⟩
      · exact (B1.out.other ⟨W0.heap.size, 0, none⟩ _ (by show W0.heap.size ≠ w.heap.size; omega)).ext ((Ext.refl _).drew)
      · exact (B2.out.other ⟨W0.heap.size, 0, none⟩ _ (by show W0.heap.size ≠ w.heap.size + 1; omega)).ext ((Ext.refl _).drew)
      · rw [HN.out]; exact (B3.out.set _).ext ((Ext.refl _).drew)
    | false =>
      rw [hf] at cm2
      have hv : costG t m i j = 0 := by unfold costG; rw [hf]; rfl
      rw [hv, Int.add_zero] at hnext
      have HN := Lib.hid hnext; clear hnext hv hf hy hu
      gi_wp2_with fail
      refine ⟨(Stp.refl w.heap.size _ W').from_, (Stp.refl _ W2.heap.size W').below, ⟨B1.out, B2.out, ?_⟩, hE⟩
      rw [HN.out]; exact B3.out
  case done =>
    rintro D W hD ⟨b1, b2, b3⟩ hE hK
    rw [psum_all] at b3
    have c3 := b3.cell
    have hDw : w.heap.size ≤ D := by have := e2.size; omega
    gi_wp2_with fail
    exact leaveD1 hK rfl ⟨by unfold costOf costT; rw [O1.out]; rfl, hE.taken hDw _⟩
  case stop =>
    intro D c pre W _ h _ _
    exact h.elim
end Go.Proofs.Ytfompehpoanhaaa
