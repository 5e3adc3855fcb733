/- By how much a hidden cell can be changed. -/
import Derived.Test.YtelcdjbbcffliaaShiftFill
import Derived.Test.YtelcdjbbcffliaaShiftMain
/- By how much a hidden cell can be changed. -/
namespace Go.Proofs.Ytelcdjbbcffliaa
open Go.RowKit Go.DC Go.Shelf
attribute [local go_sem] Oper.semAt_some
set_option maxRecDepth 100000 in
set_option maxHeartbeats 16000000 in
theorem shift_any (a mb : Option Addr) (c d : Nat) (t : List (List Int)) (mk : List (List Bool)) (i j : Nat) (up : Bool) (w : World) (ht : IRows w a t) (hmk : BRows w mb mk) (hok : maskOk t mk = true) (hi : i < t.length) (hj : j < wide t) (hb : get false mk i j = true) :
    Calls Try.prog 43 #[.slice a t.length c, .slice mb mk.length d, .int .i64 i, .int .i64 j, .bool up] w (ShiftOut t.length (wide t) (get 0 t) (get false mk) i j up w) := by
  have HT := Lib.hid ht; clear ht
  have HM := Lib.hid hmk; clear hmk
  obtain ⟨hokt, hrm⟩ := maskOk_rect hok
  obtain ⟨r, h1, h4, m1, m4, hcl⟩ := tabOk_rect hokt
  have hml : mk.length = t.length := hrm.1
  have R := Lib.hid r; have RM := Lib.hid hrm; have CL := Lib.hid hcl
  have SMALL0 := small_of hok
  clear r hrm hcl hok
  obtain ⟨H, hH⟩ : ∃ H, t.length = H := ⟨_, rfl⟩
  obtain ⟨M, hM⟩ : ∃ M, wide t = M := ⟨_, rfl⟩
  obtain ⟨f, hf⟩ : ∃ f, get 0 t = f := ⟨_, rfl⟩
  obtain ⟨b, hbb⟩ : ∃ b, get false mk = b := ⟨_, rfl⟩
  rw [hH, hM] at R RM
  rw [hH, hM, hf] at CL SMALL0
  have SMALL := Lib.hid SMALL0
  clear SMALL0
  rw [hml, hH, hM, hf, hbb]
  rw [hH] at h1 h4 hi
  rw [hM] at m1 m4 hj
  rw [hbb] at hb
  have HF := Lib.hid hf; have HBF := Lib.hid hbb; have HB := Lib.hid hb
  clear hH hM hf hbb hml hokt hb
  refine (callsIn_wide (n := 9)).1 ?_
  refine callsIn_of_wp_marks Try.func43 rfl trivial ?_ rfl
  simp only [Try.ntmps43, List.size_toArray, List.length_cons, List.length_nil, Nat.reduceAdd, Nat.reduceSub, Array.replicate_succ, Array.replicate_zero, List.push_toArray, List.append_toArray, List.nil_append, List.cons_append]
  obtain ⟨b0, off0, a0, c0, rfl, hc0⟩ := HT.out.rowC R.out (i := 0) (by omega)
  simp only [Nat.add_zero] at hc0
  have h0z : (0 : Int) < (H : Int) := by omega
  gi_wp2_with fail
  have e5 : Ext w (((((w.alloc (.cells #[.slice (some ⟨b0, off0, none⟩) H c] 23)).alloc (.cells #[.slice mb H d] 24)).alloc (.cells #[.int .i64 i] 3)).alloc (.cells #[.int .i64 j] 3)).alloc (.cells #[.bool up] 4)) := (((((Ext.refl w).alloc _).alloc _).alloc _).alloc _).alloc _
  have x5 : Box5 _ w.heap.size 23 24 3 4 (.slice (some ⟨b0, off0, none⟩) H c) (.slice mb H d) (.int .i64 i) (.int .i64 j) (.bool up) := box5 w _ _ _ _ _ _ _ _ _
  obtain ⟨W5, hW5⟩ : ∃ W5, ((((w.alloc (.cells #[.slice (some ⟨b0, off0, none⟩) H c] 23)).alloc (.cells #[.slice mb H d] 24)).alloc (.cells #[.int .i64 i] 3)).alloc (.cells #[.int .i64 j] 3)).alloc (.cells #[.bool up] 4) = W5 := ⟨_, rfl⟩
  rw [hW5] at e5 x5 ⊢
  clear hW5
  obtain ⟨x1, x2, x3, x4, x5, hs5'⟩ := x5
  have HS5 := Lib.hid hs5'; clear hs5'
  have k1 := x1.cell
  have l1 := x1.lt
  have hc0' := e5.cell hc0
  have hb0lt : b0 < W5.heap.size := World.block_lt_of_cell? _ _ hc0'
  gi_region
  have e6 : Ext W5 (W5.alloc (.cells #[.int .i64 H] 3)).drew := ((Ext.refl W5).alloc _).drew
  have x6 := (Box.new W5 3 (.int .i64 H)).ext ((Ext.refl _).drew)
  have hs6 : (W5.alloc (.cells #[.int .i64 H] 3)).drew.heap.size = W5.heap.size + 1 := by show (W5.alloc _).heap.size = _; simp
  obtain ⟨W6, hW6⟩ : ∃ W6, (W5.alloc (.cells #[.int .i64 H] 3)).drew = W6 := ⟨_, rfl⟩
  rw [hW6] at e6 x6 hs6 ⊢
  have HS6 := Lib.hid hs6
  clear hW6 hs6 hc0' hb0lt k1 l1
  obtain ⟨N, hN⟩ : ∃ N, H + M = N := ⟨_, rfl⟩
  have hNc : (H : Int) + (M : Int) = (N : Int) := by omega
  have hN8 : N ≤ 8 := by omega
  have hNw : IntKind.i64.wrap (N : Int) = (N : Int) := IntWalk.i64_in _ (by omega)
  have k6 := x6.cell
  have l6 := x6.lt
  obtain ⟨p11, hp11⟩ : ∃ p11, W5.heap.size = p11 := ⟨_, rfl⟩
  rw [hp11] at x6 k6 l6 ⊢
  have HP11 := Lib.hid hp11
  clear hp11
  gi_wp2_with fail
  refine ⟨trivial, (callsIn_wide.2 (emptyTable_any N N _ hN8 hN8)).mono ?_⟩
  rintro e W7 ⟨v, vs, rfl, o7, e7⟩
  obtain ⟨ar, cr, hv, hz1, hz2, hz3⟩ := o7.rows
  rw [List.length_replicate] at hv
  subst hv
  clear hz1 hz2 hz3
  have e57 : Ext W5 W7 := e6.trans e7
  have y1 := x1.ext e57
  have ky := y1.cell
  have ly := y1.lt
  gi_wp2_with fail
  have x78 : Ext W7 (W7.alloc (.cells #[.slice ar N cr] 23)) := (Ext.refl W7).alloc _
  have env : Env (W7.alloc (.cells #[.slice ar N cr] 23)) w.heap.size p11 W7.heap.size (.slice (some ⟨b0, off0, none⟩) H c) (.slice mb H d) i j up H (.slice ar N cr) :=
    ⟨y1.ext x78, (x2.ext e57).ext x78, (x3.ext e57).ext x78, (x4.ext e57).ext x78, (x5.ext e57).ext x78, (x6.ext e7).ext x78, Box.new W7 _ _⟩
  have own8 : OwnI (W7.alloc (.cells #[.slice ar N cr] 23)) W6.heap.size (.slice ar N cr) vs (tabOf N N (fillG H f b i j up ([] : List (Cell H M)))) := by
    rw [fillG_nil, ← replicate_tab]; exact o7.ext x78
  have e8 : Ext w (W7.alloc (.cells #[.slice ar N cr] 23)) := (e5.trans e57).trans x78
  have hs6p : p11 < W6.heap.size := l6
  have hs67 : W6.heap.size ≤ W7.heap.size := e7.size
  have ho7 : ∀ g, (Value.slice ar N cr).ownBlock = some g → g < W7.heap.size := fun g hg => (o7.outer_lt hg).2
  have hi7 : ∀ k (hk : k < vs.length) g, vs[k].ownBlock = some g → W6.heap.size ≤ g ∧ g < W7.heap.size := fun k hk g hg => o7.inner_lt hk hg
  have HO7 := Lib.hid ho7; have HI7 := Lib.hid hi7
  have hw6 : w.heap.size + 5 ≤ p11 := by have h1 := HS5.out; have h2 := HP11.out; omega
  obtain ⟨W8, hW8⟩ : ∃ W8, W7.alloc (.cells #[.slice ar N cr] 23) = W8 := ⟨_, rfl⟩
  have hs8 : W8.heap.size = W7.heap.size + 1 := by rw [← hW8]; simp
  rw [hW8] at env own8 e8 ⊢
  obtain ⟨p13, hp13⟩ : ∃ p13, W7.heap.size = p13 := ⟨_, rfl⟩
  rw [hp13] at env hs67 hs8 HO7 HI7 ⊢
  have HS8 := Lib.hid hs8
  obtain ⟨W6s, hW6s⟩ : ∃ n, W6.heap.size = n := ⟨_, rfl⟩
  rw [hW6s] at own8 hs6p hs67 HI7
  clear hW8 hp13 hs8 x78 ho7 hi7 ky ly y1 e57 x1 x2 x3 x4 x5 x6 o7 e7 e6 e5 k6 l6 hW6s HS6 HP11 HS5
  refine ⟨trivial, (cellsOf_in Fence.wide _ (wide_fn _) rfl _ _ _ _).mono ?_⟩
  rintro e w2 ⟨rfl, rfl⟩
  have x89 : Ext W8 (W8.alloc (.cells #[.slice (some ⟨b0, off0, none⟩) H c] 23)) := (Ext.refl W8).alloc _
  have bI := Box.new W8 23 (.slice (some ⟨b0, off0, none⟩) H c)
  have env9 := env.ext x89
  have own9 := own8.ext x89
  have e9 := e8.trans x89
  have hs9 : (W8.alloc (.cells #[.slice (some ⟨b0, off0, none⟩) H c] 23)).heap.size = W8.heap.size + 1 := by simp
  obtain ⟨W9, hW9⟩ : ∃ W9, W8.alloc (.cells #[.slice (some ⟨b0, off0, none⟩) H c] 23) = W9 := ⟨_, rfl⟩
  rw [hW9] at env9 own9 e9 bI hs9 ⊢
  have hcI := bI.cell
  have HS9 := Lib.hid hs9
  clear hW9 x89 env own8 e8 bI hs9
  gi_wp2_with fail
  refine wpIn_cells (by omega) w W8.heap.size H M (some ⟨b0, off0, none⟩) c t HT.out R.out (by omega) (by omega) rfl e9 (by rw [R.out.1]; exact hcI) rfl
    (fun pre W => Env W w.heap.size p11 p13 (.slice (some ⟨b0, off0, none⟩) H c) (.slice mb H d) i j up H (.slice ar N cr) ∧ OwnI W W6s (.slice ar N cr) vs (tabOf N N (fillG H f b i j up pre)))
    (fun _ _ _ => False) (fun pre A B hs k => ⟨hs.1.cel k, hs.2.cel k⟩) (fun _ _ _ _ hs _ => hs.elim)
    ⟨env9, own9⟩
    ?round ?done ?stop
  case round =>
    clear env9 own9 hcI
    intro l0 x W K hK
    have HK := Lib.hid hK; clear hK
    gi_wp2_with fail
    refine HK.out _ ?_
    clear HK K
    rintro l' pre W' ⟨env, ow⟩ hE hlt
    obtain ⟨⟨k, l⟩, hk, hl⟩ := x
    obtain ⟨nb, mf, ak, ck, ea, _⟩ := HM.out.rowC RM.out (i := 0) (by omega)
    cases ea
    dsimp only at hk hl ⊢
    refine code_to (c' := roundCode) (by kernel_rfl) ?_
    refine round_any _ _ _ _ _ _ _ _ _ _ _ _ _ _ _ _ _ _ _ _ _ _ _ _ _ _ _ _ _ _ _ _ _ _ _ _ _ _ _ _ _ _ _ _ _ _ _ _ _ _ _ _ _ _ _ _ _ _ _ _ _ _ _ _ _ _ _ _ _ _ _ _ _ _ _ _ _ _ _ _ _ _ _ _ _ _ _ _ _ _ _ _ _ _ _ _ _ _ _ _ _ _ _ _ _ _ _ _ _ _ _ _ _ _ _ _ _ _ _ _ _ _ _ _ _ _ _ _ _ _ _ _ _ _ _ _ _ _ _ _ _ _ _ _ _ _ _ _ _ _ _ _ _ _ _ _ _ _ _ _ _ _ _ _ _ W9.heap.size b0 off0 nb mf c d t mk i j up w W' H M N f b p11 p13 W6s ar cr vs k l pre hk hl HT HM R RM CL HF HBF h4 m4 hi hj hN hw6 hs6p HI7 env ow hE (fun _ _ _ _ h => h) (fun _ _ h => h)
  case done =>
    rintro D W hD ⟨env, ow⟩ hE hK
    have hfa : tabOf N N (fillG H f b i j up (allCells H M)) = tabOf N N (roomG H f b i j up f) := tabOf_congr fun u v hu hv => fillG_all (by omega) (by omega)
    rw [hfa] at ow
    clear hfa env9 own9 hcI
    have hs := SMALL.out
    have hDp : p13 < D := by have h1 := HS9.out; have h2 := HS8.out; omega
    have EN := Lib.hid env; have OW := Lib.hid ow; have HK := Lib.hid hK; have HEE := Lib.hid hE; have SM := Lib.hid hs
    clear env ow hK hE hs
    gi_wp2_with fail
    refine code_to (c' := Code.loop mainCode) (by kernel_rfl) ?_
    refine main_any _ _ _ _ _ _ _ _ _ _ _ _ _ _ _ _ _ _ _ _ _ _ _ _ _ _ _ _ _ _ _ _ _ _ _ _ _ _ _ _ _ _ _ _ _ _ _ _ _ _ _ _ _ _ _ _ _ _ _ _ _ _ _ _ _ _ _ _ _ _ _ _ _ _ _ _ _ _ _ _ _ _ _ _ _ _ _ _ _ _ _ _ _ _ _ _ _ _ _ _ _ _ _ _ _ _ _ _ _ _ _ _ _ _ _ _ _ _ _ _ _ _ _ _ _ _ _ _ _ _ _ _ _ _ _ _ _ _ _ _ _ _ _ _ _ _ _ _ _ _ _ _ _ _ _ _ _ _ _ _ _ _ _ _ w w.heap.size p11 p13 D (.slice (some ⟨b0, off0, none⟩) H c) (.slice mb H d) i j up H M N ar cr W6s vs f b W hN h4 m4 hi hj HB.out SM.out hw6 hs6p hDp (Nat.le_refl _) HI7.out ⟨EN.out, OW.out, HEE.out, HK.out⟩ ?_
    rintro F W' ⟨tm, df⟩ hdf htm ⟨hmark, hext, x, R', C', hx, hxe, hcu⟩
    cases hdf
    exact leaveD1 hmark rfl ⟨F, x, R', C', by rw [htm], hx, hxe, hcu, hext.taken (Nat.le_trans (by omega) (Nat.le_of_lt hDp)) _⟩
  case stop =>
    intro D c pre W _ h _ _
    exact h.elim
end Go.Proofs.Ytelcdjbbcffliaa

/- The bounds of a cell, as the program computes them. -/
namespace Go.Proofs.Ytelcdjbbcffliaa
open Go.RowKit Go.DC
/-- A call that hands back a number. -/
def AddOut (F : Int) (w : World) (e : Ending) (w' : World) : Prop := e = .returned (.int .i64 F) ∧ Ext w w'
set_option maxHeartbeats 2000000 in
theorem BoundHigh_any (a mb : Option Addr) (c d : Nat) (t : List (List Int)) (mk : List (List Bool)) (i j : Int) (w : World) (ht : IRows w a t) (hmk : BRows w mb mk) (hm : t.length ≤ 9223372036854775807) (hm2 : mk.length ≤ 9223372036854775807) :
    Calls Try.prog 16 #[.slice a t.length c, .slice mb mk.length d, .int .i64 i, .int .i64 j] w (Ret (.int .i64 (highV t mk i j)) w) := by
  have HT := Lib.hid ht; clear ht
  have HM := Lib.hid hmk; clear hmk
  go_enter Try.func16, Try.ntmps16
  go_wp2_with fail
  refine (hasCell_any _ _ _ _ t mk i j _ HT.out HM.out hm hm2).mono ?_
  rintro e w' ⟨rfl, rfl⟩
  cases o1 : hasC t mk i j
  · have HD := Lib.hid (highV_no o1); clear o1
    go_wp2_with fail
    go_ret
    exact ⟨ret_int HD.out.symm, Ext.refl _⟩
  obtain ⟨k, l, rfl, rfl, hk, hl, ok⟩ := hasC_nat o1
  have OK := Lib.hid ok
  clear o1 ok
  have R := Lib.hid (tabOk_rect (maskOk_rect OK.out).1).1
  have RM := Lib.hid (maskOk_rect OK.out).2
  have hmk2 : mk.length = t.length := RM.out.1
  have hkz : (k : Int) < (t.length : Int) := by omega
  have hlz : (l : Int) < (wide t : Int) := by omega
  have hkm : (k : Int) < (mk.length : Int) := by omega
  have HML := Lib.hid hmk2; clear hmk2
  obtain ⟨tb, tf, tb2, tf2, tk, rfl, ct1, ct2⟩ := HT.out.atC 0 R.out hk hl
  obtain ⟨nb, mf, mb2, mf2, mk2, rfl, cm1, cm2⟩ := HM.out.atC false RM.out hk hl
  have hcl := (tabOk_rect (maskOk_rect OK.out).1).2.2.2.2.2 k l hk hl
  have hbd := high_bd OK.out hk hl
  have hval := highV_at OK.out hk hl
  have HV := Lib.hid hval; clear hval
  cases hb : get false mk k l with
  | false =>
    have hv : high t.length (wide t) (get 0 t) (get false mk) k l = get 0 t k l := by unfold high; rw [hb]; rfl
    have HW := Lib.hid (HV.out.trans hv)
    unfold encB at cm2
    rw [hb] at cm2
    unfold encI at ct2
    clear hb hv hbd
    obtain ⟨y, hy⟩ : ∃ y, get 0 t k l = y := ⟨_, rfl⟩
    rw [hy] at ct2 hcl
    have HY := Lib.hid hy; clear hy
    go_wp2_with fail
    go_ret
    exact ⟨ret_int (by rw [HW.out, HY.out]), Ext.refl _⟩
  | true =>
    have h0 := maskOk_pos OK.out
    have hge := high_ge (b := get false mk) h0 hk hl
    have hmaxi : ∀ (F : Int) (x : Nat → Nat → Int) (R C : Nat → Bool), Near t.length (wide t) (get 0 t) (get false mk) k l x → x k l = get 0 t k l + sgn true F → Cut t.length (wide t) (get false mk) k l true x R C → high t.length (wide t) (get 0 t) (get false mk) k l = get 0 t k l + F := fun F x R C hx he hcu => by
      rw [high_eq hk hl hb ⟨x, R, C, hx, he, hcu⟩]; rfl
    have MX := Lib.hid hmaxi
    have HB := Lib.hid hb
    unfold encB at cm2
    rw [hb] at cm2
    unfold encI at ct2
    clear hb hmaxi h0
    obtain ⟨z, hz⟩ : ∃ z, high t.length (wide t) (get 0 t) (get false mk) k l = z := ⟨_, rfl⟩
    rw [hz] at hge hbd
    have HZ := Lib.hid hz; clear hz
    obtain ⟨y, hy⟩ : ∃ y, get 0 t k l = y := ⟨_, rfl⟩
    rw [hy] at ct2 hcl hge
    have HY := Lib.hid hy; clear hy
    obtain ⟨hcl0, hcl1⟩ := hcl
    obtain ⟨hbd0, hbd1⟩ := hbd
    have CALL : Hid (∀ wx : World, Ext w wx → Calls Try.prog 43 #[.slice (some ⟨tb, tf, none⟩) t.length c, .slice (some ⟨nb, mf, none⟩) mk.length d, .int .i64 k, .int .i64 l, .bool true] wx (AddOut (z - y) w)) := fun wx ex =>
      (shift_any _ _ _ _ t mk k l true wx (HT.out.ext ex) (HM.out.ext ex) OK.out hk hl HB.out).mono fun e w' ⟨F, x, Rr, C, he', hx, he, hcu, e1⟩ => by
        have hm' := MX.out F x Rr C hx he hcu
        rw [HZ.out, HY.out] at hm'
        have : F = z - y := by omega
        subst this
        exact ⟨he', ex.trans e1⟩
    have hww : IntKind.i64.wrap (y + (z - y)) = z := by rw [show y + (z - y) = z by omega]; exact IntWalk.i64_in _ (by omega)
    have hfin : highV t mk k l = z := by rw [HV.out, HZ.out]
    have HFIN := Lib.hid hfin
    clear hfin
    have ex0 : Ext w w := Ext.refl w
    have ex1 : Ext w w.drew := (Ext.refl w).drew
    go_wp2_with fail
    go_region_held3 (fun w' => Ext w w' ∧ w'.cell? ⟨tb, tf + k, none⟩ = some (.slice (some ⟨tb2, tf2, none⟩) (wide t) tk) ∧ w'.cell? ⟨tb2, tf2 + l, none⟩ = some (.int .i64 y))
      ((refine ⟨?_, ?_, ?_⟩; (first | assumption | exact Ext.drew (by assumption) | exact Ext.refl _); (first | exact Ext.cell (by assumption) ct1 | exact ct1); (first | exact Ext.cell (by assumption) ct2 | exact ct2)))
      ((go_at_call 43; refine (CALL.out _ ?_).mono ?_; (first | assumption | exact Ext.drew (by assumption) | exact Ext.refl _); rintro e w1 ⟨rfl, e1⟩))
    all_goals
      go_wp2_with fail
      go_ret
      exact ⟨ret_int HFIN.out.symm, by assumption⟩
set_option maxHeartbeats 2000000 in
theorem BoundLow_any (a mb : Option Addr) (c d : Nat) (t : List (List Int)) (mk : List (List Bool)) (i j : Int) (w : World) (ht : IRows w a t) (hmk : BRows w mb mk) (hm : t.length ≤ 9223372036854775807) (hm2 : mk.length ≤ 9223372036854775807) :
    Calls Try.prog 18 #[.slice a t.length c, .slice mb mk.length d, .int .i64 i, .int .i64 j] w (Ret (.int .i64 (lowV t mk i j)) w) := by
  have HT := Lib.hid ht; clear ht
  have HM := Lib.hid hmk; clear hmk
  go_enter Try.func18, Try.ntmps18
  go_wp2_with fail
  refine (hasCell_any _ _ _ _ t mk i j _ HT.out HM.out hm hm2).mono ?_
  rintro e w' ⟨rfl, rfl⟩
  cases o1 : hasC t mk i j
  · have HD := Lib.hid (lowV_no o1); clear o1
    go_wp2_with fail
    go_ret
    exact ⟨ret_int HD.out.symm, Ext.refl _⟩
  obtain ⟨k, l, rfl, rfl, hk, hl, ok⟩ := hasC_nat o1
  have OK := Lib.hid ok
  clear o1 ok
  have R := Lib.hid (tabOk_rect (maskOk_rect OK.out).1).1
  have RM := Lib.hid (maskOk_rect OK.out).2
  have hmk2 : mk.length = t.length := RM.out.1
  have hkz : (k : Int) < (t.length : Int) := by omega
  have hlz : (l : Int) < (wide t : Int) := by omega
  have hkm : (k : Int) < (mk.length : Int) := by omega
  have HML := Lib.hid hmk2; clear hmk2
  obtain ⟨tb, tf, tb2, tf2, tk, rfl, ct1, ct2⟩ := HT.out.atC 0 R.out hk hl
  obtain ⟨nb, mf, mb2, mf2, mk2, rfl, cm1, cm2⟩ := HM.out.atC false RM.out hk hl
  have hcl := (tabOk_rect (maskOk_rect OK.out).1).2.2.2.2.2 k l hk hl
  have hval := lowV_at OK.out hk hl
  have HV := Lib.hid hval; clear hval
  cases hb : get false mk k l with
  | false =>
    have hv : low t.length (wide t) (get 0 t) (get false mk) k l = get 0 t k l := by unfold low; rw [hb]; rfl
    have HW := Lib.hid (HV.out.trans hv)
    unfold encB at cm2
    rw [hb] at cm2
    unfold encI at ct2
    clear hb hv
    obtain ⟨y, hy⟩ : ∃ y, get 0 t k l = y := ⟨_, rfl⟩
    rw [hy] at ct2 hcl
    have HY := Lib.hid hy; clear hy
    go_wp2_with fail
    go_ret
    exact ⟨ret_int (by rw [HW.out, HY.out]), Ext.refl _⟩
  | true =>
    have hsm : Small t.length (wide t) (get 0 t) := small_of OK.out
    obtain ⟨q, hq⟩ : ∃ q, lowN t.length (wide t) (get 0 t) (get false mk) k l = q := ⟨_, rfl⟩
    have hmini : ∀ (F : Int) (x : Nat → Nat → Int) (R C : Nat → Bool), Near t.length (wide t) (get 0 t) (get false mk) k l x → x k l = get 0 t k l + sgn false F → Cut t.length (wide t) (get false mk) k l false x R C → F = get 0 t k l - q := fun F x R C hx he hcu => by
      have h1 := lowN_eq hk hl ⟨x, R, C, hx, rfl, hcu⟩
      rw [hq, he] at h1
      unfold sgn at h1
      simp at h1
      omega
    have hqb : -2000 ≤ q ∧ q ≤ 2000 := by
      obtain ⟨x, R, C, hx, e, _⟩ := lowN_is (maskOk_pos OK.out) hk hl hb
      rw [hq] at e
      have a1 := hx.le_row hk hl
      have a2 := hsm.1 k hk
      have a3 := hx.ge_tot (fun k l hk hl => (hsm.2.2 k l hk hl).1) hk hl
      have a4 : sumN (wide t) (fun l => sumN t.length (fun k => get 0 t k l)) ≤ sumN (wide t) (fun _ => 396) := sumN_le fun l hl => hsm.2.1 l hl
      rw [sumN_const] at a4
      have := (maskOk_lens OK.out).2.2.2
      omega
    have hval2 : lowV t mk k l = max 0 q := by rw [HV.out]; unfold low; rw [if_pos hb, hq]
    have HV2 := Lib.hid hval2
    have MX := Lib.hid hmini
    have HB := Lib.hid hb
    unfold encB at cm2
    rw [hb] at cm2
    unfold encI at ct2
    clear hb hmini hsm hq hval2
    obtain ⟨y, hy⟩ : ∃ y, get 0 t k l = y := ⟨_, rfl⟩
    rw [hy] at ct2 hcl
    have HY := Lib.hid hy; clear hy
    obtain ⟨hcl0, hcl1⟩ := hcl
    obtain ⟨hqb0, hqb1⟩ := hqb
    have CALL : Hid (∀ wx : World, Ext w wx → Calls Try.prog 43 #[.slice (some ⟨tb, tf, none⟩) t.length c, .slice (some ⟨nb, mf, none⟩) mk.length d, .int .i64 k, .int .i64 l, .bool false] wx (AddOut (y - q) w)) := fun wx ex =>
      (shift_any _ _ _ _ t mk k l false wx (HT.out.ext ex) (HM.out.ext ex) OK.out hk hl HB.out).mono fun e w' ⟨F, x, Rr, C, he', hx, he, hcu, e1⟩ => by
        have hm' := MX.out F x Rr C hx he hcu
        rw [HY.out] at hm'
        subst hm'
        exact ⟨he', ex.trans e1⟩
    have hww : IntKind.i64.wrap (y - (y - q)) = q := by rw [show y - (y - q) = q by omega]; exact IntWalk.i64_in _ (by omega)
    have ex0 : Ext w w := Ext.refl w
    have ex1 : Ext w w.drew := (Ext.refl w).drew
    by_cases hq0 : 0 < q
    · have hfin : lowV t mk k l = q := by rw [HV2.out]; omega
      have HFIN := Lib.hid hfin
      have hnq : ¬ q < 0 := by omega
      clear hfin
      go_wp2_with fail
      go_region_held3 (fun w' => Ext w w' ∧ w'.cell? ⟨tb, tf + k, none⟩ = some (.slice (some ⟨tb2, tf2, none⟩) (wide t) tk) ∧ w'.cell? ⟨tb2, tf2 + l, none⟩ = some (.int .i64 y))
        ((refine ⟨?_, ?_, ?_⟩; (first | assumption | exact Ext.drew (by assumption) | exact Ext.refl _); (first | exact Ext.cell (by assumption) ct1 | exact ct1); (first | exact Ext.cell (by assumption) ct2 | exact ct2)))
        ((go_at_call 43; refine (CALL.out _ ?_).mono ?_; (first | assumption | exact Ext.drew (by assumption) | exact Ext.refl _); rintro e w1 ⟨rfl, e1⟩))
      all_goals
        go_wp2_with fail
        go_ret
        exact ⟨ret_int HFIN.out.symm, by assumption⟩
    · have hfin : lowV t mk k l = 0 := by rw [HV2.out]; omega
      have HFIN := Lib.hid hfin
      clear hfin
      go_wp2_with fail
      go_region_held3 (fun w' => Ext w w' ∧ w'.cell? ⟨tb, tf + k, none⟩ = some (.slice (some ⟨tb2, tf2, none⟩) (wide t) tk) ∧ w'.cell? ⟨tb2, tf2 + l, none⟩ = some (.int .i64 y))
        ((refine ⟨?_, ?_, ?_⟩; (first | assumption | exact Ext.drew (by assumption) | exact Ext.refl _); (first | exact Ext.cell (by assumption) ct1 | exact ct1); (first | exact Ext.cell (by assumption) ct2 | exact ct2)))
        ((go_at_call 43; refine (CALL.out _ ?_).mono ?_; (first | assumption | exact Ext.drew (by assumption) | exact Ext.refl _); rintro e w1 ⟨rfl, e1⟩))
      all_goals
        go_wp2_with fail
        go_ret
        exact ⟨ret_int HFIN.out.symm, by assumption⟩
theorem BoundHighX_any (a mb : Option Addr) (c d : Nat) (t : List (List Int)) (mk : List (List Bool)) (i j : Int) (w : World) (ht : IRows w a t) (hmk : BRows w mb mk) (hm : t.length ≤ 9223372036854775807) (hm2 : mk.length ≤ 9223372036854775807) (_hi : -9223372036854775808 ≤ i ∧ i ≤ 9223372036854775807) (_hj : -9223372036854775808 ≤ j ∧ j ≤ 9223372036854775807) :
    Calls Try.prog 16 #[.slice a t.length c, .slice mb mk.length d, .int .i64 i, .int .i64 j] w (Ret (.int .i64 (highV t mk i j)) w) := BoundHigh_any a mb c d t mk i j w ht hmk hm hm2
theorem BoundLowX_any (a mb : Option Addr) (c d : Nat) (t : List (List Int)) (mk : List (List Bool)) (i j : Int) (w : World) (ht : IRows w a t) (hmk : BRows w mb mk) (hm : t.length ≤ 9223372036854775807) (hm2 : mk.length ≤ 9223372036854775807) (_hi : -9223372036854775808 ≤ i ∧ i ≤ 9223372036854775807) (_hj : -9223372036854775808 ≤ j ∧ j ≤ 9223372036854775807) :
    Calls Try.prog 18 #[.slice a t.length c, .slice mb mk.length d, .int .i64 i, .int .i64 j] w (Ret (.int .i64 (lowV t mk i j)) w) := BoundLow_any a mb c d t mk i j w ht hmk hm hm2
end Go.Proofs.Ytelcdjbbcffliaa
