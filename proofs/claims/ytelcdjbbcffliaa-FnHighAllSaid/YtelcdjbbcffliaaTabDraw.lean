/- Drawn tables and masks. -/
import Derived.Test.YtelcdjbbcffliaaReader
import Derived.Test.YtelcdjbbcffliaaTabSpecI
import Derived.Test.YtelcdjbbcffliaaTabFun
namespace Go.Proofs.Ytelcdjbbcffliaa
open Go.RowKit Go.DC
set_option maxHeartbeats 1000000 in
theorem l11Blank_any (h m : Nat) (w : World) (hh : h ≤ 8) (hm : m ≤ 8) :
    Calls Try.prog 76 #[.int .i64 h, .int .i64 m] w (NewTab encI 3 28 (List.replicate h (List.replicate m 0)) w) := by
  have hmk := run_make_row' (P := Try.prog) 28 3 (.int .i64 0) 8 Try.underlying28 Try.dcElemI rfl .i64 .i64 m (by omega) (by omega)
  go_enter Try.func76, Try.ntmps76
  go_wp2_with fail
  go_loopg [5, 6] h (fun g v i wr => ∃ (k : Nat) (vs : List Value), k ≤ h ∧ g = h - k ∧ i = .int .i64 k ∧ OwnI wr w.heap.size v vs (List.replicate k (List.replicate m 0)) ∧ Ext w wr)
  case atStart => exact ⟨0, [], Nat.zero_le _, rfl, rfl, by simpa using ownT_empty (enc := encI) (te := 3) (ts := 28) w (Nat.le_refl _), (Ext.refl _).alloc _⟩
  case round =>
    obtain ⟨k, vs, hk, rfl, rfl, own, hext⟩ := hrel
    by_cases hlt : k < h
    · have hz : (k : Int) < (h : Int) := by omega
      have hsz := hext.size
      obtain ⟨av, cv, hv, _, _⟩ := own.rows
      rw [List.length_replicate] at hv
      subst hv
      have x1 := ((Ext.refl wr).alloc (.cells (madeCells #[.int .i64 0] m) 3))
      have x2 := x1.alloc (.cells #[.slice (some ⟨wr.heap.size, 0, none⟩) m m] 28)
      have own2 := own.ext x2
      have hu2 : ((wr.alloc (.cells (madeCells #[.int .i64 0] m) 3)).alloc (.cells #[.slice (some ⟨wr.heap.size, 0, none⟩) m m] 28)).ownsRow w.heap.size 3 1 (.slice (some ⟨wr.heap.size, 0, none⟩) m m) (List.replicate m (0 : Int)).length ((List.replicate m (0 : Int)).map encI) :=
        owns_ext (by
          have := World.ownsRow_lit (base := w.heap.size) (e := 3) (size := 1) wr (madeCells #[.int .i64 0] m) m hsz (by unfold maxLen; omega) (by simp [size_madeCells])
          rw [toList_madeCells_one] at this
          simpa using this) ((Ext.refl _).alloc _)
      have hne : ∀ b, (Value.slice (some (⟨wr.heap.size, 0, none⟩ : Addr)) m m).ownBlock = some b → (Value.slice av k cv).ownBlock ≠ some b := fun b hb h => by
        have h2 := (own.outer_lt h).2
        simp [Value.ownBlock] at hb
        omega
      have hap : ∀ l (_ : l < vs.length), ∀ b, (Value.slice (some (⟨wr.heap.size, 0, none⟩ : Addr)) m m).ownBlock = some b → vs[l].ownBlock ≠ some b := fun l hl b hb h => by
        have h2 := (own.inner_lt hl h).2
        simp [Value.ownBlock] at hb
        omega
      have hcell : ((wr.alloc (.cells (madeCells #[.int .i64 0] m) 3)).alloc (.cells #[.slice (some ⟨wr.heap.size, 0, none⟩) m m] 28)).cell? ⟨wr.heap.size + 1, 0, none⟩ = some (.slice (some ⟨wr.heap.size, 0, none⟩) m m) := by simp [go_sem]
      have hB : w.heap.size ≤ ((wr.alloc (.cells (madeCells #[.int .i64 0] m) 3)).alloc (.cells #[.slice (some ⟨wr.heap.size, 0, none⟩) m m] 28)).heap.size := by simp; omega
      have hlt2 : (List.replicate k (List.replicate m (0 : Int))).length ≤ 10000000 := by simp; omega
      have hat : ∀ k', (Value.slice av k cv).ownBlock = some k' → w.heap.size ≤ k' := fun k' hk' => (own.outer_lt hk').1
      have O2 := Lib.hid own2; have U2 := Lib.hid hu2; have NE := Lib.hid hne; have AP := Lib.hid hap; have HC := Lib.hid hcell; have HA := Lib.hid hat
      clear own2 hu2 hne hap hcell hat own
      go_wp2_with (at_builtin; refine wpList_pushI rfl (.tmp 13) (.tmp 16) rfl w.heap.size _ vs (List.replicate k (List.replicate m 0)) rfl O2.out (wr.heap.size + 1) rfl _ rfl HC.out (List.replicate m 0) U2.out NE.out AP.out hlt2 hB ?_; intro v' w2 own3 hg2 _)
      have hext2 : Ext w w2 := (hext.trans x2).grownNew hg2 HA.out
      rw [show List.replicate k (List.replicate m (0 : Int)) ++ [List.replicate m 0] = List.replicate (k + 1) (List.replicate m 0) by rw [List.replicate_succ']] at own3
      clear hg2 O2 U2 NE AP HC
      go_wp2_with fail
      go_roundg (h - (k + 1))
      case measure => omega
      case rel => exact ⟨k + 1, _, by omega, rfl, by go_num, own3, hext2⟩
    · have hz : ¬ (k : Int) < (h : Int) := by omega
      go_wp2_with fail
      go_ret
      have hkh : k = h := by omega
      subst hkh
      exact ⟨_, vs, rfl, own, hext⟩
/-- A drawn table. -/
def TabOut (r p : Nat) (w : World) (e : Ending) (w' : World) : Prop :=
  ∃ v vs t, e = .returned v ∧ OwnI w' w.heap.size v vs t ∧ t.length ≤ 4 ∧ (∀ x ∈ t, x.length ≤ 4) ∧ (∃ p', p' ≤ p + 20 ∧ Rd w' r p') ∧ Keep r w w'

theorem grown_keep_cell {W W' : World} {b m ck o i : Nat} {v : Value} (g : W.grownBy W' (Value.slice (some (⟨b, 0, none⟩ : Addr)) m ck).ownBlock) (hc : W.cell? ⟨o, i, none⟩ = some v) (hf : W.frozen? ⟨o, i, none⟩ = false) (hbo : b ≠ o) :
    W'.cell? ⟨o, i, none⟩ = some v ∧ W'.frozen? ⟨o, i, none⟩ = false := by
  have hne : some o ≠ (Value.slice (some (⟨b, 0, none⟩ : Addr)) m ck).ownBlock := by simp [Value.ownBlock]; omega
  exact ⟨g.cell hc hne, by rw [World.frozen?_of_block (w := W) (g.block o (World.block_lt_of_cell? _ _ hc) hne)]; exact hf⟩
def lit3v (a b c z : Int) : Int := if z = 0 then a else if z = 1 then b else c
theorem lit3 (a b c z : Int) (h0 : 0 ≤ z) (h3 : z < 3) : ([.int .i64 a, .int .i64 b, .int .i64 c] : List Value)[z.toNat]? = some (.int .i64 (lit3v a b c z)) := by
  rcases (by omega : z = 0 ∨ z = 1 ∨ z = 2) with e | e | e <;> subst e <;> rfl
theorem lit3_cell (W : World) (t : TypeId) (a b c z : Int) (h0 : 0 ≤ z) (h3 : z < 3) : (W.alloc (.cells #[.int .i64 a, .int .i64 b, .int .i64 c] t)).cell? ⟨W.heap.size, z.toNat, none⟩ = some (.int .i64 (lit3v a b c z)) := by
  rcases (by omega : z = 0 ∨ z = 1 ∨ z = 2) with e | e | e <;> subst e <;> simp [go_sem, lit3v]

theorem rd_only {r p : Nat} {S : Nat → Prop} {w w' : World} (h : Rd w r p) (k : Only S w w') (hr : ∀ b, S b → r < b) : Rd w' r p := by
  obtain ⟨⟨a, c, zs, h0, hl, hb, hn⟩, h1, hf⟩ := h
  have hne : ∀ k, k ≤ r → ¬ S k := fun k hk e => by have := hr k e; omega
  refine ⟨⟨a, c, zs, k.cell (hne _ (Nat.le_refl _)) h0, hl, ⟨fun i hi => ?_, hb.2⟩, hn⟩, k.cell (hne _ (Nat.le_refl _)) h1, ?_⟩
  · obtain ⟨b, off, rfl, hc⟩ := hb.1 i hi
    have hbr : b < r := hn (by omega) _ rfl
    exact ⟨b, off, rfl, k.cell (hne _ (by show b ≤ r; omega)) hc⟩
  · rw [World.frozen?_of_block (w := w) (k.block r (World.block_lt_of_cell? _ _ h1) (hne _ (Nat.le_refl _)))]; exact hf

set_option maxHeartbeats 2000000 in
theorem l92Table_any (r p : Nat) (most : Int) (w : World) (h : Rd w r p) (hp : p ≤ 800000) (hm0 : 0 ≤ most) (hm : most ≤ 1000) :
    Calls Try.prog 67 #[.pointer (some ⟨r, 0, none⟩), .int .i64 most] w (TabOut r p w) := by
  have hr := h.lt
  go_enter Try.func67, Try.ntmps67
  go_wp2_with fail
  refine (pick_any r p 3 _ h (by omega) (by omega)).mono ?_
  rintro e w1 ⟨x1, hx1, hx1', rfl, R1, k1⟩
  go_wp2_with fail
  refine (pick_any r (p + 1) 3 _ R1 (by omega) (by omega)).mono ?_
  rintro e w2 ⟨x2, hx2, hx2', rfl, R2, k2⟩
  go_wp2_with fail
  refine (pick_any r (p + 1 + 1) 3 _ R2 (by omega) (by omega)).mono ?_
  rintro e w3 ⟨x3, hx3, hx3', rfl, R3, k3⟩
  have K3 := (k1.trans k2).trans k3
  clear k1 k2 k3 R1 R2
  go_upto_if 18 with fail
  go_cut [5] (fun s wx => ∃ (hN q : Nat), s = .int .i64 hN ∧ 1 ≤ hN ∧ hN ≤ 4 ∧ q ≤ p + 4 ∧ Rd wx r q ∧ Keep r w wx)
  case first =>
    by_cases y0 : x3 = 0
    · subst y0
      go_wp2_with fail
      refine (pick_any r (p + 1 + 1 + 1) 3 _ R3 (by omega) (by omega)).mono ?_
      rintro e w4 ⟨x4, hx4, hx4', rfl, R4, k4⟩
      go_wp2_with fail
      go_meet
      exact ⟨(2 + x4).toNat, p + 4, by congr 1; omega, by omega, by omega, Nat.le_refl _, R4, K3.trans k4⟩
    · have y0b : (x3 == 0) = false := by simpa using y0
      go_wp2_with fail
      go_meet
      exact ⟨(1 + x1).toNat, p + 3, by congr 1; omega, by omega, by omega, by omega, R3, K3⟩
  case rest =>
    obtain ⟨hN, q, rfl, hN1, hN4, hq, R4, K4⟩ := hcut
    obtain ⟨mN, hmN⟩ : ∃ mN : Nat, (mN : Int) = 1 + x2 := ⟨(1 + x2).toNat, by omega⟩
    have hmN1 : 1 ≤ mN ∧ mN ≤ 3 := by omega
    rw [← hmN]
    clear hmN hx2 hx2' K3 R3
    obtain ⟨hmN0, hmN3⟩ := hmN1
    go_wp2_with fail
    refine (l11Blank_any hN mN _ (by omega) (by omega)).mono ?_
    rintro e w5 ⟨v, vs, rfl, own, e5⟩
    rw [replicate_tab] at own
    obtain ⟨av, cv, hv, _, _, _⟩ := own.rows
    rw [tabOf_length] at hv
    subst hv
    have R5 := R4.ext e5
    have K5 : Keep r w w5 := K4.trans (Keep.of_ext e5)
    have hrB : r < wc.heap.size := R4.lt
    have hwB : w.heap.size ≤ wc.heap.size := K4.size
    clear R4 K4 e5
    go_wp2_with fail
    go_loopg [8] hN (fun gh i wr => ∃ (k q' : Nat) (g : Nat → Nat → Int), k ≤ hN ∧ gh = hN - k ∧ i = .int .i64 k ∧ q' ≤ q + k * mN ∧ OwnI wr wc.heap.size (.slice av hN cv) vs (tabOf hN mN g) ∧ Rd wr r q' ∧ Keep r w wr)
    case atStart => exact ⟨0, q, _, Nat.zero_le _, rfl, rfl, by simp, own, R5, K5⟩
    case round =>
      clear own R5 K5
      obtain ⟨k, q', g, hk, rfl, rfl, hq', own, R, K⟩ := hrel
      by_cases hlt : k < hN
      · have hz : (k : Int) < (hN : Int) := by omega
        have hkm : k * mN + mN ≤ 12 := by
          have : (k + 1) * mN ≤ 4 * 3 := Nat.mul_le_mul (by omega) (by omega)
          rw [Nat.add_mul] at this
          omega
        go_wp2_with fail
        go_loopg [9] mN (fun gh i wi => ∃ (j q'' : Nat) (g : Nat → Nat → Int), j ≤ mN ∧ gh = mN - j ∧ i = .int .i64 j ∧ q'' ≤ q + k * mN + j ∧ OwnI wi wc.heap.size (.slice av hN cv) vs (tabOf hN mN g) ∧ Rd wi r q'' ∧ Keep r w wi)
        case atStart => exact ⟨0, q', g, Nat.zero_le _, rfl, rfl, by omega, own, R, K⟩
        case round =>
          clear own R K hq'
          obtain ⟨j, q2, g2, hj, rfl, rfl, hq2, own, R, K⟩ := hrel
          by_cases hjt : j < mN
          · have hjz : (j : Int) < (mN : Int) := by omega
            obtain ⟨o, co, b, ck, ev, ho, co1, hb, hbo, hvs, cg, fg, _⟩ := own.atC hlt hjt
            cases ev
            have hbr : b ≠ r := by omega
            have hor : o ≠ r := by omega
            unfold encI at cg
            have OW := Lib.hid own; clear own
            have hwr : IntKind.i64.wrap (most + 1) ≤ 1000000 := by rw [IntWalk.i64_in _ (by omega)]; omega
            go_wp2_with fail
            go_region_with (go_at_call 47; refine (pick_any r q2 _ _ R.drew (by omega) hwr).mono ?_; rintro e w6 ⟨y, hy0, hy1, rfl, R6, k6⟩; have d1 := k6.cell (p := ⟨o, k, none⟩) hor co1; have d2 := k6.cell (p := ⟨b, j, none⟩) hbr cg; have d3 := (k6.frozen (p := ⟨b, j, none⟩) hbr cg).trans fg)
            all_goals
              go_wp2_with fail
              go_roundg (mN - (j + 1))
              case measure => omega
              case rel => exact ⟨j + 1, q2 + 1, _, by omega, rfl, by go_num, by omega, ((OW.out.ext ((Ext.refl _).drew)).keep k6 hrB).setC (j := j) hlt hvs y, R6.setOther ⟨b, j, none⟩ (by show r < b; omega) _, (K.drew.trans k6).setNew (p := ⟨b, j, none⟩) (by show w.heap.size ≤ b; omega) _⟩
          · have hjz : ¬ (j : Int) < (mN : Int) := by omega
            have hjm : j = mN := by omega
            have HJ := Lib.hid hjm; clear hjm
            go_wp2_with fail
            go_roundg (hN - (k + 1))
            case measure => omega
            case rel => exact ⟨k + 1, q2, g2, by omega, rfl, by go_num, by rw [Nat.add_mul]; have := HJ.out; omega, own, R, K⟩
      · have hz : ¬ (k : Int) < (hN : Int) := by omega
        have hqq : q' ≤ p + 4 + 12 := by
          have : k * mN ≤ 4 * 3 := Nat.mul_le_mul (by omega) (by omega)
          omega
        go_wp2_with fail
        refine (pick_any r q' 40 _ R (by omega) (by omega)).mono ?_
        rintro e w6 ⟨y, hy0, hy1, rfl, R6, k6⟩
        have own6 := own.keep k6 hrB
        have K6 := K.trans k6
        clear own R K k6
        have hsm : ∀ x ∈ tabOf hN mN g, x.length ≤ 4 := fun x hx => by
          obtain ⟨i, hi, rfl⟩ := List.getElem_of_mem hx
          rw [tabOf_rowlen]; omega
        have HSM := Lib.hid hsm; clear hsm
        have own0 := own6.base hwB
        have h00 : 0 < hN := by omega
        obtain ⟨o, co, b, ck, ev, ho, co1, hb, hbo, hvs, cg, fg, fo⟩ := own6.atC h00 (by omega : 0 < mN)
        cases ev
        have hzN : (0 : Int) < (hN : Int) := by omega
        have hzM : (0 : Int) < (mN : Int) := by omega
        unfold encI at cg
        have hor : o ≠ r := by omega
        have hbr : b ≠ r := by omega
        by_cases y0 : y = 0
        · subst y0
          have OW := Lib.hid own6
          go_wp2_with fail
          have Ea : Ext w6 (w6.alloc (.cells #[.int .i64 (-1), .int .i64 100, .int .i64 99] 3)).drew := ((Ext.refl w6).alloc _).drew
          have Eb : Ext w6 w6.drew := (Ext.refl w6).drew
          have Ra := Lib.hid (R6.ext Ea); have Rb := Lib.hid (R6.ext Eb)
          have Ca := Lib.hid (Ea.cell co1); have Cb := Lib.hid (Eb.cell co1)
          have Da := Lib.hid (Ea.cell cg); have Db := Lib.hid (Eb.cell cg)
          have Fa := Lib.hid ((Ea.frozen cg).trans fg); have Fb := Lib.hid ((Eb.frozen cg).trans fg)
          have c6 := ((Ext.refl w6).alloc (.cells #[.int .i64 (-1), .int .i64 100, .int .i64 99] 3)).cell co1
          have c6' := Ca.out
          go_region_with (go_at_call 47; first
            | (refine (pick_any r (q' + 1) 3 _ Ra.out (by omega) (by omega)).mono ?_; rintro e w7 ⟨z, hz0, hz1, rfl, R7, k7⟩; have hz3 : z < 3 := (by omega); have d0 := k7.cell (p := ⟨o, 0, none⟩) hor Ca.out; have d1 := k7.cell (p := ⟨b, 0, none⟩) hbr Da.out; have d2 := (k7.frozen (p := ⟨b, 0, none⟩) hbr Da.out).trans Fa.out; have d3 := k7.cell (p := ⟨w6.heap.size, z.toNat, none⟩) (Nat.ne_of_gt R6.lt) (lit3_cell w6 3 (-1) 100 99 z hz0 hz3))
            | (refine (pick_any r (q' + 1) 3 _ Rb.out (by omega) (by omega)).mono ?_; rintro e w7 ⟨z, hz0, hz1, rfl, R7, k7⟩; have hz3 : z < 3 := (by omega); have hL := lit3 (-1) 100 99 z hz0 hz3; have d0 := k7.cell (p := ⟨o, 0, none⟩) hor Cb.out; have d1 := k7.cell (p := ⟨b, 0, none⟩) hbr Db.out; have d2 := (k7.frozen (p := ⟨b, 0, none⟩) hbr Db.out).trans Fb.out; have x7 := (Ext.refl w7).alloc (.cells #[.int .i64 (-1), .int .i64 100, .int .i64 99] 3); have d0' := x7.cell d0; have d1' := x7.cell d1; have d2' := (x7.frozen d1).trans d2; have d3' := lit3_cell w7 3 (-1) 100 99 z hz0 hz3))
          all_goals
            go_wp2_with fail
            go_ret
            have hx8 : ∀ (g' : Nat → Nat → Int), ∀ x ∈ tabOf hN mN g', x.length ≤ 4 := fun g' x hx => by
              obtain ⟨i, hi, rfl⟩ := List.getElem_of_mem hx
              rw [tabOf_rowlen]; omega
            first
              | exact ⟨_, vs, _, rfl, (((OW.out.ext Ea).keep k7 hrB).setC h00 hvs (lit3v (-1) 100 99 z)).base hwB, by rw [tabOf_length]; omega, hx8 _, ⟨q' + 1 + 1, by omega, R7.setOther ⟨b, 0, none⟩ (by show r < b; omega) _⟩, ((K6.trans (Keep.of_ext Ea)).trans k7).setNew (p := ⟨b, 0, none⟩) (by show w.heap.size ≤ b; omega) _⟩
              | exact ⟨_, vs, _, rfl, ((((OW.out.ext Eb).keep k7 hrB).ext x7).setC h00 hvs (lit3v (-1) 100 99 z)).base hwB, by rw [tabOf_length]; omega, hx8 _, ⟨q' + 1 + 1, by omega, (R7.ext x7).setOther ⟨b, 0, none⟩ (by show r < b; omega) _⟩, (((K6.trans (Keep.of_ext Eb)).trans k7).trans (Keep.of_ext x7)).setNew (p := ⟨b, 0, none⟩) (by show w.heap.size ≤ b; omega) _⟩
        · have y0b : (y == 0) = false := by simpa using y0
          by_cases y1 : y = 1
          · subst y1
            have h0t : 0 < (tabOf hN mN g).length := by rw [tabOf_length]; exact h00
            have h0v : 0 < vs.length := by rw [own6.len]; exact h0t
            have hin := own6.inner 0 h0t h0v
            have ev0 : vs[0] = .slice (some ⟨b, 0, none⟩) mN ck := by
              rw [List.getElem?_eq_getElem h0v] at hvs; exact Option.some.inj hvs
            rw [ev0] at hin
            have hin1 := owns_ext hin ((Ext.refl _).alloc (.cells #[.int .i64 1] 3))
            have hrow1 : IRow (w6.alloc (.cells #[.int .i64 1] 3)) (some ⟨w6.heap.size, 0, none⟩) [1] := fun i hi => ⟨w6.heap.size, 0, rfl, by
              have : i = 0 := by simpa using hi
              subst this
              simp [go_sem]⟩
            have hbb : (tabOf hN mN g)[0].length + ([1] : List Int).length ≤ 10000000 := by rw [tabOf_rowlen]; simp; omega
            have hwB2 : wc.heap.size ≤ (w6.alloc (.cells #[.int .i64 1] 3)).heap.size := by have := (own6.outer_lt rfl); simp; omega
            have hco1 := ((Ext.refl w6).alloc (.cells #[.int .i64 1] 3)).cell co1
            have hfo1 : (w6.alloc (.cells #[.int .i64 1] 3)).frozen? ⟨o, 0, none⟩ = false := (((Ext.refl w6).alloc (.cells #[.int .i64 1] 3)).frozen co1).trans fo
            have HI := Lib.hid hin1; have HR1 := Lib.hid hrow1; have OW := Lib.hid own6; have EV := Lib.hid ev0
            clear hin hin1 hrow1 own6 own0 ev0
            go_wp2_with (at_builtin; refine wpList_rowI rfl (.tmp 63) (.tmp 64) rfl wc.heap.size _ (tabOf hN mN g)[0] rfl HI.out _ _ [1] rfl (fun h => by cases h) HR1.out hbb hwB2 ?_; intro v' w8 hu hg8 _ hat8; obtain ⟨hco8, hfo8⟩ := grown_keep_cell hg8 hco1 hfo1 hbo; obtain ⟨au, cu, hv8, _⟩ := owns_cells hu; subst hv8; have HU := Lib.hid hu; have HG := Lib.hid hg8; have HAT := Lib.hid hat8; clear hu hg8 hat8)
            go_ret
            have hreg := (OW.out.ext ((Ext.refl w6).alloc (.cells #[.int .i64 1] 3))).regrow (k := 0) h0t h0v (by rw [EV.out]; exact HG.out) HU.out (by
              rw [EV.out]
              exact HAT.out.imp_right fun e => ⟨_, e, Nat.le_refl _⟩)
            have hlen1 : ((tabOf hN mN g)[0] ++ [1]).length = (tabOf hN mN g)[0].length + 1 := by simp
            rw [hlen1] at hreg
            refine ⟨_, _, _, rfl, hreg.base hwB, by simp [tabOf_length]; omega, fun x hx => ?_, ⟨q' + 1, by omega, ?_⟩, ?_⟩
            · rcases List.mem_or_eq_of_mem_set hx with h1 | h1
              · exact HSM.out x h1
              · subst h1; rw [hlen1, tabOf_rowlen]; omega
            · exact ((R6.ext ((Ext.refl _).alloc _)).grown HG.out (fun k hk => by cases hk; show r < b; omega)).setOther ⟨o, 0, none⟩ (by show r < o; omega) _
            · exact ((K6.alloc _).grownNew HG.out (fun k hk => by cases hk; show w.heap.size ≤ b; omega)).setNew (p := ⟨o, 0, none⟩) (by show w.heap.size ≤ o; omega) _
          · have y1b : (y == 1) = false := by simpa using y1
            by_cases y2 : y = 2
            · subst y2
              go_wp2_with fail
              go_ret
              exact ⟨_, [], [], rfl, ownT_empty w6 K6.size, by simp, fun x hx => by simp at hx, ⟨q' + 1, by omega, R6.ext ((Ext.refl _).alloc _)⟩, K6.alloc _⟩
            · have y2b : (y == 2) = false := by simpa using y2
              go_wp2_with fail
              go_ret
              exact ⟨_, vs, _, rfl, own0, by rw [tabOf_length]; omega, HSM.out, ⟨q' + 1, by omega, R6⟩, K6⟩
end Go.Proofs.Ytelcdjbbcffliaa
