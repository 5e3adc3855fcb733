/- The draw of rows that often fit. -/
import Derived.Test.YtelcdjbbcffliaaFitMath
import Derived.Test.YtelcdjbbcffliaaTabDraw
import Derived.Test.YtelcdjbbcffliaaSPath
namespace Go.DC
open Go Go.RowKit
/-- The world without what was made later. -/
def cutW (w : World) (B : Nat) : World := { w with heap := w.heap.extract 0 B }
theorem cutW_at {w : World} {B k : Nat} (hk : k < B) : (cutW w B).heap[k]? = w.heap[k]? := by
  unfold cutW
  simp only [Array.getElem?_extract]
  by_cases h : k < w.heap.size
  · simp; intro; omega
  · simp; omega
theorem cutW_size {w : World} {B : Nat} (h : B ≤ w.heap.size) : (cutW w B).heap.size = B := by
  unfold cutW
  simp; omega
theorem cutW_ext {w : World} {B : Nat} (h : B ≤ w.heap.size) : Ext (cutW w B) w :=
  ⟨rfl, rfl, rfl, by rw [cutW_size h]; exact h, fun k hk => by rw [cutW_size h] at hk; exact (cutW_at hk).symm⟩
theorem cutW_keep {r : Nat} {w0 w : World} (h : Keep r w0 w) : Keep r w0 (cutW w w0.heap.size) :=
  ⟨h.os, h.tape, h.output, by rw [cutW_size h.size]; exact Nat.le_refl _, fun k hk hr => (cutW_at hk).trans (h.block k hk hr)⟩
theorem cutW_cell {w : World} {B : Nat} {p : Addr} (hp : p.block < B) : (cutW w B).cell? p = w.cell? p := by
  unfold World.cell?
  rw [cutW_at hp]
theorem cutW_frozen {w : World} {B : Nat} {p : Addr} (hp : p.block < B) : (cutW w B).frozen? p = w.frozen? p := by
  unfold World.frozen?
  rw [cutW_at hp]
end Go.DC
namespace Go.Proofs.Ytelcdjbbcffliaa
open Go.RowKit Go.DC
theorem Rd.cut {w : World} {r p B : Nat} (h : Rd w r p) (hr : r < B) : Rd (cutW w B) r p := by
  obtain ⟨⟨a, c, zs, h0, hl, hb, hn⟩, h1, hf⟩ := h
  refine ⟨⟨a, c, zs, ?_, hl, ?_, hn⟩, ?_, ?_⟩
  · rw [cutW_cell (p := ⟨r, 0, none⟩) hr]; exact h0
  · exact ⟨fun k hk => by
      obtain ⟨b, off, rfl, hc⟩ := hb.1 k hk
      have hbr : b < r := hn (by omega) _ rfl
      exact ⟨b, off, rfl, by rw [cutW_cell (show b < B by omega)]; exact hc⟩, hb.2⟩
  · rw [cutW_cell (p := ⟨r, 1, none⟩) hr]; exact h1
  · rw [cutW_frozen (p := ⟨r, 1, none⟩) hr]; exact hf
theorem OwnT.setAbove {α : Type} {enc : α → Value} {te ts : TypeId} {w0 w : World} {B : Nat} {v : Value} {vs : List Value} {t : List (List α)} {b : Addr} (h0 : OwnT enc te ts w0 B v vs t) (h : OwnT enc te ts w B v vs t) (hb : w0.heap.size ≤ b.block) (u : Value) : OwnT enc te ts (w.setCell b u) B v vs t :=
  h.only (S := fun k => k = b.block) ((Only.refl (fun k => k = b.block) w).setCell rfl u) (fun k hk e => by have := (h0.outer_lt hk).2; omega) (fun l hl k hk e => by have := (h0.inner_lt hl hk).2; omega)
/-- A table, a mask and rows. -/
def DrewTMT (w : World) (e : Ending) (w' : World) : Prop :=
  ∃ a1 c1 t a2 c2 mk a3 c3 x, e = .returned (.tuple #[.slice a1 t.length c1, .slice a2 mk.length c2, .slice a3 x.length c3]) ∧ IRows w' a1 t ∧ BRows w' a2 mk ∧ IRows w' a3 x ∧ t.length ≤ 4 ∧ mk.length ≤ 5 ∧ x.length ≤ 4 ∧ Ext w w'
theorem sgn_bd (up : Bool) : -1 ≤ sgn up 1 ∧ sgn up 1 ≤ 1 := by cases up <;> simp [sgn]
/-- A cell near what may be, with the changed one within bounds. -/
theorem near_bd {n m : Nat} {f X : Nat → Nat → Int} {b : Nat → Nat → Bool} {i j k l : Nat} (hs : Small n m f) (h : Near n m f b i j X) (hk : k < n) (hl : l < m) (h0 : -2 ≤ X i j) (h1 : X i j ≤ 102) : -10 ≤ X k l ∧ X k l ≤ 400 := by
  by_cases e : k = i ∧ l = j
  · rw [e.1, e.2]; omega
  · have := h.other hs hk hl e
    omega
set_option maxRecDepth 10000 in
set_option maxHeartbeats 8000000 in
theorem DrawFitTables_any (a : Option Addr) (c : Nat) (zs : List Int) (w : World) (hb : Bytes w a zs) (hm : zs.length ≤ 9223372036854775807) (hcap : zs.length ≤ c) :
    Calls Try.prog 22 #[.slice a zs.length c] w (DrewTMT w) := by
  go_enter Try.func22, Try.ntmps22
  go_wp2_with fail
  refine (l6Open_any a c zs _ hb hm hcap).mono ?_
  rintro e w1 ⟨r, hr, rfl, R1, e1⟩
  have hrl : r < w1.heap.size := R1.lt
  go_wp2_with fail
  refine (l92Hidden_any r 0 _ R1 (by omega)).mono ?_
  rintro e w2 ⟨a1, c1, vs1, t, a2, c2, vs2, mk, i, j, rfl, o1, o2, ht, htr, hm5, hmr, hi, hj, ⟨p, hp, R2⟩, K2⟩
  have hr2 : r < w2.heap.size := R2.lt
  have hs12 : w1.heap.size ≤ w2.heap.size := K2.size
  have O1B := Lib.hid o1; have O2B := Lib.hid o2; have KB := Lib.hid K2
  go_wp2_with fail
  refine (l11Copy_any _ _ t _ (own_read o1) (by omega) (fun k h => by have := htr _ (List.getElem_mem h); omega)).mono ?_
  rintro e w3 ⟨v3, vs3, rfl, o3, e3⟩
  obtain ⟨a3, c3, rfl, _⟩ := o3.rows
  have R3 := R2.ext e3
  have E23 := Lib.hid e3; have O3B := Lib.hid o3
  clear o1 o2 o3 R1 R2 K2 htr hmr e3 hs12
  go_upto_region 4 with fail
  go_cut [35] from 22 (fun s wx => ∃ bb, s = .bool bb ∧ (bb = true → ∃ ni nj : Nat, i = ni ∧ j = nj ∧ ni < t.length ∧ nj < wide t ∧ maskOk t mk = true ∧ get false mk ni nj = true) ∧ Ext w3 wx)
  case first =>
    go_wp2_with fail
    refine (l13Ok_any a1 a2 c1 c2 t mk i j _ (own_read (O1B.out.ext E23.out)) (own_read (O2B.out.ext E23.out)) (by omega) (by omega) (by omega) (by omega)).mono ?_
    rintro e w4 ⟨rfl, e4⟩
    cases hc : hasC t mk i j with
    | false =>
      clear hc
      go_wp2_with fail
      go_meet
      exact ⟨false, rfl, (fun h => by cases h), e4⟩
    | true =>
      obtain ⟨ni, nj, rfl, rfl, hin, hjm, hmo⟩ := hasC_nat hc
      have hml : mk.length = t.length := (maskOk_rect hmo).2.1
      obtain ⟨_, _, mb2, mf2, mk2, ea, cm1, cm2⟩ := (own_read (O2B.out.ext (E23.out.trans e4))).atC false (maskOk_rect hmo).2 hin hjm
      have hkm : (ni : Int) < (mk.length : Int) := by omega
      have hlz : (nj : Int) < (wide t : Int) := by omega
      subst ea
      obtain ⟨bv, hbv⟩ : ∃ z, get false mk ni nj = z := ⟨_, rfl⟩
      rw [hbv] at cm2
      unfold encB at cm2
      have HBV := Lib.hid hbv; have HMO := Lib.hid hmo
      clear hc hmo hbv hml
      cases bv with
      | false =>
        go_wp2_with fail
        go_meet
        exact ⟨false, rfl, (fun h => by cases h), e4⟩
      | true =>
        go_wp2_with fail
        go_meet
        exact ⟨true, rfl, (fun _ => ⟨ni, nj, rfl, rfl, hin, hjm, HMO.out, HBV.out⟩), e4⟩
  case rest =>
    obtain ⟨bb, rfl, hbb, E34⟩ := hcut
    have HBB := Lib.hid hbb
    have R4 := R3.ext E34
    have K24 := Lib.hid ((Keep.of_ext (r := r) E23.out).trans (Keep.of_ext E34)); have O34 := Lib.hid (O3B.out.ext E34)
    clear hbb R3 E34
    go_upto_if 35 with fail
    go_cut [] from 36 (fun wx => ∃ xs vsx p', OwnI wx w2.heap.size (.slice a3 t.length c3) vsx xs ∧ xs.length = t.length ∧ (tabOk t = true → ∃ X, xs = tabOf t.length (wide t) X ∧ -10 ≤ X 0 0 ∧ X 0 0 ≤ 400) ∧ Keep r w2 wx ∧ p' ≤ 70 ∧ Rd wx r p')
    case first =>
      cases bb with
      | false =>
        go_wp2_with fail
        go_meet
        exact ⟨t, vs3, p, O34.out, rfl, (fun hv => by
          obtain ⟨e, hf⟩ := tabOk_form hv
          have h00 := hf.1
          have := hf.2 0 0 (by omega) (by omega)
          exact ⟨get 0 t, e, by omega, by omega⟩), K24.out, by omega, R4⟩
      | true =>
        obtain ⟨ni, nj, rfl, rfl, hin, hjm, hmo, hbv⟩ := HBB.out rfl
        obtain ⟨r1, r2⟩ := maskOk_rect hmo
        obtain ⟨et, hf⟩ := tabOk_form r1
        have hsm := small_of hmo
        obtain ⟨_, ht1, _, hw1, hw4, hcell⟩ := tabOk_rect r1
        have hfb := hcell ni nj hin hjm
        have NR0 : Hid (Near t.length (wide t) (get 0 t) (get false mk) ni nj (get 0 t)) := (Fits.refl fun k l hk hl => (hcell k l hk hl).1).near ni nj
        have HR2 := Lib.hid r2; have ET := Lib.hid et; have HSM := Lib.hid hsm; have FB := Lib.hid hfb; have HBV := Lib.hid hbv
        have hkt : (ni : Int) < (t.length : Int) := by omega
        have hlz : (nj : Int) < (wide t : Int) := by omega
        clear hmo r1 r2 et hf hsm hcell hfb hbv HBB
        go_upto_region 5 with fail
        go_cut [58] from 36 (fun s wx => ∃ rr, s = .bool rr ∧ ∃ X vsx p', OwnI wx w2.heap.size (.slice a3 t.length c3) vsx (tabOf t.length (wide t) X) ∧ Near t.length (wide t) (get 0 t) (get false mk) ni nj X ∧ -2 ≤ X ni nj ∧ X ni nj ≤ 101 ∧ Keep r w2 wx ∧ p' ≤ 68 ∧ Rd wx r p')
        case first =>
          go_wp2_with fail
          refine (pick_any r p 2 _ R4 (by omega) (by omega)).mono ?_
          rintro e w5 ⟨y5, hy50, hy51, rfl, R5, k5⟩
          have k25 : Keep r w2 w5 := K24.out.trans k5
          have O5 : Hid (OwnI w5 w2.heap.size (.slice a3 t.length c3) vs3 (tabOf t.length (wide t) (get 0 t))) := (congrArg (fun z => OwnI w5 w2.heap.size (.slice a3 t.length c3) vs3 z) ET.out).mp (O34.out.keep k5 hr2)
          have KC := Lib.hid (cutW_keep k25)
          have RC := Lib.hid (R5.cut (B := w2.heap.size) hr2)
          have CHG : Hid (∀ up, Calls Try.prog 46 #[.slice a3 t.length c3, .slice a2 mk.length c2, .int .i64 ni, .int .i64 nj, .bool up] w5 (ChangeOut t.length (wide t) (get 0 t) (get false mk) ni nj up (get 0 t) w2.heap.size (.slice a3 t.length c3) vs3 (cutW w5 w2.heap.size))) := fun up =>
            l13Change_any a3 a2 c3 c2 t.length (wide t) ni nj w2.heap.size mk up (get 0 t) (get 0 t) vs3 (cutW w5 w2.heap.size) w5 (own_read (O2B.out.keep (cutW_keep k25) hrl)) HR2.out O5.out (cutW_ext k25.size) (Nat.le_of_eq (cutW_size k25.size)) ht1 ht hw4 hin hjm HBV.out HSM.out NR0.out
          clear k5 k25
          by_cases hy5 : y5 = 0
          · subst hy5
            go_wp2_with fail
            refine (CHG.out (true)).mono ?_
            rintro e w6 ⟨rr, X, rfl, o6, e6, hn6, hx6⟩
            have hxb : -2 ≤ X ni nj ∧ X ni nj ≤ 101 := by
              rcases hx6 with ⟨_, h⟩ | ⟨_, h, _⟩
              · rw [h]; have := FB.out; have := @sgn_bd (true); omega
              · rw [h]; have := FB.out; omega
            have O6 := Lib.hid o6; have N6 := Lib.hid hn6; have X6 := Lib.hid hxb; have R6 := RC.out.ext e6; have K6 := Lib.hid (KC.out.trans (Keep.of_ext e6))
            clear o6 hn6 hxb hx6 e6
            cases rr with
            | false =>
              go_wp2_with fail
              go_meet
              exact ⟨false, rfl, X, vs3, p + 1, O6.out, N6.out, X6.out.1, X6.out.2, K6.out, by omega, R6⟩
            | true =>
              go_wp2_with fail
              refine (pick_any r (p + 1) 2 _ R6 (by omega) (by omega)).mono ?_
              rintro e w7 ⟨y7, hy70, hy71, rfl, R7, k7⟩
              have O7 := Lib.hid (O6.out.keep k7 hr2); have K7 := Lib.hid (K6.out.trans k7)
              clear k7
              go_wp2_with fail
              go_meet
              exact ⟨_, rfl, X, vs3, p + 2, O7.out, N6.out, X6.out.1, X6.out.2, K7.out, by omega, R7⟩
          · have hy5b : (y5 == 0) = false := by simpa using hy5
            obtain ⟨o, co, bx, ck, ev, ho, co1, hbx, hbo, hvs, cg, fg, fo⟩ := O5.out.atC (i := ni) (j := nj) (by omega) (by omega)
            cases ev
            obtain ⟨x0, hx0⟩ : ∃ z, get 0 t ni nj = z := ⟨_, rfl⟩
            rw [hx0] at cg
            unfold encI at cg
            clear hvs hx0
            go_wp2_with fail
            refine (CHG.out (x0 == 0)).mono ?_
            rintro e w6 ⟨rr, X, rfl, o6, e6, hn6, hx6⟩
            have hxb : -2 ≤ X ni nj ∧ X ni nj ≤ 101 := by
              rcases hx6 with ⟨_, h⟩ | ⟨_, h, _⟩
              · rw [h]; have := FB.out; have := @sgn_bd (x0 == 0); omega
              · rw [h]; have := FB.out; omega
            have O6 := Lib.hid o6; have N6 := Lib.hid hn6; have X6 := Lib.hid hxb; have R6 := RC.out.ext e6; have K6 := Lib.hid (KC.out.trans (Keep.of_ext e6))
            clear o6 hn6 hxb hx6 e6
            cases rr with
            | false =>
              go_wp2_with fail
              go_meet
              exact ⟨false, rfl, X, vs3, p + 1, O6.out, N6.out, X6.out.1, X6.out.2, K6.out, by omega, R6⟩
            | true =>
              go_wp2_with fail
              refine (pick_any r (p + 1) 2 _ R6 (by omega) (by omega)).mono ?_
              rintro e w7 ⟨y7, hy70, hy71, rfl, R7, k7⟩
              have O7 := Lib.hid (O6.out.keep k7 hr2); have K7 := Lib.hid (K6.out.trans k7)
              clear k7
              go_wp2_with fail
              go_meet
              exact ⟨_, rfl, X, vs3, p + 2, O7.out, N6.out, X6.out.1, X6.out.2, K7.out, by omega, R7⟩
        case rest =>
          obtain ⟨rr, rfl, X, vsx, p', ox, nx, b0, b1, kx, hp', rx⟩ := hcut
          have OX := Lib.hid ox; have NX := Lib.hid nx; have KX := Lib.hid kx; have B0 := Lib.hid b0; have B1 := Lib.hid b1
          clear ox nx kx b0 b1
          cases rr with
          | false =>
            go_wp2_with fail
            go_meet
            exact ⟨_, vsx, p', OX.out, tabOf_length _ _ _, (fun _ => ⟨X, rfl, near_bd HSM.out NX.out (by omega) (by omega) B0.out (by have := B1.out; omega)⟩), KX.out, by omega, rx⟩
          | true =>
            go_wp2_with fail
            refine (l13Change_any a3 a2 c3 c2 t.length (wide t) ni nj w2.heap.size mk true (get 0 t) X vsx (cutW wc w2.heap.size) wc (own_read (O2B.out.keep (cutW_keep KX.out) hrl)) HR2.out OX.out (cutW_ext KX.out.size) (Nat.le_of_eq (cutW_size KX.out.size)) ht1 ht hw4 hin hjm HBV.out HSM.out NX.out).mono ?_
            rintro e w8 ⟨r8, Y, rfl, o8, e8, n8, h8⟩
            have hyb : -2 ≤ Y ni nj ∧ Y ni nj ≤ 102 := by
              have := B0.out; have := B1.out
              rcases h8 with ⟨_, h⟩ | ⟨_, h, _⟩
              · rw [h]; have : sgn true 1 = 1 := by simp [sgn]
                omega
              · rw [h]; omega
            have O8 := Lib.hid o8; have N8 := Lib.hid n8; have X8 := Lib.hid hyb; have K8 := Lib.hid ((cutW_keep KX.out).trans (Keep.of_ext e8)); have R8 := (rx.cut (B := w2.heap.size) hr2).ext e8
            clear o8 n8 hyb h8 e8
            go_wp2_with fail
            go_meet
            exact ⟨_, vsx, p', O8.out, tabOf_length _ _ _, (fun _ => ⟨Y, rfl, near_bd HSM.out N8.out (by omega) (by omega) X8.out.1 X8.out.2⟩), K8.out, by omega, R8⟩
    case rest =>
      obtain ⟨xs, vsx, p', ox, hxl, hxf, kx, hp', R5⟩ := hcut
      have OX := Lib.hid ox; have HXF := Lib.hid hxf; have HXL := Lib.hid hxl; have KX := Lib.hid kx
      clear ox hxf hxl kx R4
      go_wp2_with fail
      refine (pick_any r p' 8 _ R5 (by omega) (by omega)).mono ?_
      rintro e w8 ⟨y8, hy80, hy81, rfl, R8, k8⟩
      have k28 := KX.out.trans k8
      have OA := Lib.hid (O1B.out.keep k28 hrl); have OB := Lib.hid (O2B.out.keep k28 hrl); have OC := Lib.hid (OX.out.keep k8 hr2); have K8 := Lib.hid (KB.out.trans k28)
      clear k8 k28
      by_cases hy8 : y8 = 0
      · subst hy8
        go_wp2_with fail
        refine (sTableValid_any a1 c1 t _ (own_read OA.out) (by omega)).mono ?_
        rintro e w9 ⟨rfl, e9⟩
        have OA9 := Lib.hid (OA.out.ext e9); have OB9 := Lib.hid (OB.out.ext e9); have OC9 := Lib.hid (OC.out.ext e9); have K9 := Lib.hid (K8.out.trans (Keep.of_ext e9)); have R9 := R8.ext e9
        cases hv : tabOk t with
        | false =>
          clear hv
          go_wp2_with fail
          refine bodyPost_ret (results_tmp3 rfl _ _ _) rfl ?_
          have ox' : OwnI w9 w2.heap.size (.slice a3 xs.length c3) vsx xs := by rw [HXL.out]; exact OC9.out
          exact ⟨a1, c1, t, a2, c2, mk, a3, c3, xs, by rw [HXL.out]; rfl, own_read OA9.out, own_read OB9.out, own_read ox', ht, hm5, by rw [HXL.out]; exact ht, K9.out.ext e1 hr⟩
        | true =>
          obtain ⟨X, rfl, hX0, hX1⟩ := HXF.out hv
          obtain ⟨_, ht1, _, hw1, _, _⟩ := tabOk_rect hv
          obtain ⟨o, co, b, ck, ev, ho, co1, hb, hbo, hvs, cg, fg, fo⟩ := OC9.out.atC (i := 0) (j := 0) (by omega) (by omega)
          cases ev
          have hzN : (0 : Int) < (t.length : Int) := by omega
          have hzM : (0 : Int) < (wide t : Int) := by omega
          have hbr : b ≠ r := by omega
          have hor : o ≠ r := by omega
          obtain ⟨x0, hx0⟩ : ∃ z, X 0 0 = z := ⟨_, rfl⟩
          rw [hx0] at cg hX0 hX1
          unfold encI at cg
          have HVS := Lib.hid hvs
          clear hv hx0 hvs
          go_wp2_with fail
          go_region_with (go_at_call 47; refine (pick_any r (p' + 1) 3 _ R9.drew (by omega) (by omega)).mono ?_; rintro e w10 ⟨y, hy0, hy1, rfl, R10, k10⟩; have d1 := k10.cell (p := ⟨o, 0, none⟩) hor co1; have d2 := k10.cell (p := ⟨b, 0, none⟩) hbr cg; have d3 := (k10.frozen (p := ⟨b, 0, none⟩) hbr cg).trans fg)
          all_goals
            go_wp2_with fail
            refine bodyPost_ret (results_tmp3 rfl _ _ _) rfl ?_
            try rw [IntWalk.i64_in (x0 + y) (by omega)]
            try rw [IntWalk.i64_in (x0 + y - 1) (by omega)]
            have oc := ((OC9.out.ext ((Ext.refl _).drew)).keep k10 hr2).setC (j := 0) (by omega) HVS.out (x0 + y - 1)
            have oa := OwnT.setAbove O1B.out ((OA9.out.ext ((Ext.refl _).drew)).keep k10 hrl) (b := ⟨b, 0, none⟩) hb (encI (x0 + y - 1))
            have ob := OwnT.setAbove O2B.out ((OB9.out.ext ((Ext.refl _).drew)).keep k10 hrl) (b := ⟨b, 0, none⟩) hb (encI (x0 + y - 1))
            unfold encI at oc oa ob
            obtain ⟨_, _, ev, _, rr, _⟩ := oc.rows
            rw [tabOf_length] at ev
            cases ev
            exact ⟨a1, c1, t, a2, c2, mk, _, c3, _, by rw [tabOf_length]; rfl, own_read oa, own_read ob, rr, ht, hm5, by rw [tabOf_length]; exact ht, (((K9.out.drew.trans k10).setNew (p := ⟨b, 0, none⟩) (by show w1.heap.size ≤ b; have := KB.out.size; omega) _).ext e1 hr)⟩
      · have hy8b : (y8 == 0) = false := by simpa using hy8
        go_wp2_with fail
        refine bodyPost_ret (results_tmp3 rfl _ _ _) rfl ?_
        have ox' : OwnI w8 w2.heap.size (.slice a3 xs.length c3) vsx xs := by rw [HXL.out]; exact OC.out
        exact ⟨a1, c1, t, a2, c2, mk, a3, c3, xs, by rw [HXL.out]; rfl, own_read OA.out, own_read OB.out, own_read ox', ht, hm5, by rw [HXL.out]; exact ht, K8.out.ext e1 hr⟩
end Go.Proofs.Ytelcdjbbcffliaa
