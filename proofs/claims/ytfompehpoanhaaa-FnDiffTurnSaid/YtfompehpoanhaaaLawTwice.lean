/- The law FnDiffTwice. -/
import Derived.Test.YtfompehpoanhaaaTabDraw2
import Derived.Test.YtfompehpoanhaaaCells
import Derived.Test.YtfompehpoanhaaaTabEqI
import Derived.Test.YtfompehpoanhaaaLawExDiff
namespace Go.Proofs.Ytfompehpoanhaaa
open Go.RowKit Go.DC
/-- What is drawn for the difference of tables. -/
def DrewT2 (w : World) (e : Ending) (w' : World) : Prop :=
  ∃ v1 vs1 s v2 vs2 t, e = .returned (.tuple #[v1, v2]) ∧ OwnI w' w.heap.size v1 vs1 s ∧ OwnI w' w.heap.size v2 vs2 t ∧ s.length ≤ 4 ∧ (∀ x ∈ s, x.length ≤ 4) ∧ t.length ≤ 4 ∧ (∀ x ∈ t, x.length ≤ 4) ∧ Ext w w'
set_option maxHeartbeats 1000000 in
theorem DrawDiffTable_any (a : Option Addr) (c : Nat) (zs : List Int) (w : World) (hb : Bytes w a zs) (hm : zs.length ≤ 9223372036854775807) (hcap : zs.length ≤ c) :
    Calls Try.prog 13 #[.slice a zs.length c] w (DrewT2 w) := by
  go_enter Try.func13, Try.ntmps13
  go_wp2_with fail
  refine (l6Open_any a c zs _ hb hm hcap).mono ?_
  rintro e w1 ⟨r, hr, rfl, R1, e1⟩
  go_wp2_with fail
  refine (l92Two_any r 0 _ R1 (by omega)).mono ?_
  rintro e w2 ⟨v1, vs1, s, v2, vs2, t, rfl, o1, o2, h1, h2, h3, h4, _, K⟩
  go_wp2_with fail
  go_ret2
  exact ⟨v1, vs1, s, v2, vs2, t, rfl, o1.base e1.size, o2.base e1.size, h1, h2, h3, h4, K.ext e1 hr⟩
set_option maxHeartbeats 4000000 in
theorem FnDiffTwice_walk (a0 : Option Addr) (c0 : Nat) (xs : List Int) (w : World) (hx : Bytes w a0 xs) (hm0 : xs.length ≤ 9223372036854775807) (hl0 : xs.length ≤ c0) :
    Calls Try.prog 3 #[.slice a0 xs.length c0] w fun e w' => e = .returned (.bool true) ∧ Ext w w' := by
  by_cases hX : 1048576 < xs.length
  · have hz : (1048576 : Int) < (xs.length : Int) := by omega
    go_enter Try.func3, Try.ntmps3
    go_wp2_with fail
    go_ret
    exact ⟨rfl, Ext.refl _⟩
  have hz0 : ¬ (1048576 : Int) < (xs.length : Int) := by omega
  have hb0 : decide (1048576 < xs.length) = false := by simpa using hX
  have HX := Lib.hid hx; clear hx
  go_enter Try.func3, Try.ntmps3
  go_wp2_with fail
  refine (DrawDiffTable_any _ _ xs _ HX.out hm0 hl0).mono ?_
  rintro e w1 ⟨v1, vs1, A, v2, vs2, B, rfl, o1, o2, hA4, hAr, hB4, hBr, e1⟩
  obtain ⟨a, c, rfl, _, ra, _⟩ := o1.rows
  obtain ⟨b, d, rfl, _, rb, _⟩ := o2.rows
  have RA := Lib.hid ra; have RB := Lib.hid rb; have HAR := Lib.hid hAr; have HBR := Lib.hid hBr
  clear ra rb o1 o2 hAr hBr
  obtain ⟨hd4, hdr, hds⟩ := diffT_small A B
  have HDR := Lib.hid hdr; clear hdr
  go_wp2_with fail
  refine (DiffTable_any _ _ _ _ A B _ RA.out RB.out (by omega) (by omega)).mono ?_
  rintro e w2 ⟨v3, vs3, rfl, o3, e2⟩
  obtain ⟨b3, d3, rfl, _, r3, _⟩ := o3.rows
  have R3 := Lib.hid r3; clear r3 o3
  go_wp2_with fail
  refine (sDiffTable_any _ _ _ _ A B _ (RA.out.ext e2) (RB.out.ext e2) (by omega) (by omega)).mono ?_
  rintro e w3 ⟨v4, vs4, rfl, o4, e3⟩
  obtain ⟨b4, d4, rfl, _, r4, _⟩ := o4.rows
  have R4 := Lib.hid r4; clear r4 o4
  have htw := fun h => diff_twice (a := A) (b := B) h
  have HTW := Lib.hid htw; clear htw
  have E3 := (e1.trans e2).trans e3
  obtain ⟨dt, hdt⟩ : ∃ dt, diffT A B = dt := ⟨_, rfl⟩
  obtain ⟨dk, hdk⟩ : ∃ dk, diffOk A B = dk := ⟨_, rfl⟩
  rw [hdt] at R3 R4 HDR hd4 hds
  rw [hdt, hdk] at HTW
  simp only [hdt, hdk]
  clear hdt hdk
  have hdl : dt.length ≤ 9223372036854775807 := by omega
  have hdr' : ∀ r ∈ dt, r.length ≤ 9223372036854775807 := fun r hr => by have := HDR.out r hr; omega
  have hbr' : ∀ r ∈ B, r.length ≤ 9223372036854775807 := fun r hr => by have := HBR.out r hr; omega
  have HDR' := Lib.hid hdr'; have HBR' := Lib.hid hbr'; clear hdr' hbr'
  have hbb : (!(dk == dk)) = false := by simp
  have hbb2 : (dk == dk) = true := by simp
  go_wp2_with fail
  refine (sameRows_any _ _ _ _ dt dt _ (R3.out.ext e3) R4.out hdl hdl HDR'.out HDR'.out).mono ?_
  rintro e w4 ⟨rfl, e4⟩
  rw [decide_eq_true (rfl : dt = dt)]
  have E4 := E3.trans e4
  cases dk with
  | false =>
    go_wp2_with fail
    refine (sameRows_any _ _ _ _ dt dt _ (R3.out.ext (e3.trans e4)) (R4.out.ext e4) hdl hdl HDR'.out HDR'.out).mono ?_
    rintro e w5 ⟨rfl, e5⟩
    rw [decide_eq_true (rfl : dt = dt)]
    go_wp2_with fail
    go_ret
    exact ⟨rfl, E4.trans e5⟩
  | true =>
    obtain ⟨hk1, hk2⟩ := HTW.out rfl
    go_wp2_with fail
    refine (DiffTable_any _ _ _ _ A dt _ (RA.out.ext ((e2.trans e3).trans e4)) (R3.out.ext (e3.trans e4)) (by omega) (by omega)).mono ?_
    rintro e w5 ⟨v5, vs5, rfl, o5, e5⟩
    rw [hk1]
    rw [hk2] at o5
    obtain ⟨b5, d5, rfl, _, r5, _⟩ := o5.rows
    have R5 := Lib.hid r5; clear r5 o5
    clear hk1 hk2
    go_wp2_with fail
    refine (sameRows_any _ _ _ _ B B _ R5.out (RB.out.ext (((e2.trans e3).trans e4).trans e5)) (by omega) (by omega) HBR'.out HBR'.out).mono ?_
    rintro e w6 ⟨rfl, e6⟩
    rw [decide_eq_true (rfl : B = B)]
    go_wp2_with fail
    go_ret
    exact ⟨rfl, (E4.trans e5).trans e6⟩
end Go.Proofs.Ytfompehpoanhaaa
