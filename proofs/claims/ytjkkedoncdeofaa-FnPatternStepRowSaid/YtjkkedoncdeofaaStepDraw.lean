/- Draws of a step and of growing. -/
import Derived.Test.YtjkkedoncdeofaaPatDraw
namespace Go.Proofs.Ytjkkedoncdeofaa
open Go.RowKit Go.DC
set_option maxRecDepth 10000 in
set_option maxHeartbeats 4000000 in
theorem DrawPatternStep_any (a : Option Addr) (c : Nat) (zs : List Int) (w : World) (hb : Bytes w a zs) (hm : zs.length ≤ 9223372036854775807) (hcap : zs.length ≤ c) :
    Calls Try.prog 25 #[.slice a zs.length c] w (DrewTMMD w) := by
  go_enter Try.func25, Try.ntmps25
  go_wp2_with fail
  refine (l6Open_any a c zs _ hb hm hcap).mono ?_
  rintro e w1 ⟨r, hr, rfl, R1, e1⟩
  have hrl : r < w1.heap.size := R1.lt
  go_wp2_with fail
  refine (l92First_any r 0 _ R1 (by omega)).mono ?_
  rintro e w2 ⟨a1, c1, vs1, t, a2, c2, vs2, fm, rfl, o1, o2, ht, htr, hm5, hmr, ⟨p, hp, R2⟩, K⟩
  have HTR := Lib.hid htr
  clear htr hmr R1
  go_wp2_with fail
  refine (pick_any r p 3 _ R2 (by omega) (by omega)).mono ?_
  rintro e w3 ⟨y, hy0, hy1, rfl, R3, k3⟩
  have O1 := Lib.hid (o1.keep k3 hrl)
  have O2 := Lib.hid (o2.keep k3 hrl)
  have KK := Lib.hid (K.trans k3)
  have hw3 : r < w3.heap.size := R3.lt
  clear o1 o2 K k3 R2
  by_cases hy : y = 0
  · subst hy
    go_wp2_with fail
    refine (l92Mask_any r (p + 1) w1.heap.size _ _ vs1 t _ R3 (by omega) O1.out hrl ht HTR.out).mono ?_
    rintro e w5 ⟨v5, vs5, mk, rfl, o5, hm5', _, ⟨p5, hp5, R5⟩, k5⟩
    obtain ⟨a5, c5, hv, _⟩ := o5.rows
    subst hv
    have O1' := Lib.hid (O1.out.keep k5 hrl)
    have O2' := Lib.hid (O2.out.keep k5 hrl)
    have O5 := Lib.hid o5
    have K5 := Lib.hid (KK.out.trans k5)
    clear o5 k5 O1 O2 KK R3
    go_wp2_with fail
    refine (l92Safe_any r p5 _ R5 (by omega)).mono ?_
    rintro e w6 ⟨s, hs0, hs1, rfl, _, k6⟩
    have o5 := O5.out.keep k6 hw3
    go_wp2_with fail
    refine bodyPost_ret (results_tmp4 rfl _ _ _) rfl ?_
    exact ⟨a1, c1, t, a2, c2, fm, a5, c5, mk, s, rfl, own_read (O1'.out.keep k6 hrl), own_read (O2'.out.keep k6 hrl), own_read o5, ht, hm5, hm5', ⟨hs0, hs1⟩, (K5.out.trans k6).ext e1 hr⟩
  · have hyb : (y == 0) = false := by simpa using hy
    go_wp2_with fail
    refine (pick_any r (p + 1) 2 _ R3 (by omega) (by omega)).mono ?_
    rintro e w5 ⟨z, hz0, hz1, rfl, R5, k5⟩
    have hw1 : IntKind.i64.wrap (1 + z) = 1 + z := IntWalk.i64_in _ (by omega)
    go_wp2_with fail
    refine bodyPost_ret (results_tmp4 rfl _ _ _) rfl ?_
    exact ⟨a1, c1, t, a2, c2, fm, a2, c2, fm, 1 + z, rfl, own_read (O1.out.keep k5 hrl), own_read (O2.out.keep k5 hrl), own_read (O2.out.keep k5 hrl), ht, hm5, hm5, by omega, (KK.out.trans k5).ext e1 hr⟩
end Go.Proofs.Ytjkkedoncdeofaa
