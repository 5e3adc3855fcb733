/- Draws of growing. -/
import Derived.Test.YtnlolgooicgfdaaPatDraw
namespace Go.Proofs.Ytnlolgooicgfdaa
open Go.RowKit Go.DC
/-- A table, first cells and a distance. -/
def DrewTMD (w : World) (e : Ending) (w' : World) : Prop :=
  ∃ a1 c1 t a2 c2 fm s, e = .returned (.tuple #[.slice a1 t.length c1, .slice a2 fm.length c2, .int .i64 s]) ∧ IRows w' a1 t ∧ BRows w' a2 fm ∧ t.length ≤ 4 ∧ fm.length ≤ 5 ∧ (-1 ≤ s ∧ s ≤ 100) ∧ Ext w w'
set_option maxRecDepth 10000 in
set_option maxHeartbeats 4000000 in
theorem DrawPatternGrow_any (a : Option Addr) (c : Nat) (zs : List Int) (w : World) (hb : Bytes w a zs) (hm : zs.length ≤ 9223372036854775807) (hcap : zs.length ≤ c) :
    Calls Try.prog 10 #[.slice a zs.length c] w (DrewTMD w) := by
  go_enter Try.func10, Try.ntmps10
  go_wp2_with fail
  refine (l6Open_any a c zs _ hb hm hcap).mono ?_
  rintro e w1 ⟨r, hr, rfl, R1, e1⟩
  have hrl : r < w1.heap.size := R1.lt
  go_wp2_with fail
  refine (l92First_any r 0 _ R1 (by omega)).mono ?_
  rintro e w2 ⟨a1, c1, vs1, t, a2, c2, vs2, fm, rfl, o1, o2, ht, htr, hm5, hmr, ⟨p, hp, R2⟩, K⟩
  clear htr hmr R1
  go_wp2_with fail
  refine (l92Safe_any r p _ R2 (by omega)).mono ?_
  rintro e w3 ⟨s, hs0, hs1, rfl, ⟨p3, hp3, R3⟩, K3⟩
  have O1 := Lib.hid (o1.keep K3 hrl)
  have O2 := Lib.hid (o2.keep K3 hrl)
  have KK := Lib.hid (K.trans K3)
  clear o1 o2 K K3 R2
  go_wp2_with fail
  refine bodyPost_ret (results_tmp3 rfl _ _ _) rfl ?_
  exact ⟨a1, c1, t, a2, c2, fm, s, rfl, own_read O1.out, own_read O2.out, ht, hm5, ⟨hs0, hs1⟩, KK.out.ext e1 hr⟩
end Go.Proofs.Ytnlolgooicgfdaa
