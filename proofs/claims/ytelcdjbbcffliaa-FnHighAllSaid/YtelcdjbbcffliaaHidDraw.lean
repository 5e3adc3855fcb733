/- Draws of tables, masks and cells. -/
import Derived.Test.YtelcdjbbcffliaaHidden
namespace Go.Proofs.Ytelcdjbbcffliaa
open Go.RowKit Go.DC
/-- A table, a mask and a cell. -/
def DrewTMC (w : World) (e : Ending) (w' : World) : Prop :=
  ∃ a1 c1 t a2 c2 mk i j, e = .returned (.tuple #[.slice a1 t.length c1, .slice a2 mk.length c2, .int .i64 i, .int .i64 j]) ∧ IRows w' a1 t ∧ BRows w' a2 mk ∧ t.length ≤ 4 ∧ mk.length ≤ 5 ∧ (0 ≤ i ∧ i ≤ 4) ∧ (-1 ≤ j ∧ j ≤ 4) ∧ Ext w w'
/-- A table and a mask. -/
def DrewTM2 (w : World) (e : Ending) (w' : World) : Prop :=
  ∃ a1 c1 t a2 c2 mk, e = .returned (.tuple #[.slice a1 t.length c1, .slice a2 mk.length c2]) ∧ IRows w' a1 t ∧ BRows w' a2 mk ∧ t.length ≤ 4 ∧ mk.length ≤ 5 ∧ Ext w w'
theorem own_read {α : Type} {enc : α → Value} {te ts : TypeId} {w : World} {B : Nat} {a : Option Addr} {c : Nat} {vs : List Value} {t : List (List α)} (h : OwnT enc te ts w B (.slice a t.length c) vs t) : TRows enc w a t := by
  obtain ⟨_, _, hv, _, r, _⟩ := h.rows
  cases hv
  exact r
set_option maxHeartbeats 1000000 in
theorem DrawBoundHigh_any (a : Option Addr) (c : Nat) (zs : List Int) (w : World) (hb : Bytes w a zs) (hm : zs.length ≤ 9223372036854775807) (hcap : zs.length ≤ c) :
    Calls Try.prog 15 #[.slice a zs.length c] w (DrewTMC w) := by
  go_enter Try.func15, Try.ntmps15
  go_wp2_with fail
  refine (l6Open_any a c zs _ hb hm hcap).mono ?_
  rintro e w1 ⟨r, hr, rfl, R1, e1⟩
  go_wp2_with fail
  refine (l92Hidden_any r 0 _ R1 (by omega)).mono ?_
  rintro e w2 ⟨a1, c1, vs1, t, a2, c2, vs2, mk, i, j, rfl, o1, o2, ht, _, hm, _, hi, hj, _, K⟩
  go_wp2_with fail
  refine bodyPost_ret (results_tmp4 rfl _ _ _) rfl ?_
  exact ⟨a1, c1, t, a2, c2, mk, i, j, rfl, own_read o1, own_read o2, ht, hm, hi, hj, K.ext e1 hr⟩
set_option maxHeartbeats 1000000 in
theorem DrawBoundLow_any (a : Option Addr) (c : Nat) (zs : List Int) (w : World) (hb : Bytes w a zs) (hm : zs.length ≤ 9223372036854775807) (hcap : zs.length ≤ c) :
    Calls Try.prog 36 #[.slice a zs.length c] w (DrewTMC w) := by
  go_enter Try.func36, Try.ntmps36
  go_wp2_with fail
  refine (l6Open_any a c zs _ hb hm hcap).mono ?_
  rintro e w1 ⟨r, hr, rfl, R1, e1⟩
  go_wp2_with fail
  refine (l92Hidden_any r 0 _ R1 (by omega)).mono ?_
  rintro e w2 ⟨a1, c1, vs1, t, a2, c2, vs2, mk, i, j, rfl, o1, o2, ht, _, hm, _, hi, hj, _, K⟩
  go_wp2_with fail
  refine bodyPost_ret (results_tmp4 rfl _ _ _) rfl ?_
  exact ⟨a1, c1, t, a2, c2, mk, i, j, rfl, own_read o1, own_read o2, ht, hm, hi, hj, K.ext e1 hr⟩
end Go.Proofs.Ytelcdjbbcffliaa
