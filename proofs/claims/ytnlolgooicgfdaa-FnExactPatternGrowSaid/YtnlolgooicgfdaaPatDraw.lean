/- Draws of patterns. -/
import Derived.Test.YtnlolgooicgfdaaSGrow
import Derived.Test.YtnlolgooicgfdaaSmall
namespace Go.Proofs.Ytnlolgooicgfdaa
open Go.RowKit Go.DC
theorem smallM_len {t : List (List Int)} (k : Int) (h : t.length ≤ 4) (hr : ∀ x ∈ t, x.length ≤ 4) : (smallM t k).length ≤ 5 ∧ ∀ x ∈ smallM t k, x.length ≤ 4 := by
  unfold smallM
  split
  · refine ⟨by simp [smallT]; omega, fun x hx => ?_⟩
    unfold smallT at hx
    obtain ⟨r, hr2, rfl⟩ := List.mem_map.1 hx
    have := hr r hr2
    simpa using this
  · simp
/-- A table and first cells. -/
def FirOut (r p : Nat) (w : World) (e : Ending) (w' : World) : Prop :=
  ∃ a1 c1 vs1 t a2 c2 vs2 mk, e = .returned (.tuple #[.slice a1 t.length c1, .slice a2 mk.length c2]) ∧ OwnI w' w.heap.size (.slice a1 t.length c1) vs1 t ∧ OwnB w' w.heap.size (.slice a2 mk.length c2) vs2 mk
    ∧ t.length ≤ 4 ∧ (∀ x ∈ t, x.length ≤ 4) ∧ mk.length ≤ 5 ∧ (∀ x ∈ mk, x.length ≤ 4) ∧ (∃ p', p' ≤ p + 60 ∧ Rd w' r p') ∧ Keep r w w'
set_option maxRecDepth 10000 in
set_option maxHeartbeats 4000000 in
theorem l92First_any (r p : Nat) (w : World) (h : Rd w r p) (hp : p ≤ 700000) :
    Calls Try.prog 31 #[.pointer (some ⟨r, 0, none⟩)] w (FirOut r p w) := by
  have hr := h.lt
  go_enter Try.func31, Try.ntmps31
  go_wp2_with fail
  refine (l92Table_any r p 7 _ h (by omega) (by omega) (by omega)).mono ?_
  rintro e w1 ⟨v1, vs1, t, rfl, o1, ht4, htr, ⟨p1, hp1, R1⟩, k1⟩
  have hr1 : r < w1.heap.size := R1.lt
  obtain ⟨a1, c1, hv, _⟩ := o1.rows
  subst hv
  have O1 := Lib.hid o1
  have HTR := Lib.hid htr
  have K1 := Lib.hid k1
  have hw1 : w.heap.size ≤ w1.heap.size := k1.size
  clear h htr o1 k1
  go_wp2_with fail
  refine (pick_any r p1 2 _ R1 (by omega) (by omega)).mono ?_
  rintro e w2 ⟨x, hx0, hx1, rfl, R2, k2⟩
  have O2 := Lib.hid (O1.out.keep k2 hr)
  have hr2 : r < w2.heap.size := R2.lt
  have K2 := Lib.hid (K1.out.trans k2)
  clear k2 R1
  go_wp2_with fail
  refine (sMaskSmall_any _ _ t _ w2 (own_read O2.out) (by omega)).mono ?_
  rintro e w3 ⟨v3, vs3, rfl, o3, e3⟩
  obtain ⟨a3, c3, hv, _⟩ := o3.rows
  subst hv
  have R3 := R2.ext e3
  have O3 := Lib.hid o3
  have K3 := Lib.hid (K2.out.trans (Keep.of_ext e3))
  have OT := Lib.hid (O2.out.ext e3)
  obtain ⟨hml, hmr⟩ := smallM_len (2 + x) ht4 HTR.out
  have HMR := Lib.hid hmr
  have hw2 : w.heap.size ≤ w2.heap.size := K2.out.size
  clear o3 e3 R2 hmr
  cases o1 : tabOk t with
  | false =>
    clear o1
    go_wp2_with fail
    refine (l92Mask_any r p1.succ w.heap.size _ _ vs1 t _ R3 (by omega) OT.out hr ht4 HTR.out).mono ?_
    rintro e w4 ⟨v4, vs4, mk, rfl, o4, hm5, hmr, ⟨p4, hp4, R4⟩, k4⟩
    obtain ⟨a4, c4, hv, _⟩ := o4.rows
    subst hv
    go_wp2_with fail
    go_ret2
    exact ⟨a1, c1, vs1, t, a4, c4, vs4, mk, rfl, OT.out.keep k4 hr, o4.base K3.out.size, ht4, HTR.out, hm5, hmr, ⟨p4, by omega, R4⟩, K3.out.trans k4⟩
  | true =>
    clear o1
    go_wp2_with fail
    refine (pick_any r (p1 + 1) 6 _ R3 (by omega) (by omega)).mono ?_
    rintro e w4 ⟨y, hy0, hy1, rfl, R4, k4⟩
    have OT4 := Lib.hid (OT.out.keep k4 hr)
    have K4 := Lib.hid (K3.out.trans k4)
    by_cases hy : y = 0
    · subst hy
      go_wp2_with fail
      refine (l92Mask_any r (p1 + 1 + 1) w.heap.size _ _ vs1 t _ R4 (by omega) OT4.out hr ht4 HTR.out).mono ?_
      rintro e w5 ⟨v5, vs5, mk, rfl, o5, hm5, hmr, ⟨p5, hp5, R5⟩, k5⟩
      obtain ⟨a5, c5, hv, _⟩ := o5.rows
      subst hv
      go_wp2_with fail
      go_ret2
      exact ⟨a1, c1, vs1, t, a5, c5, vs5, mk, rfl, OT4.out.keep k5 hr, o5.base K4.out.size, ht4, HTR.out, hm5, hmr, ⟨p5, by omega, R5⟩, K4.out.trans k5⟩
    · have hyb : (y == 0) = false := by simpa using hy
      have o3 := O3.out.keep k4 hr2
      go_wp2_with fail
      go_ret2
      exact ⟨a1, c1, vs1, t, a3, c3, vs3, _, rfl, OT4.out, o3.base hw2, ht4, HTR.out, hml, HMR.out, ⟨p1 + 2, by omega, R4⟩, K4.out⟩
/-- A pattern that was grown, or nothing. -/
def GrowAny (w : World) (e : Ending) (w' : World) : Prop := ∃ a c vs mk b, e = .returned (.tuple #[.slice a mk.length c, .bool b]) ∧ OwnB w' w.heap.size (.slice a mk.length c) vs mk ∧ mk.length ≤ 4 ∧ (∀ x ∈ mk, x.length ≤ 4) ∧ Ext w w'
set_option maxHeartbeats 2000000 in
theorem sPatternGrow_bad (a b0 : Option Addr) (c c0 : Nat) (t : List (List Int)) (fm : List (List Bool)) (s : Int) (w : World) (ht : IRows w a t) (hfm : BRows w b0 fm) (hm : t.length ≤ 9223372036854775807) (hm1 : fm.length ≤ 9223372036854775807) (hs : -9223372036854775808 ≤ s ∧ s ≤ 9223372036854775807) (hno : needOk t fm fm s = false) :
    Calls Try.prog 12 #[.slice a t.length c, .slice b0 fm.length c0, .int .i64 s] w (fun e w' => ∃ o, e = .returned (.tuple #[.slice (some ⟨o, 0, none⟩) 0 0, .bool false]) ∧ OwnB w' w.heap.size (.slice (some ⟨o, 0, none⟩) 0 0) [] [] ∧ Ext w w') := by
  have NEED := Lib.hid (sPatternNeed_any a b0 b0 c c0 c0 t fm fm s w ht hfm hfm hm hm1 hm1 hs)
  rw [needV_no hno] at NEED
  clear hno ht hfm
  go_enter Try.func12, Try.ntmps12
  go_wp2_with fail
  refine NEED.out.mono ?_
  rintro e w1 ⟨rfl, e1⟩
  have hemp : OwnB (w1.alloc (.cells #[] 42)) w.heap.size (.slice (some ⟨w1.heap.size, 0, none⟩) 0 0) [] [] := (ownT_empty (enc := encB) (te := 4) (ts := 42) w1 (Nat.le_refl _)).base e1.size
  have HE := Lib.hid hemp
  clear hemp
  go_wp2_with fail
  go_ret2
  exact ⟨_, rfl, HE.out, e1.alloc _⟩
theorem sPatternGrow_any (a b0 : Option Addr) (c c0 : Nat) (t : List (List Int)) (fm : List (List Bool)) (s : Int) (w : World) (ht : IRows w a t) (hfm : BRows w b0 fm) (hm : t.length ≤ 9223372036854775807) (hm1 : fm.length ≤ 9223372036854775807) (hs : -9223372036854775808 ≤ s ∧ s ≤ 9223372036854775807) :
    Calls Try.prog 12 #[.slice a t.length c, .slice b0 fm.length c0, .int .i64 s] w (GrowAny w) := by
  cases hno : needOk t fm fm s with
  | false =>
    refine (sPatternGrow_bad a b0 c c0 t fm s w ht hfm hm hm1 hs hno).mono ?_
    rintro e w' ⟨o, rfl, ho, ex⟩
    exact ⟨_, _, [], [], false, rfl, ho, by simp, fun x hx => by simp at hx, ex⟩
  | true =>
    obtain ⟨h1, _, h3⟩ := needOk_iff.1 hno
    obtain ⟨n, m, f, g, rfl, rfl, hf⟩ := maskOk_ex h1
    rw [tabOf_length, tabOf_length]
    refine (sPatternGrow_tab a b0 c c0 n m s f g w ht hfm hf h3).mono ?_
    rintro e w' ⟨v, vs, r, rfl, _, ho, ex⟩
    have hn4 := hf.1.2.1
    have hm4 := hf.1.2.2.2
    cases r with
    | none =>
      obtain ⟨a', c', rfl, _⟩ := ho.rows
      exact ⟨a', c', vs, [], false, rfl, ho, by simp, fun x hx => by simp at hx, ex⟩
    | some b' =>
      obtain ⟨a', c', rfl, _⟩ := ho.rows
      refine ⟨a', c', vs, tabOf n m b', true, rfl, ho, by rw [tabOf_length]; exact hn4, fun x hx => ?_, ex⟩
      obtain ⟨k, hk, rfl⟩ := List.getElem_of_mem hx
      rw [tabOf_rowlen]; exact hm4
end Go.Proofs.Ytnlolgooicgfdaa
