/- A pattern grows, as the reference does it. -/
import Derived.Test.YtnlolgooicgfdaaSStep
namespace Go.Proofs.Ytnlolgooicgfdaa
open Go.RowKit Go.DC
theorem own_read_n {α : Type} {enc : α → Value} {te ts : TypeId} {w : World} {B : Nat} {a : Option Addr} {c n m : Nat} {vs : List Value} {b : Nat → Nat → α} (h : OwnT enc te ts w B (.slice a n c) vs (tabOf n m b)) : TRows enc w a (tabOf n m b) := by
  obtain ⟨_, _, hv, _, r, _⟩ := h.rows
  rw [tabOf_length] at hv
  cases hv
  exact r
/-- What growing hands back. -/
def GrowOut (n m : Nat) (f : Nat → Nat → Int) (g : Nat → Nat → Bool) (s : Int) (w : World) (e : Ending) (w' : World) : Prop :=
  ∃ v vs r, e = .returned (.tuple #[v, .bool (Option.isSome r)]) ∧ Grows n m f g s g r ∧ OwnB w' w.heap.size v vs (match r with | some b' => tabOf n m b' | none => []) ∧ Ext w w'
set_option maxRecDepth 10000 in
set_option maxHeartbeats 8000000 in
theorem sPatternGrow_tab (a b0 : Option Addr) (c c0 n m : Nat) (s : Int) (f : Nat → Nat → Int) (g : Nat → Nat → Bool) (w : World) (ht : IRows w a (tabOf n m f)) (hfm : BRows w b0 (tabOf n m g)) (hf : InT n m f) (hs : inCell s = true) :
    Calls Try.prog 12 #[.slice a n c, .slice b0 n c0, .int .i64 s] w (GrowOut n m f g s w) := by
  have HT := Lib.hid ht; have HFM := Lib.hid hfm; have HF := Lib.hid hf; have HS := Lib.hid hs
  obtain ⟨⟨hn1, hn4⟩, hm1, hm4⟩ : (1 ≤ n ∧ n ≤ 4) ∧ 1 ≤ m ∧ m ≤ 4 := ⟨⟨hf.1.1, hf.1.2.1⟩, hf.1.2.2⟩
  have hsr := inCell_iff.1 hs
  have NEED := sPatternNeed_any a b0 b0 c c0 c0 (tabOf n m f) (tabOf n m g) (tabOf n m g) s w ht hfm hfm (by rw [tabOf_length]; omega) (by rw [tabOf_length]; omega) (by rw [tabOf_length]; omega) (by omega)
  rw [tabOf_length, tabOf_length, needV_tab hf hs] at NEED
  have NEED' : Hid (Calls Try.prog 35 #[.slice a n c, .slice b0 n c0, .slice b0 n c0, .int .i64 s] w (Ret (.int .i64 (manyN n m (notSafeF n m f g g s))) w)) := NEED
  have OKC : Hid (∀ (b : Nat → Nat → Bool) (mb : Option Addr) (d : Nat) (wx : World), Ext w wx → BRows wx mb (tabOf n m b) → Calls Try.prog 37 #[.slice a n c, .slice b0 n c0, .slice mb n d, .int .i64 s] wx (Ret (.bool (decide (manyN n m (notSafeF n m f g b s) = 0))) wx)) := fun b mb d wx ex hb => by
    have h := sPatternOk_any a b0 mb c c0 d (tabOf n m f) (tabOf n m g) (tabOf n m b) s wx (HT.out.ext ex) (HFM.out.ext ex) hb (by rw [tabOf_length]; omega) (by rw [tabOf_length]; omega) (by rw [tabOf_length]; omega) (by omega)
    rw [tabOf_length, tabOf_length, tabOf_length, needV_tab HF.out HS.out] at h
    exact h
  have hub := manyN_bd (notSafeF n m f g g s) hn4 hm4
  obtain ⟨u, hu⟩ : ∃ u, manyN n m (notSafeF n m f g g s) = u := ⟨_, rfl⟩
  rw [hu] at NEED' hub
  have hu0 : ¬ u < 0 := by omega
  have hu0b : decide (u < 0) = false := decide_eq_false hu0
  clear NEED ht hfm hf hs hu
  go_enter Try.func12, Try.ntmps12
  go_wp2_with fail
  refine NEED'.out.mono ?_
  rintro e w1 ⟨rfl, e1⟩
  have MK : Hid (Calls Try.prog 36 #[.slice b0 n c0] w1 (CopyMask n m g w1)) := by
    have h := l14Mask_any b0 c0 (tabOf n m g) w1 (HFM.out.ext e1) (by rw [tabOf_length]; omega) (fun q hq => by rw [tabOf_rowlen]; omega)
    rw [tabOf_length] at h
    refine h.mono ?_
    rintro e w' ⟨v, vs, rfl, o, ex⟩
    obtain ⟨p, cp, _, _, ev, _⟩ := o.atC (i := 0) (j := 0) (by omega) (by omega)
    subst ev
    exact ⟨p, cp, vs, rfl, o, ex⟩
  go_wp2_with fail
  refine MK.out.mono ?_
  rintro e w2 ⟨o, co, vs, rfl, own, e2⟩
  have OW0 := Lib.hid (own.base e1.size)
  have E12 := e1.trans e2
  clear own e1 e2
  go_wp2_with fail
  go_loopg [8] ((17 - manyN n m g).toNat) (fun g' v wr => ∃ (b : Nat → Nat → Bool) (mb : Option Addr) (d : Nat) (vs : List Value), g' = (17 - manyN n m b).toNat ∧ v = .slice mb n d ∧ Hid (OwnB wr w.heap.size (.slice mb n d) vs (tabOf n m b)) ∧ Hid (∀ r, Grows n m f g s b r → Grows n m f g s g r) ∧ Ext w wr)
  case atStart => exact ⟨g, _, _, vs, rfl, rfl, OW0.out, fun r h => h, E12⟩
  case round =>
    clear OW0 E12
    obtain ⟨b, mb, d, vs, rfl, rfl, how, hgr, hext⟩ := hrel
    have hread := own_read_n how.out
    have HRD := Lib.hid hread
    have hbd := manyN_bd b hn4 hm4
    clear hread
    cases hok : decide (manyN n m (notSafeF n m f g b s) = 0) with
    | true =>
      have hz := of_decide_eq_true hok
      have HZ := Lib.hid hz; have HOK := Lib.hid hok
      clear hz hok
      go_wp2_with fail
      refine (OKC.out b mb d _ hext HRD.out).mono ?_
      rintro e w3 ⟨rfl, e3⟩
      rw [HOK.out]
      go_wp2_with fail
      go_ret2
      exact ⟨_, vs, some b, rfl, hgr.out _ (.done HZ.out), how.out.ext e3, hext.trans e3⟩
    | false =>
      have hz := of_decide_eq_false hok
      have HZ := Lib.hid hz; have HOK := Lib.hid hok
      clear hz hok
      go_wp2_with fail
      refine (OKC.out b mb d _ hext HRD.out).mono ?_
      rintro e w3 ⟨rfl, e3⟩
      rw [HOK.out]
      have E3 := hext.trans e3
      go_wp2_with fail
      refine (sPatternStep_tab a b0 mb c c0 d n m s f g b w3 (HT.out.ext E3) (HFM.out.ext E3) (HRD.out.ext e3) HF.out HS.out).mono ?_
      rintro e w4 ⟨v4, vs4, r, rfl, hstep, own4, e4⟩
      cases r with
      | none =>
        have HST := Lib.hid hstep
        have hemp : OwnB (w4.alloc (.cells #[] 42)) w.heap.size (.slice (some ⟨w4.heap.size, 0, none⟩) 0 0) [] [] := (ownT_empty (enc := encB) (te := 4) (ts := 42) w4 (Nat.le_refl _)).base (E3.trans e4).size
        have HE := Lib.hid hemp
        clear hemp own4 hstep
        go_wp2_with fail
        go_ret2
        exact ⟨_, [], none, rfl, hgr.out _ (.fail HZ.out HST.out), HE.out, (E3.trans e4).alloc _⟩
      | some b' =>
        have HST := Lib.hid hstep
        have hlt : manyN n m b < manyN n m b' := manyN_grow (StepR.grow hstep).1 (StepR.grow hstep).2
        have hbd' := manyN_bd b' hn4 hm4
        obtain ⟨mb', d', hv, _, _, _⟩ := own4.rows
        rw [tabOf_length] at hv
        subst hv
        have OW4 := Lib.hid (own4.base E3.size)
        clear own4 hstep
        go_wp2_with fail
        go_roundg ((17 - manyN n m b').toNat)
        case measure => omega
        case rel => exact ⟨b', mb', d', vs4, rfl, rfl, OW4.out, fun r hr => hgr.out r (.next HZ.out HST.out hr), E3.trans e4⟩
end Go.Proofs.Ytnlolgooicgfdaa
