/- The program's growing of a pattern. -/
import Derived.Test.YtnlolgooicgfdaaPatStepAny
import Derived.Test.YtnlolgooicgfdaaSGrow
namespace Go.Proofs.Ytnlolgooicgfdaa
open Go.RowKit Go.DC
set_option maxRecDepth 10000 in
set_option maxHeartbeats 8000000 in
theorem PatternGrow_tab (a b0 : Option Addr) (c c0 n m : Nat) (s : Int) (f : Nat → Nat → Int) (g : Nat → Nat → Bool) (w : World) (ht : IRows w a (tabOf n m f)) (hfm : BRows w b0 (tabOf n m g)) (hf : InT n m f) (hs : inCell s = true) :
    Calls Try.prog 11 #[.slice a n c, .slice b0 n c0, .int .i64 s] w (GrowOut n m f g s w) := by
  have HT := Lib.hid ht; have HFM := Lib.hid hfm; have HF := Lib.hid hf; have HS := Lib.hid hs
  obtain ⟨⟨hn1, hn4⟩, hm1, hm4⟩ : (1 ≤ n ∧ n ≤ 4) ∧ 1 ≤ m ∧ m ≤ 4 := ⟨⟨hf.1.1, hf.1.2.1⟩, hf.1.2.2⟩
  have hsr := inCell_iff.1 hs
  have NEED := PatternNeed_any a b0 b0 c c0 c0 (tabOf n m f) (tabOf n m g) (tabOf n m g) s w ht hfm hfm (by rw [tabOf_length]; omega) (by rw [tabOf_length]; omega) (by rw [tabOf_length]; omega) (by omega)
  rw [tabOf_length, tabOf_length, needV_tab hf hs] at NEED
  have NEED' : Hid (Calls Try.prog 33 #[.slice a n c, .slice b0 n c0, .slice b0 n c0, .int .i64 s] w (Ret (.int .i64 (manyN n m (notSafeF n m f g g s))) w)) := NEED
  have OKC : Hid (∀ (b : Nat → Nat → Bool) (mb : Option Addr) (d : Nat) (wx : World), Ext w wx → BRows wx mb (tabOf n m b) → Calls Try.prog 27 #[.slice a n c, .slice b0 n c0, .slice mb n d, .int .i64 s] wx (Ret (.bool (decide (manyN n m (notSafeF n m f g b s) = 0))) wx)) := fun b mb d wx ex hb => by
    have h := PatternOk_any a b0 mb c c0 d (tabOf n m f) (tabOf n m g) (tabOf n m b) s wx (HT.out.ext ex) (HFM.out.ext ex) hb (by rw [tabOf_length]; omega) (by rw [tabOf_length]; omega) (by rw [tabOf_length]; omega) (by omega)
    rw [tabOf_length, tabOf_length, tabOf_length, needV_tab HF.out HS.out] at h
    exact h
  have hub := manyN_bd (notSafeF n m f g g s) hn4 hm4
  obtain ⟨u, hu⟩ : ∃ u, manyN n m (notSafeF n m f g g s) = u := ⟨_, rfl⟩
  rw [hu] at NEED' hub
  have hu0 : ¬ u < 0 := by omega
  have hu0b : decide (u < 0) = false := decide_eq_false hu0
  clear NEED ht hfm hf hs hu
  go_enter Try.func11, Try.ntmps11
  go_wp2_with fail
  refine NEED'.out.mono ?_
  rintro e w1 ⟨rfl, e1⟩
  have MK : Hid (Calls Try.prog 34 #[.slice b0 n c0] w1 (CopyMask n m g w1)) := by
    have h := copyTableB_any b0 c0 (tabOf n m g) w1 (HFM.out.ext e1) (by rw [tabOf_length]; omega) (fun q hq => by rw [tabOf_rowlen]; omega)
    rw [tabOf_length] at h
    refine h.mono ?_
    rintro e w' ⟨v, vs, rfl, o, ex⟩
    obtain ⟨p, cp, _, _, ev, _⟩ := o.atC (i := 0) (j := 0) (by omega) (by omega)
    subst ev
    exact ⟨p, cp, vs, rfl, o, ex⟩
  go_wp2_with fail
  refine MK.out.mono ?_
  rintro e w2 ⟨o, co, vs, rfl, own, e2⟩
  have OW0 := Lib.hid (own.base e1.size)
  have E12 := e1.trans e2
  clear own e1 e2
  go_wp2_with fail
  go_loopg [8] ((17 - manyN n m g).toNat) (fun g' v wr => ∃ (b : Nat → Nat → Bool) (mb : Option Addr) (d : Nat) (vs : List Value), g' = (17 - manyN n m b).toNat ∧ v = .slice mb n d ∧ Hid (OwnB wr w.heap.size (.slice mb n d) vs (tabOf n m b)) ∧ Hid (∀ r, Grows n m f g s b r → Grows n m f g s g r) ∧ Ext w wr)
  case atStart => exact ⟨g, _, _, vs, rfl, rfl, OW0.out, fun r h => h, E12⟩
  case round =>
    clear OW0 E12
    obtain ⟨b, mb, d, vs, rfl, rfl, how, hgr, hext⟩ := hrel
    have hread := own_read_n how.out
    have HRD := Lib.hid hread
    have hbd := manyN_bd b hn4 hm4
    clear hread
    cases hok : decide (manyN n m (notSafeF n m f g b s) = 0) with
    | true =>
      have hz := of_decide_eq_true hok
      have HZ := Lib.hid hz; have HOK := Lib.hid hok
      clear hz hok
      go_wp2_with fail
      refine (OKC.out b mb d _ hext HRD.out).mono ?_
      rintro e w3 ⟨rfl, e3⟩
      rw [HOK.out]
      go_wp2_with fail
      go_ret2
      exact ⟨_, vs, some b, rfl, hgr.out _ (.done HZ.out), how.out.ext e3, hext.trans e3⟩
    | false =>
      have hz := of_decide_eq_false hok
      have HZ := Lib.hid hz; have HOK := Lib.hid hok
      clear hz hok
      go_wp2_with fail
      refine (OKC.out b mb d _ hext HRD.out).mono ?_
      rintro e w3 ⟨rfl, e3⟩
      rw [HOK.out]
      have E3 := hext.trans e3
      go_wp2_with fail
      refine (PatternStep_tab a b0 mb c c0 d n m s f g b w3 (HT.out.ext E3) (HFM.out.ext E3) (HRD.out.ext e3) HF.out HS.out).mono ?_
      rintro e w4 ⟨v4, vs4, r, rfl, hstep, own4, e4⟩
      cases r with
      | none =>
        have HST := Lib.hid hstep
        clear own4 hstep
        go_wp2_with fail
        go_ret2
        exact ⟨_, [], none, rfl, hgr.out _ (.fail HZ.out HST.out), ownB_nil _ _, E3.trans e4⟩
      | some b' =>
        have HST := Lib.hid hstep
        have hlt : manyN n m b < manyN n m b' := manyN_grow (StepR.grow hstep).1 (StepR.grow hstep).2
        have hbd' := manyN_bd b' hn4 hm4
        obtain ⟨mb', d', hv, _, _, _⟩ := own4.rows
        rw [tabOf_length] at hv
        subst hv
        have OW4 := Lib.hid (own4.base E3.size)
        clear own4 hstep
        go_wp2_with fail
        go_roundg ((17 - manyN n m b').toNat)
        case measure => omega
        case rel => exact ⟨b', mb', d', vs4, rfl, rfl, OW4.out, fun r hr => hgr.out r (.next HZ.out HST.out hr), E3.trans e4⟩
set_option maxHeartbeats 2000000 in
theorem PatternGrow_bad (a b0 : Option Addr) (c c0 : Nat) (t : List (List Int)) (fm : List (List Bool)) (s : Int) (w : World) (ht : IRows w a t) (hfm : BRows w b0 fm) (hm : t.length ≤ 9223372036854775807) (hm1 : fm.length ≤ 9223372036854775807) (hs : -9223372036854775808 ≤ s ∧ s ≤ 9223372036854775807) (hno : needOk t fm fm s = false) :
    Calls Try.prog 11 #[.slice a t.length c, .slice b0 fm.length c0, .int .i64 s] w (fun e w' => e = .returned (.tuple #[.slice none 0 0, .bool false]) ∧ Ext w w') := by
  have NEED := Lib.hid (PatternNeed_any a b0 b0 c c0 c0 t fm fm s w ht hfm hfm hm hm1 hm1 hs)
  rw [needV_no hno] at NEED
  clear hno ht hfm
  go_enter Try.func11, Try.ntmps11
  go_wp2_with fail
  refine NEED.out.mono ?_
  rintro e w1 ⟨rfl, e1⟩
  go_wp2_with fail
  go_ret2
  exact ⟨rfl, e1⟩
theorem PatternGrow_any (a b : Option Addr) (c d : Nat) (t : List (List Int)) (fm : List (List Bool)) (s : Int) (w : World) (ht : IRows w a t) (hfm : BRows w b fm) (hm : t.length ≤ 9223372036854775807) (hm1 : fm.length ≤ 9223372036854775807) (hs : -9223372036854775808 ≤ s ∧ s ≤ 9223372036854775807) :
    Calls Try.prog 11 #[.slice a t.length c, .slice b fm.length d, .int .i64 s] w (GrowsAny t fm s w) := by
  cases hno : needOk t fm fm s with
  | true =>
    obtain ⟨e1, e2, _, hf, l1, _, h3⟩ := needOk_forms hno
    rw [l1]
    refine (PatternGrow_tab a b c d t.length (wide t) s (get 0 t) (get false fm) w (by rw [← e1]; exact ht) (by rw [← e2]; exact hfm) hf h3).mono ?_
    rintro e w' ⟨v, vs, r, rfl, hg, own, ex⟩
    have own' : OwnB w' w.heap.size v vs (outT t.length (wide t) r) := by cases r <;> exact own
    obtain ⟨a', c', rfl, _⟩ := own'.rows
    exact ⟨a', c', vs, r, rfl, ⟨fun _ => hg, fun hn => (by rw [hno] at hn; cases hn)⟩, own', ex⟩
  | false =>
    refine (PatternGrow_bad a b c d t fm s w ht hfm hm hm1 hs hno).mono ?_
    rintro e w' ⟨rfl, ex⟩
    exact ⟨_, _, [], none, rfl, ⟨fun hn => (by rw [hno] at hn; cases hn), fun _ => rfl⟩, ownB_nil _ _, ex⟩
end Go.Proofs.Ytnlolgooicgfdaa
