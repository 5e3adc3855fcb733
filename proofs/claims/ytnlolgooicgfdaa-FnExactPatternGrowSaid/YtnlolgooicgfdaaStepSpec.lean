/- The reference's step and its growing, for any arguments. -/
import Derived.Test.YtnlolgooicgfdaaStepMath
import Derived.Test.YtnlolgooicgfdaaPatDraw
namespace Go.Proofs.Ytnlolgooicgfdaa
open Go.RowKit Go.DC
/-- A table with masks, in terms of its cells. -/
theorem needOk_forms {t : List (List Int)} {fm mk : List (List Bool)} {s : Int} (h : needOk t fm mk s = true) :
    t = tabOf t.length (wide t) (get 0 t) ∧ fm = tabOf t.length (wide t) (get false fm) ∧ mk = tabOf t.length (wide t) (get false mk) ∧ InT t.length (wide t) (get 0 t) ∧ fm.length = t.length ∧ mk.length = t.length ∧ inCell s = true := by
  obtain ⟨h1, h2, h3⟩ := needOk_iff.1 h
  obtain ⟨r1, r2⟩ := maskOk_rect h1
  obtain ⟨_, r3⟩ := maskOk_rect h2
  obtain ⟨e, hf⟩ := tabOk_form r1
  exact ⟨e, r2.eq false, r3.eq false, hf, r2.1, r3.1, h3⟩
theorem stepAny_of {t : List (List Int)} {fm mk : List (List Bool)} {s : Int} {w : World} {e : Ending} {w' : World} (h : needOk t fm mk s = true) (ho : StepOut t.length (wide t) (get 0 t) (get false fm) (get false mk) s w e w') : StepAny t fm mk s w e w' := by
  obtain ⟨v, vs, r, rfl, hstep, own, ex⟩ := ho
  have own' : OwnB w' w.heap.size v vs (outT t.length (wide t) r) := by cases r <;> exact own
  obtain ⟨a, c, rfl, _⟩ := own'.rows
  exact ⟨a, c, vs, r, rfl, ⟨fun _ => hstep, fun hn => by rw [h] at hn; cases hn⟩, own', ex⟩
theorem stepAny_no {t : List (List Int)} {fm mk : List (List Bool)} {s : Int} {w : World} {w' : World} {a : Option Addr} {c : Nat} {vs : List Value} (h : needOk t fm mk s = false) (own : OwnB w' w.heap.size (.slice a 0 c) vs []) (ex : Ext w w') : StepAny t fm mk s w (.returned (.tuple #[.slice a 0 c, .bool false])) w' :=
  ⟨a, c, vs, none, rfl, ⟨fun hn => (by rw [h] at hn; cases hn), fun _ => rfl⟩, own, ex⟩
theorem outT_size {n m : Nat} (r : Option (Nat → Nat → Bool)) (h4 : n ≤ 4) (m4 : m ≤ 4) : (outT n m r).length ≤ 4 ∧ (∀ x ∈ outT n m r, x.length ≤ 4) ∧ sizeB (outT n m r) ≤ 16 := by
  obtain ⟨h1, h2⟩ := outT_small r h4 m4
  refine ⟨h1, h2, ?_⟩
  have : ∀ (l : List (List Bool)), (∀ r ∈ l, r.length ≤ 4) → sizeB l ≤ l.length * 4 := fun l => by
    induction l with
    | nil => intro _; simp [sizeB]
    | cons r l ih =>
      intro hh
      have h1 := ih (fun x hx => hh x (by simp [hx]))
      have h2 := hh r (by simp)
      simp only [sizeB, List.map_cons, List.sum_cons, List.length_cons] at h1 ⊢
      omega
  have := this _ h2
  omega
theorem StepOf.small {t : List (List Int)} {fm mk : List (List Bool)} {s : Int} {r : Option (Nat → Nat → Bool)} (h : StepOf t fm mk s r) : (outT t.length (wide t) r).length ≤ 4 ∧ (∀ x ∈ outT t.length (wide t) r, x.length ≤ 4) ∧ sizeB (outT t.length (wide t) r) ≤ 16 := by
  cases hn : needOk t fm mk s with
  | false => rw [h.2 hn]; exact ⟨by simp [outT], fun x hx => by simp [outT] at hx, by simp [outT, sizeB]⟩
  | true =>
    have hf := (needOk_forms hn).2.2.2.1
    exact outT_size r hf.1.2.1 hf.1.2.2.2
theorem GrowOf.small {t : List (List Int)} {fm : List (List Bool)} {s : Int} {r : Option (Nat → Nat → Bool)} (h : GrowOf t fm s r) : (outT t.length (wide t) r).length ≤ 4 ∧ (∀ x ∈ outT t.length (wide t) r, x.length ≤ 4) ∧ sizeB (outT t.length (wide t) r) ≤ 16 := by
  cases hn : needOk t fm fm s with
  | false => rw [h.2 hn]; exact ⟨by simp [outT], fun x hx => by simp [outT] at hx, by simp [outT, sizeB]⟩
  | true =>
    have hf := (needOk_forms hn).2.2.2.1
    exact outT_size r hf.1.2.1 hf.1.2.2.2
set_option maxRecDepth 10000 in
set_option maxHeartbeats 2000000 in
theorem sPatternStep_any (a b b' : Option Addr) (c d d' : Nat) (t : List (List Int)) (fm mk : List (List Bool)) (s : Int) (w : World) (ht : IRows w a t) (hfm : BRows w b fm) (hmk : BRows w b' mk) (hm : t.length ≤ 9223372036854775807) (hm1 : fm.length ≤ 9223372036854775807) (hm2 : mk.length ≤ 9223372036854775807) (hs : -9223372036854775808 ≤ s ∧ s ≤ 9223372036854775807) :
    Calls Try.prog 38 #[.slice a t.length c, .slice b fm.length d, .slice b' mk.length d', .int .i64 s] w (StepAny t fm mk s w) := by
  cases hno : needOk t fm mk s with
  | true =>
    obtain ⟨e1, e2, e3, hf, l1, l2, h3⟩ := needOk_forms hno
    rw [l1, l2]
    exact (sPatternStep_tab a b b' c d d' t.length (wide t) s (get 0 t) (get false fm) (get false mk) w (by rw [← e1]; exact ht) (by rw [← e2]; exact hfm) (by rw [← e3]; exact hmk) hf h3).mono fun e w' h => stepAny_of hno h
  | false =>
    have NEED := Lib.hid (sPatternNeed_any a b b' c d d' t fm mk s w ht hfm hmk hm hm1 hm2 hs)
    rw [needV_no hno] at NEED
    have HNO := Lib.hid hno
    clear hno ht hfm hmk
    go_enter Try.func38, Try.ntmps38
    go_wp2_with fail
    refine NEED.out.mono ?_
    rintro e w1 ⟨rfl, e1⟩
    have hemp : OwnB (w1.alloc (.cells #[] 42)) w.heap.size (.slice (some ⟨w1.heap.size, 0, none⟩) 0 0) [] [] := (ownT_empty (enc := encB) (te := 4) (ts := 42) w1 (Nat.le_refl _)).base e1.size
    have HE := Lib.hid hemp
    clear hemp
    go_wp2_with fail
    go_ret2
    exact stepAny_no HNO.out HE.out (e1.alloc _)
theorem sPatternGrows_any (a b : Option Addr) (c d : Nat) (t : List (List Int)) (fm : List (List Bool)) (s : Int) (w : World) (ht : IRows w a t) (hfm : BRows w b fm) (hm : t.length ≤ 9223372036854775807) (hm1 : fm.length ≤ 9223372036854775807) (hs : -9223372036854775808 ≤ s ∧ s ≤ 9223372036854775807) :
    Calls Try.prog 12 #[.slice a t.length c, .slice b fm.length d, .int .i64 s] w (GrowsAny t fm s w) := by
  cases hno : needOk t fm fm s with
  | true =>
    obtain ⟨e1, e2, _, hf, l1, _, h3⟩ := needOk_forms hno
    rw [l1]
    refine (sPatternGrow_tab a b c d t.length (wide t) s (get 0 t) (get false fm) w (by rw [← e1]; exact ht) (by rw [← e2]; exact hfm) hf h3).mono ?_
    rintro e w' ⟨v, vs, r, rfl, hg, own, ex⟩
    have own' : OwnB w' w.heap.size v vs (outT t.length (wide t) r) := by cases r <;> exact own
    obtain ⟨a', c', rfl, _⟩ := own'.rows
    exact ⟨a', c', vs, r, rfl, ⟨fun _ => hg, fun hn => by rw [hno] at hn; cases hn⟩, own', ex⟩
  | false =>
    refine (sPatternGrow_bad a b c d t fm s w ht hfm hm hm1 hs hno).mono ?_
    rintro e w' ⟨o, rfl, own, ex⟩
    exact ⟨_, _, [], none, rfl, ⟨fun hn => (by rw [hno] at hn; cases hn), fun _ => rfl⟩, own, ex⟩
end Go.Proofs.Ytnlolgooicgfdaa
