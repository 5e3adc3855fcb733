/- The program's step of a pattern, for any arguments. -/
import Derived.Test.YtnlolgooicgfdaaPatStep
import Derived.Test.YtnlolgooicgfdaaStepSpec
namespace Go.Proofs.Ytnlolgooicgfdaa
open Go.RowKit Go.DC
theorem PatternStep_tab (a b0 mb : Option Addr) (c c0 d n m : Nat) (s : Int) (f : Nat → Nat → Int) (g b : Nat → Nat → Bool) (w : World) (ht : IRows w a (tabOf n m f)) (hfm : BRows w b0 (tabOf n m g)) (hmk : BRows w mb (tabOf n m b)) (hf : InT n m f) (hs : inCell s = true) :
    Calls Try.prog 28 #[.slice a n c, .slice b0 n c0, .slice mb n d, .int .i64 s] w (StepOut n m f g b s w) := by
  have NEED : Hid (∀ wx : World, Ext w wx → Calls Try.prog 33 #[.slice a n c, .slice b0 n c0, .slice mb n d, .int .i64 s] wx (Ret (.int .i64 (manyN n m (notSafeF n m f g b s))) wx)) := fun wx ex => by
    have hn4 := hf.1.2.1
    have h := PatternNeed_any a b0 mb c c0 d (tabOf n m f) (tabOf n m g) (tabOf n m b) s wx (ht.ext ex) (hfm.ext ex) (hmk.ext ex) (by rw [tabOf_length]; omega) (by rw [tabOf_length]; omega) (by rw [tabOf_length]; omega) (by have := inCell_iff.1 hs; omega)
    rw [tabOf_length, tabOf_length, tabOf_length, needV_tab hf hs] at h
    exact h
  by_cases hu : manyN n m (notSafeF n m f g b s) < 1
  · refine (PatternStep_low a b0 mb c c0 d n n n s _ w NEED hu).mono ?_
    rintro e w' ⟨rfl, ex⟩
    exact ⟨_, [], none, rfl, .inl ⟨hu, rfl⟩, ownB_nil _ _, ex⟩
  · exact PatternStep_high a b0 mb c c0 d n m s f g b w ht hfm hmk hf hs _ rfl hu NEED
theorem PatternStep_any (a b b' : Option Addr) (c d d' : Nat) (t : List (List Int)) (fm mk : List (List Bool)) (s : Int) (w : World) (ht : IRows w a t) (hfm : BRows w b fm) (hmk : BRows w b' mk) (hm : t.length ≤ 9223372036854775807) (hm1 : fm.length ≤ 9223372036854775807) (hm2 : mk.length ≤ 9223372036854775807) (hs : -9223372036854775808 ≤ s ∧ s ≤ 9223372036854775807) :
    Calls Try.prog 28 #[.slice a t.length c, .slice b fm.length d, .slice b' mk.length d', .int .i64 s] w (StepAny t fm mk s w) := by
  cases hno : needOk t fm mk s with
  | true =>
    obtain ⟨e1, e2, e3, hf, l1, l2, h3⟩ := needOk_forms hno
    rw [l1, l2]
    exact (PatternStep_tab a b b' c d d' t.length (wide t) s (get 0 t) (get false fm) (get false mk) w (by rw [← e1]; exact ht) (by rw [← e2]; exact hfm) (by rw [← e3]; exact hmk) hf h3).mono fun e w' h => stepAny_of hno h
  | false =>
    refine (PatternStep_low a b b' c d d' t.length fm.length mk.length s (-1) w (fun wx ex => ?_) (by decide)).mono ?_
    · have h := PatternNeed_any a b b' c d d' t fm mk s wx (ht.ext ex) (hfm.ext ex) (hmk.ext ex) hm hm1 hm2 hs
      rw [needV_no hno] at h
      exact h
    · rintro e w' ⟨rfl, ex⟩
      exact stepAny_no hno (ownB_nil _ _) ex
end Go.Proofs.Ytnlolgooicgfdaa
