/- Which rows fit a table, in plain words. No conditions. -/
import Derived.Test.YtelcdjbbcffliaaBndLaw
namespace Go.DC
/-- The rows fit, and no number is greater than all of a row could be. -/
structure FitsB (n m : Nat) (f : Nat → Nat → Int) (b : Nat → Nat → Bool) (y : Nat → Nat → Int) : Prop where
  fits : Fits n m f b y
  most : ∀ k l, k < n → l < m → y k l ≤ 396
noncomputable def fitF (n m : Nat) (f : Nat → Nat → Int) (b : Nat → Nat → Bool) (y : Nat → Nat → Int) : Bool := @decide (FitsB n m f b y) (Classical.propDecidable _)
theorem fitF_iff {n m : Nat} {f : Nat → Nat → Int} {b : Nat → Nat → Bool} {y : Nat → Nat → Int} : fitF n m f b y = true ↔ FitsB n m f b y := by
  unfold fitF; exact @decide_eq_true_iff _ (Classical.propDecidable _)
theorem fitF_no {n m : Nat} {f : Nat → Nat → Int} {b : Nat → Nat → Bool} {y : Nat → Nat → Int} (h : ¬ FitsB n m f b y) : fitF n m f b y = false := by
  cases e : fitF n m f b y with
  | false => rfl
  | true => exact absurd (fitF_iff.1 e) h
/-- A cell that rules the rows out by itself. -/
def badF (f : Nat → Nat → Int) (b : Nat → Nat → Bool) (y : Nat → Nat → Int) (k l : Nat) : Bool := decide (y k l < 0) || (decide (396 < y k l) || (!b k l && decide (y k l ≠ f k l)))
def eqN (F G : Nat → Int) : Nat → Bool
  | 0 => true
  | n + 1 => eqN F G n && decide (F n = G n)
theorem eqN_iff {F G : Nat → Int} : ∀ {n : Nat}, eqN F G n = true ↔ ∀ k, k < n → F k = G k
  | 0 => ⟨fun _ k hk => absurd hk (Nat.not_lt_zero _), fun _ => rfl⟩
  | n + 1 => by
    unfold eqN
    rw [Bool.and_eq_true, eqN_iff, decide_eq_true_eq]
    refine ⟨fun h k hk => ?_, fun h => ⟨fun k hk => h k (by omega), h n (by omega)⟩⟩
    by_cases e : k = n
    · rw [e]; exact h.2
    · exact h.1 k (by omega)
theorem badF_no {f : Nat → Nat → Int} {b : Nat → Nat → Bool} {y : Nat → Nat → Int} {k l : Nat} (h : badF f b y k l = false) : 0 ≤ y k l ∧ y k l ≤ 396 ∧ (b k l = false → y k l = f k l) := by
  unfold badF at h
  rw [Bool.or_eq_false_iff, Bool.or_eq_false_iff, decide_eq_false_iff_not, decide_eq_false_iff_not] at h
  obtain ⟨h1, h2, h3⟩ := h
  refine ⟨by omega, by omega, fun hb => ?_⟩
  rw [hb, Bool.not_false, Bool.true_and, decide_eq_false_iff_not] at h3
  omega
theorem fitF_bad {n m : Nat} {f : Nat → Nat → Int} {b : Nat → Nat → Bool} {y : Nat → Nat → Int} {k l : Nat} (hk : k < n) (hl : l < m) (h : badF f b y k l = true) : fitF n m f b y = false := fitF_no fun hf => by
  have h1 := hf.fits.pos k l hk hl
  have h2 := hf.most k l hk hl
  have h3 := hf.fits.same k l hk hl
  unfold badF at h
  rw [Bool.or_eq_true, Bool.or_eq_true, Bool.and_eq_true, decide_eq_true_eq, decide_eq_true_eq, decide_eq_true_eq, Bool.not_eq_true'] at h
  rcases h with h | h | ⟨h, h4⟩
  · omega
  · omega
  · exact h4 (h3 h)
theorem fitF_good {n m : Nat} {f : Nat → Nat → Int} {b : Nat → Nat → Bool} {y : Nat → Nat → Int} (h : ∀ k l, k < n → l < m → badF f b y k l = false) :
    fitF n m f b y = (eqN (fun k => sumN m (f k)) (fun k => sumN m (y k)) n && eqN (fun l => sumN n (fun k => f k l)) (fun l => sumN n (fun k => y k l)) m) := by
  rw [Bool.eq_iff_iff, fitF_iff, Bool.and_eq_true, eqN_iff, eqN_iff]
  constructor
  · exact fun hf => ⟨fun k hk => (hf.fits.rows k hk).symm, fun l hl => (hf.fits.cols l hl).symm⟩
  · exact fun hf => ⟨⟨fun k hk => (hf.1 k hk).symm, fun l hl => (hf.2 l hl).symm, fun k l hk hl => (badF_no (h k l hk hl)).2.2, fun k l hk hl => (badF_no (h k l hk hl)).1⟩, fun k l hk hl => (badF_no (h k l hk hl)).2.1⟩
theorem FitsB.congr {n m : Nat} {f f' : Nat → Nat → Int} {b b' : Nat → Nat → Bool} {y y' : Nat → Nat → Int} (h : FitsB n m f b y) (hf : ∀ k l, k < n → l < m → f k l = f' k l) (hb : ∀ k l, k < n → l < m → b k l = b' k l) (hy : ∀ k l, k < n → l < m → y k l = y' k l) : FitsB n m f' b' y' :=
  ⟨⟨fun k hk => by rw [← sumN_congr (fun l hl => hy k l hk hl), ← sumN_congr (fun l hl => hf k l hk hl)]; exact h.fits.rows k hk,
    fun l hl => by rw [← sumN_congr (f := fun k => y k l) (fun k hk => hy k l hk hl), ← sumN_congr (f := fun k => f k l) (fun k hk => hf k l hk hl)]; exact h.fits.cols l hl,
    fun k l hk hl e => by rw [← hy k l hk hl, ← hf k l hk hl]; exact h.fits.same k l hk hl (by rw [hb k l hk hl]; exact e),
    fun k l hk hl => by rw [← hy k l hk hl]; exact h.fits.pos k l hk hl⟩, fun k l hk hl => by rw [← hy k l hk hl]; exact h.most k l hk hl⟩
theorem FitsB.turn {n m : Nat} {f : Nat → Nat → Int} {b : Nat → Nat → Bool} {y : Nat → Nat → Int} (h : FitsB n m f b y) : FitsB m n (fun a c => f c a) (fun a c => b c a) (fun a c => y c a) := ⟨h.fits.turn, fun k l hk hl => h.most l k hl hk⟩
theorem FitsB.all {n m : Nat} {f : Nat → Nat → Int} {b : Nat → Nat → Bool} {y : Nat → Nat → Int} (h : FitsB n m f b y) : FitsB n m f (fun _ _ => true) y := ⟨h.fits.mono fun _ _ _ _ _ => rfl, h.most⟩
theorem fitF_none {n m : Nat} {f : Nat → Nat → Int} {y : Nat → Nat → Int} (h0 : ∀ k l, k < n → l < m → 0 ≤ f k l ∧ f k l ≤ 99) : fitF n m f (fun _ _ => false) y = true ↔ ∀ k l, k < n → l < m → f k l = y k l := by
  rw [fitF_iff]
  constructor
  · exact fun h k l hk hl => (h.fits.same k l hk hl rfl).symm
  · intro h
    have h1 : FitsB n m f (fun _ _ => false) f := ⟨Fits.refl fun k l hk hl => (h0 k l hk hl).1, fun k l hk hl => by have := h0 k l hk hl; omega⟩
    exact h1.congr (fun _ _ _ _ => rfl) (fun _ _ _ _ => rfl) h
end Go.DC
namespace Go.Proofs.Ytelcdjbbcffliaa
open Go.RowKit Go.DC
/-- Whether the rows fit, for any lists. -/
noncomputable def fitV (t : List (List Int)) (mk : List (List Bool)) (x : List (List Int)) : Bool := maskOk t mk && (decide (shape t = shape x) && fitF t.length (wide t) (get 0 t) (get false mk) (get 0 x))
theorem fitV_no1 {t : List (List Int)} {mk : List (List Bool)} {x : List (List Int)} (h : maskOk t mk = false) : fitV t mk x = false := by unfold fitV; rw [h]; rfl
theorem fitV_no2 {t : List (List Int)} {mk : List (List Bool)} {x : List (List Int)} (h : ¬ shape t = shape x) : fitV t mk x = false := by unfold fitV; rw [decide_eq_false h, Bool.false_and, Bool.and_false]
theorem fitV_at {t : List (List Int)} {mk : List (List Bool)} {x : List (List Int)} (h : maskOk t mk = true) (h2 : shape t = shape x) : fitV t mk x = fitF t.length (wide t) (get 0 t) (get false mk) (get 0 x) := by unfold fitV; rw [h, decide_eq_true h2, Bool.true_and, Bool.true_and]
theorem fitV_tab {n m : Nat} {f y : Nat → Nat → Int} {b : Nat → Nat → Bool} (hf : InT n m f) : fitV (tabOf n m f) (tabOf n m b) (tabOf n m y) = fitF n m f b y := by
  rw [fitV_at (maskOk_tabOf hf) (by rw [shape_tabOf, shape_tabOf]), tabOf_length, wide_tabOf f (by have := hf.1; omega), Bool.eq_iff_iff, fitF_iff, fitF_iff]
  exact ⟨fun h => h.congr (fun k l hk hl => get_tabOf f hk hl) (fun k l hk hl => get_tabOf b hk hl) (fun k l hk hl => get_tabOf y hk hl), fun h => h.congr (fun k l hk hl => (get_tabOf f hk hl).symm) (fun k l hk hl => (get_tabOf b hk hl).symm) (fun k l hk hl => (get_tabOf y hk hl).symm)⟩
theorem fitV_ex {t : List (List Int)} {mk : List (List Bool)} {x : List (List Int)} (h : fitV t mk x = true) : ∃ n m f b y, t = tabOf n m f ∧ mk = tabOf n m b ∧ x = tabOf n m y ∧ InT n m f ∧ FitsB n m f b y := by
  have h1 : maskOk t mk = true := by
    cases e : maskOk t mk with
    | true => rfl
    | false => rw [fitV_no1 e] at h; cases h
  have h2 : shape t = shape x := by
    by_cases e : shape t = shape x
    · exact e
    · rw [fitV_no2 e] at h; cases h
  rw [fitV_at h1 h2] at h
  obtain ⟨r1, r2⟩ := maskOk_rect h1
  obtain ⟨e, hf⟩ := tabOk_form r1
  exact ⟨_, _, _, _, _, e, r2.eq false, (shape_rect r1 h2).eq 0, hf, fitF_iff.1 h⟩
end Go.Proofs.Ytelcdjbbcffliaa
