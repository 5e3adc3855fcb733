/- What a step and what growing does, in plain words. No conditions. -/
import Derived.Test.YtnlolgooicgfdaaSStep
namespace Go.DC
open Go.Proofs.Ytnlolgooicgfdaa
/-- Cells of b' that are not in b. -/
def newF (b b' : Nat → Nat → Bool) (k l : Nat) : Bool := b' k l && !b k l
theorem sum_two {n i r : Nat} {F : Nat → Int} {A : Int} (hA : 0 ≤ A) (h : ∀ k, k < n → (k = i ∨ k = r) → F k ≤ A) (h0 : ∀ k, k < n → k ≠ i → k ≠ r → F k ≤ 0) : sumN n F ≤ 2 * A := by
  have e : sumN n F ≤ sumN n (fun k => (if k = i then A else 0) + (if k = r then A else 0)) := sumN_le fun k hk => by
    by_cases h1 : k = i
    · have := h k hk (.inl h1)
      rw [if_pos h1]; split <;> omega
    · by_cases h2 : k = r
      · have := h k hk (.inr h2)
        rw [if_neg h1, if_pos h2]; omega
      · have := h0 k hk h1 h2
        rw [if_neg h1, if_neg h2]; omega
  have h1 : ∀ x, sumN n (fun k => if k = x then A else 0) ≤ A := fun x => by
    by_cases hx : x < n
    · have h1 := sumN_off (fun k => if k = x then A else 0) hx
      have h2 : sumN n (fun l => if l = x then (0 : Int) else (fun k => if k = x then A else 0) l) = 0 := by
        rw [sumN_congr (g := fun _ => 0) (fun l _ => by by_cases e : l = x <;> simp [e]), sumN_zero]
      simp only [if_true] at h1
      simp only at h2
      omega
    · rw [sumN_congr (g := fun _ => 0) (fun l hl => by rw [if_neg]; omega), sumN_zero]; exact hA
  have h2 := sumN_add (fun k => if k = i then A else 0) (fun k => if k = r then A else 0) n
  have h3 := h1 i
  have h4 := h1 r
  omega
theorem manyN_four {n m i r j c : Nat} {p : Nat → Nat → Bool} (h : ∀ x y, p x y = true → (x = i ∨ x = r) ∧ (y = j ∨ y = c)) : manyN n m p ≤ 4 := by
  have e : ∀ k, sumN m (one p k) ≤ 2 * 1 := fun k => sum_two (i := j) (r := c) (by omega) (fun l _ _ => (one_bd p k l).2) (fun l _ h1 h2 => by
    unfold one
    cases hp : p k l with
    | false => simp
    | true => exact absurd (h k l hp).2 (by omega))
  exact sum_two (i := i) (r := r) (A := 2) (by omega) (fun k _ _ => e k) (fun k _ h1 h2 => by
    rw [sumN_congr (g := fun _ => 0) (fun l hl => ?_), sumN_zero]
    · exact Int.le_refl _
    · unfold one
      cases hp : p k l with
      | false => simp
      | true => exact absurd (h k l hp).1 (by omega))
theorem manyN_some {n m : Nat} {p : Nat → Nat → Bool} {k l : Nat} (hk : k < n) (hl : l < m) (h : p k l = true) : 1 ≤ manyN n m p := by
  have h1 : one p k l ≤ sumN m (one p k) := le_sumN hl fun x _ _ => (one_bd p k x).1
  have h2 : sumN m (one p k) ≤ manyN n m p := le_sumN (f := fun k => sumN m (one p k)) hk fun x _ _ => sumN_nonneg fun y _ => (one_bd p x y).1
  have h3 : one p k l = 1 := by unfold one; rw [h]; rfl
  omega
theorem sumN_pair {n k j : Nat} {f : Nat → Int} (hk : k < n) (hj : j < n) (e : j ≠ k) (h : ∀ l, l < n → 0 ≤ f l) (hfk : 1 ≤ f k) (hfj : 1 ≤ f j) : 2 ≤ sumN n f := by
  have h1 := sumN_off f hk
  have h2 := le_sumN (f := fun l => if l = k then 0 else f l) hj (fun l hl _ => by split; exact Int.le_refl _; exact h l hl)
  simp only [if_neg e] at h2
  omega
theorem one_yes {p : Nat → Nat → Bool} {k l : Nat} (h : p k l = true) : one p k l = 1 := by unfold one; rw [h]; rfl
/-- What a step gives. -/
structure Steps (n m : Nat) (f : Nat → Nat → Int) (g b b' : Nat → Nat → Bool) (s : Int) : Prop where
  more : ∀ k l, b k l = true → b' k l = true
  some : 1 ≤ manyN n m (newF b b')
  four : manyN n m (newF b b') ≤ 4
  need : 1 ≤ manyN n m (notSafeF n m f g b s)
  row : ∀ k l, k < n → l < m → newF b b' k l = true → 2 ≤ sumN m (one b' k)
  col : ∀ k l, k < n → l < m → newF b b' k l = true → 2 ≤ sumN n (fun x => one b' x l)
theorem StepR.steps {n m : Nat} {f : Nat → Nat → Int} {g b b' : Nat → Nat → Bool} {s : Int} (h : StepR n m f g b s (some b')) : Steps n m f g b b' s := by
  have hg := h.grow
  rcases h with ⟨_, h⟩ | ⟨i, j, h1, h0, h2⟩
  · cases h
  · cases hb : bestN f b i j m n with
    | none => rw [hb] at h2; cases h2
    | some x =>
      rw [hb] at h2
      have e : b' = set4 b i j x.1 x.2 := Option.some.inj h2
      obtain ⟨hr, hc, hcand⟩ := (Held.all (f := f) (b := b) (i := i) (j := j) (m := m) n (Nat.le_refl _)) x.1 x.2 (by rw [hb])
      unfold candB at hcand
      simp only [Bool.and_eq_true, decide_eq_true_eq, Bool.not_eq_true', decide_eq_false_iff_not] at hcand
      obtain ⟨⟨hx1, hx2⟩, _⟩ := hcand
      have hnew : ∀ k l, newF b b' k l = true → (k = i ∨ k = x.1) ∧ (l = j ∨ l = x.2) := fun k l hn => by
        unfold newF at hn
        rw [e] at hn
        unfold set4 at hn
        simp only [Bool.and_eq_true, Bool.or_eq_true, decide_eq_true_eq, Bool.not_eq_true'] at hn
        rcases hn with ⟨h3 | h3, h4⟩
        · rw [h3] at h4; cases h4
        · exact h3
      have hset : ∀ k l, (k = i ∨ k = x.1) → (l = j ∨ l = x.2) → b' k l = true := fun k l h3 h4 => by
        rw [e]; unfold set4
        simp only [Bool.and_eq_true, Bool.or_eq_true, decide_eq_true_eq]
        exact .inr ⟨h3, h4⟩
      refine ⟨hg.1, ?_, manyN_four hnew, h0, ?_, ?_⟩
      · obtain ⟨k, l, hk, hl, h3, h4⟩ := hg.2
        exact manyN_some hk hl (by unfold newF; rw [h3, h4]; rfl)
      · intro k l hk hl hn
        exact sumN_pair h1.hj hc hx2 (fun y _ => (one_bd b' k y).1) (by rw [one_yes (hset k j (hnew k l hn).1 (.inl rfl))]; omega) (by rw [one_yes (hset k x.2 (hnew k l hn).1 (.inr rfl))]; omega)
      · intro k l hk hl hn
        exact sumN_pair (f := fun y => one b' y l) h1.hi hr hx1 (fun y _ => (one_bd b' y l).1) (by show 1 ≤ one b' i l; rw [one_yes (hset i l (.inl rfl) (hnew k l hn).2)]; omega) (by show 1 ≤ one b' x.1 l; rw [one_yes (hset x.1 l (.inr rfl) (hnew k l hn).2)]; omega)
/-- More hidden cells leave fewer cells that are not safe. -/
theorem notSafe_more {n m : Nat} {f : Nat → Nat → Int} {g b b' : Nat → Nat → Bool} {s : Int} (h0 : Pos n m f) (h : ∀ k l, k < n → l < m → b k l = true → b' k l = true) : manyN n m (notSafeF n m f g b' s) ≤ manyN n m (notSafeF n m f g b s) :=
  manyN_le fun i j hi hj e => by
    unfold notSafeF at *
    rw [Bool.and_eq_true, Bool.not_eq_true'] at *
    refine ⟨e.1, ?_⟩
    cases hs : safeF n m f b i j s with
    | false => rfl
    | true => rw [safeF_more h0 hi hj hs h] at e; exact absurd e.2 (by simp)
/-- What growing gives. -/
theorem Grows.ends {n m : Nat} {f : Nat → Nat → Int} {g b : Nat → Nat → Bool} {s : Int} {r : Option (Nat → Nat → Bool)} (h : Grows n m f g s b r) : ∀ b', r = some b' → (∀ k l, b k l = true → b' k l = true) ∧ manyN n m (notSafeF n m f g b' s) = 0 := by
  induction h with
  | done h0 => intro b' e; cases e; exact ⟨fun _ _ h => h, h0⟩
  | fail _ _ => intro b' e; cases e
  | next _ hs _ ih =>
    intro b' e
    obtain ⟨h1, h2⟩ := ih b' e
    exact ⟨fun k l h => h1 k l (hs.grow.1 k l h), h2⟩
theorem Grows.first {n m : Nat} {f : Nat → Nat → Int} {g b b' : Nat → Nat → Bool} {s : Int} (h : Grows n m f g s b (some b')) (h0 : manyN n m (notSafeF n m f g b s) = 0) : b' = b := by
  have := h.uniq (.done h0)
  cases this
  rfl
theorem Grows.step {n m : Nat} {f : Nat → Nat → Int} {g b b' : Nat → Nat → Bool} {s : Int} (h : Grows n m f g s b (some b')) (h0 : manyN n m (notSafeF n m f g b s) ≠ 0) {r : Option (Nat → Nat → Bool)} (hr : StepR n m f g b s r) : ∃ b1, r = some b1 ∧ ∀ k l, b1 k l = true → b' k l = true := by
  cases h with
  | done h1 => exact absurd h1 h0
  | next _ hs hg =>
    have := hr.uniq hs
    exact ⟨_, this, (hg.ends _ rfl).1⟩
/-- At no distance all hidden cells are safe. -/
theorem notSafe_zero {n m : Nat} {f : Nat → Nat → Int} {g : Nat → Nat → Bool} (h0 : Pos n m f) : manyN n m (notSafeF n m f g g 0) = 0 := by
  unfold manyN
  rw [sumN_congr (g := fun _ => 0) (fun k hk => ?_), sumN_zero]
  rw [sumN_congr (g := fun _ => 0) (fun l hl => ?_), sumN_zero]
  unfold one notSafeF
  cases hg : g k l with
  | false => simp
  | true => rw [safeF_zero h0 hk hl hg]; simp
theorem notSafe_none {n m : Nat} {f : Nat → Nat → Int} {b : Nat → Nat → Bool} {s : Int} : manyN n m (notSafeF n m f (fun _ _ => false) b s) = 0 := by
  unfold manyN
  rw [sumN_congr (g := fun _ => 0) (fun k hk => ?_), sumN_zero]
  rw [sumN_congr (g := fun _ => 0) (fun l hl => ?_), sumN_zero]
  unfold one notSafeF
  simp
/-- A safe cell is not alone in its row, nor in its column. -/
theorem safe_pair {n m : Nat} {f : Nat → Nat → Int} {b : Nat → Nat → Bool} {k l : Nat} {s : Int} (h0 : Pos n m f) (hk : k < n) (hl : l < m) (h : safeF n m f b k l s = true) (hs : 0 < s) : (∃ j, j < m ∧ j ≠ l ∧ b k j = true) ∧ ∃ i, i < n ∧ i ≠ k ∧ b i l = true := by
  obtain ⟨hb, h1, h2⟩ := safeF_iff.1 h
  refine ⟨Classical.byContradiction fun hn => ?_, Classical.byContradiction fun hn => ?_⟩
  · have := high_alone_row (b := b) h0 hk hl (fun j hj hne => by
      cases hbj : b k j with
      | false => rfl
      | true => exact absurd ⟨j, hj, hne, hbj⟩ hn)
    omega
  · have := high_alone_col (b := b) h0 hk hl (fun j hj hne => by
      cases hbj : b j l with
      | false => rfl
      | true => exact absurd ⟨j, hj, hne, hbj⟩ hn)
    omega
end Go.DC
namespace Go.Proofs.Ytnlolgooicgfdaa
open Go.RowKit Go.DC
/-- What is handed back: the rows, or nothing. -/
def outT (n m : Nat) : Option (Nat → Nat → Bool) → List (List Bool)
  | none => []
  | some b => tabOf n m b
theorem outT_small {n m : Nat} (r : Option (Nat → Nat → Bool)) (h4 : n ≤ 4) (m4 : m ≤ 4) : (outT n m r).length ≤ 4 ∧ ∀ x ∈ outT n m r, x.length ≤ 4 := by
  cases r with
  | none => exact ⟨by simp [outT], fun x hx => by simp [outT] at hx⟩
  | some b =>
    refine ⟨by show (tabOf n m b).length ≤ 4; rw [tabOf_length]; exact h4, fun x hx => ?_⟩
    obtain ⟨k, hk, rfl⟩ := List.getElem_of_mem (show x ∈ tabOf n m b from hx)
    rw [tabOf_rowlen]; exact m4
/-- What a step hands back for any arguments. -/
def StepOf (t : List (List Int)) (fm mk : List (List Bool)) (s : Int) (r : Option (Nat → Nat → Bool)) : Prop :=
  (needOk t fm mk s = true → StepR t.length (wide t) (get 0 t) (get false fm) (get false mk) s r) ∧ (needOk t fm mk s = false → r = none)
theorem StepOf.uniq {t : List (List Int)} {fm mk : List (List Bool)} {s : Int} {r r' : Option (Nat → Nat → Bool)} (h : StepOf t fm mk s r) (h' : StepOf t fm mk s r') : r = r' := by
  cases hn : needOk t fm mk s with
  | true => exact (h.1 hn).uniq (h'.1 hn)
  | false => rw [h.2 hn, h'.2 hn]
/-- What growing hands back for any arguments. -/
def GrowOf (t : List (List Int)) (fm : List (List Bool)) (s : Int) (r : Option (Nat → Nat → Bool)) : Prop :=
  (needOk t fm fm s = true → Grows t.length (wide t) (get 0 t) (get false fm) s (get false fm) r) ∧ (needOk t fm fm s = false → r = none)
theorem GrowOf.uniq {t : List (List Int)} {fm : List (List Bool)} {s : Int} {r r' : Option (Nat → Nat → Bool)} (h : GrowOf t fm s r) (h' : GrowOf t fm s r') : r = r' := by
  cases hn : needOk t fm fm s with
  | true => exact (h.1 hn).uniq (h'.1 hn)
  | false => rw [h.2 hn, h'.2 hn]
/-- What the calls end with. -/
def StepAny (t : List (List Int)) (fm mk : List (List Bool)) (s : Int) (w : World) (e : Ending) (w' : World) : Prop :=
  ∃ a c vs r, e = .returned (.tuple #[.slice a (outT t.length (wide t) r).length c, .bool (Option.isSome r)]) ∧ StepOf t fm mk s r ∧ OwnB w' w.heap.size (.slice a (outT t.length (wide t) r).length c) vs (outT t.length (wide t) r) ∧ Ext w w'
def GrowsAny (t : List (List Int)) (fm : List (List Bool)) (s : Int) (w : World) (e : Ending) (w' : World) : Prop :=
  ∃ a c vs r, e = .returned (.tuple #[.slice a (outT t.length (wide t) r).length c, .bool (Option.isSome r)]) ∧ GrowOf t fm s r ∧ OwnB w' w.heap.size (.slice a (outT t.length (wide t) r).length c) vs (outT t.length (wide t) r) ∧ Ext w w'
end Go.Proofs.Ytnlolgooicgfdaa
