/- A step of a pattern, in plain words: the first cell that is not safe, the cheapest other row and column, the mask with four cells more. No conditions. -/
import Derived.Test.YtnlolgooicgfdaaSafeLaw
namespace Go.DC
/-- First cells that are not safe. -/
noncomputable def notSafeF (n m : Nat) (f : Nat → Nat → Int) (g b : Nat → Nat → Bool) (s : Int) (i j : Nat) : Bool := g i j && !safeF n m f b i j s
/-- The first cell with p, row by row. -/
structure FirstAt (n m : Nat) (p : Nat → Nat → Bool) (i j : Nat) : Prop where
  hi : i < n
  hj : j < m
  yes : p i j = true
  no : ∀ k l, k < n → l < m → (k < i ∨ (k = i ∧ l < j)) → p k l = false
theorem FirstAt.uniq {n m : Nat} {p : Nat → Nat → Bool} {i j i' j' : Nat} (a : FirstAt n m p i j) (b : FirstAt n m p i' j') : i = i' ∧ j = j' := by
  have h1 : ¬ (i < i' ∨ (i = i' ∧ j < j')) := fun h => by have := b.no i j a.hi a.hj h; rw [a.yes] at this; cases this
  have h2 : ¬ (i' < i ∨ (i' = i ∧ j' < j)) := fun h => by have := a.no i' j' b.hi b.hj h; rw [b.yes] at this; cases this
  omega
/-- The four cells of a rectangle: (i, j), (i, l), (k, j), (k, l). -/
def rowQ (i k q : Nat) : Nat := if q < 2 then i else k
def colQ (j l q : Nat) : Nat := if q = 0 ∨ q = 2 then j else l
def sumC (f : Nat → Nat → Int) (b : Nat → Nat → Bool) (i j k l q : Nat) : Int := if b (rowQ i k q) (colQ j l q) then 0 else f (rowQ i k q) (colQ j l q)
def manyC (b : Nat → Nat → Bool) (i j k l q : Nat) : Int := if b (rowQ i k q) (colQ j l q) then 0 else 1
def sum4 (f : Nat → Nat → Int) (b : Nat → Nat → Bool) (i j k l : Nat) : Int := sumN 4 (sumC f b i j k l)
def many4 (b : Nat → Nat → Bool) (i j k l : Nat) : Int := sumN 4 (manyC b i j k l)
/-- A rectangle that would hide more. -/
def candB (b : Nat → Nat → Bool) (i j k l : Nat) : Bool := (!decide (k = i) && !decide (l = j)) && decide (0 < many4 b i j k l)
/-- Whether (k, l) is better than what is held. -/
def lessB (f : Nat → Nat → Int) (b : Nat → Nat → Bool) (i j k l : Nat) : Option (Nat × Nat) → Bool
  | none => true
  | some (r, c) => decide (sum4 f b i j k l < sum4 f b i j r c)
def bestStep (f : Nat → Nat → Int) (b : Nat → Nat → Bool) (i j k l : Nat) (st : Option (Nat × Nat)) : Option (Nat × Nat) := if candB b i j k l && lessB f b i j k l st then some (k, l) else st
def bestR (f : Nat → Nat → Int) (b : Nat → Nat → Bool) (i j k : Nat) (st : Option (Nat × Nat)) : Nat → Option (Nat × Nat)
  | 0 => st
  | l + 1 => bestStep f b i j k l (bestR f b i j k st l)
def bestN (f : Nat → Nat → Int) (b : Nat → Nat → Bool) (i j m : Nat) : Nat → Option (Nat × Nat)
  | 0 => none
  | k + 1 => bestR f b i j k (bestN f b i j m k) m
/-- What is held is a rectangle of the table that hides more. -/
def Held (n m : Nat) (b : Nat → Nat → Bool) (i j : Nat) (st : Option (Nat × Nat)) : Prop := ∀ r c, st = some (r, c) → r < n ∧ c < m ∧ candB b i j r c = true
theorem Held.step {n m : Nat} {f : Nat → Nat → Int} {b : Nat → Nat → Bool} {i j k l : Nat} {st : Option (Nat × Nat)} (h : Held n m b i j st) (hk : k < n) (hl : l < m) : Held n m b i j (bestStep f b i j k l st) := fun r c e => by
  unfold bestStep at e
  cases hc : (candB b i j k l && lessB f b i j k l st) with
  | true =>
    rw [hc, if_pos rfl] at e
    cases e
    rw [Bool.and_eq_true] at hc
    exact ⟨hk, hl, hc.1⟩
  | false =>
    rw [hc] at e
    exact h r c (by simpa using e)
theorem Held.row {n m : Nat} {f : Nat → Nat → Int} {b : Nat → Nat → Bool} {i j k : Nat} {st : Option (Nat × Nat)} (h : Held n m b i j st) (hk : k < n) : ∀ l, l ≤ m → Held n m b i j (bestR f b i j k st l)
  | 0, _ => h
  | l + 1, hl => (Held.row h hk l (by omega)).step hk (by omega)
theorem Held.all {n m : Nat} {f : Nat → Nat → Int} {b : Nat → Nat → Bool} {i j : Nat} : ∀ k, k ≤ n → Held n m b i j (bestN f b i j m k)
  | 0, _ => fun r c e => by cases e
  | k + 1, hk => (Held.all k (by omega)).row (by omega) m (Nat.le_refl _)
/-- The four cells are set. -/
def set4 (b : Nat → Nat → Bool) (i j r c : Nat) (x y : Nat) : Bool := b x y || ((decide (x = i) || decide (x = r)) && (decide (y = j) || decide (y = c)))
theorem set4_upd (b : Nat → Nat → Bool) (i j r c : Nat) : upd (upd (upd (upd b i j true) i c true) r j true) r c true = set4 b i j r c := by
  funext x y
  unfold upd set4
  by_cases h1 : x = i <;> by_cases h2 : x = r <;> by_cases h3 : y = j <;> by_cases h4 : y = c <;> simp [h1, h2, h3, h4]
  all_goals (repeat' split) <;> simp_all
theorem set4_more {b : Nat → Nat → Bool} {i j r c x y : Nat} (h : b x y = true) : set4 b i j r c x y = true := by unfold set4; rw [h]; rfl
/-- What a step makes of a mask: nothing, or a mask with more cells. -/
def StepR (n m : Nat) (f : Nat → Nat → Int) (g b : Nat → Nat → Bool) (s : Int) (r : Option (Nat → Nat → Bool)) : Prop :=
  (manyN n m (notSafeF n m f g b s) < 1 ∧ r = none) ∨ (∃ i j, FirstAt n m (notSafeF n m f g b s) i j ∧ 1 ≤ manyN n m (notSafeF n m f g b s) ∧ r = (bestN f b i j m n).map fun x => set4 b i j x.1 x.2)
theorem StepR.uniq {n m : Nat} {f : Nat → Nat → Int} {g b : Nat → Nat → Bool} {s : Int} {r r' : Option (Nat → Nat → Bool)} (h : StepR n m f g b s r) (h' : StepR n m f g b s r') : r = r' := by
  rcases h with ⟨h1, rfl⟩ | ⟨i, j, h1, h2, rfl⟩ <;> rcases h' with ⟨h3, rfl⟩ | ⟨i', j', h3, h4, rfl⟩
  · rfl
  · omega
  · omega
  · obtain ⟨rfl, rfl⟩ := h1.uniq h3; rfl
/-- How a pattern grows: step by step until it is ok, or until a step fails. -/
inductive Grows (n m : Nat) (f : Nat → Nat → Int) (g : Nat → Nat → Bool) (s : Int) : (Nat → Nat → Bool) → Option (Nat → Nat → Bool) → Prop
  | done {b} : manyN n m (notSafeF n m f g b s) = 0 → Grows n m f g s b (some b)
  | fail {b} : manyN n m (notSafeF n m f g b s) ≠ 0 → StepR n m f g b s none → Grows n m f g s b none
  | next {b b' r} : manyN n m (notSafeF n m f g b s) ≠ 0 → StepR n m f g b s (some b') → Grows n m f g s b' r → Grows n m f g s b r
theorem Grows.uniq {n m : Nat} {f : Nat → Nat → Int} {g b : Nat → Nat → Bool} {s : Int} {r r' : Option (Nat → Nat → Bool)} (h : Grows n m f g s b r) (h' : Grows n m f g s b r') : r = r' := by
  induction h generalizing r' with
  | done h0 =>
    cases h' with
    | done _ => rfl
    | fail h1 _ => exact absurd h0 h1
    | next h1 _ _ => exact absurd h0 h1
  | fail h0 hs =>
    cases h' with
    | done h1 => exact absurd h1 h0
    | fail _ _ => rfl
    | next _ hs' _ => have := hs.uniq hs'; cases this
  | next h0 hs _ ih =>
    cases h' with
    | done h1 => exact absurd h1 h0
    | fail _ hs' => have := hs.uniq hs'; cases this
    | next _ hs' h2 =>
      have := hs.uniq hs'
      cases this
      exact ih h2
/-- A step sets at least one cell more, and none less. -/
theorem StepR.grow {n m : Nat} {f : Nat → Nat → Int} {g b b' : Nat → Nat → Bool} {s : Int} (h : StepR n m f g b s (some b')) : (∀ k l, b k l = true → b' k l = true) ∧ ∃ k l, k < n ∧ l < m ∧ b k l = false ∧ b' k l = true := by
  rcases h with ⟨_, h⟩ | ⟨i, j, h1, _, h2⟩
  · cases h
  · cases hb : bestN f b i j m n with
    | none => rw [hb] at h2; cases h2
    | some x =>
      rw [hb] at h2
      have e : b' = set4 b i j x.1 x.2 := Option.some.inj h2
      subst e
      refine ⟨fun k l h => set4_more h, ?_⟩
      obtain ⟨hr, hc, hcand⟩ := (Held.all (f := f) (b := b) (i := i) (j := j) (m := m) n (Nat.le_refl _)) x.1 x.2 (by rw [hb])
      unfold candB at hcand
      simp only [Bool.and_eq_true, decide_eq_true_eq] at hcand
      have h4 := hcand.2
      have h5 : ∃ q, q < 4 ∧ b (rowQ i x.1 q) (colQ j x.2 q) = false := by
        refine Classical.byContradiction fun hn => ?_
        have : many4 b i j x.1 x.2 = 0 := by
          unfold many4
          rw [sumN_congr (g := fun _ => 0) (fun q hq => ?_), sumN_zero]
          unfold manyC
          cases hq2 : b (rowQ i x.1 q) (colQ j x.2 q) with
          | true => rfl
          | false => exact absurd ⟨q, hq, hq2⟩ hn
        omega
      obtain ⟨q, hq, hf⟩ := h5
      refine ⟨_, _, ?_, ?_, hf, ?_⟩
      · unfold rowQ; split
        · exact h1.hi
        · exact hr
      · unfold colQ; split
        · exact h1.hj
        · exact hc
      · unfold set4 rowQ colQ
        by_cases e1 : q < 2 <;> by_cases e2 : q = 0 ∨ q = 2 <;> simp [e1, e2]
theorem manyN_grow {n m : Nat} {b b' : Nat → Nat → Bool} (h : ∀ k l, b k l = true → b' k l = true) (hx : ∃ k l, k < n ∧ l < m ∧ b k l = false ∧ b' k l = true) : manyN n m b < manyN n m b' := by
  obtain ⟨k, l, hk, hl, h1, h2⟩ := hx
  have h0 : manyN n m b ≤ manyN n m (upd b' k l false) := manyN_le fun i j _ _ e => by
    unfold upd
    by_cases h3 : i = k ∧ j = l
    · rw [h3.1, h3.2, h1] at e; cases e
    · rw [if_neg h3]; exact h i j e
  have h3 : manyN n m (upd b' k l false) + 1 = manyN n m b' := by
    have e1 : ∀ i, i < n → sumN m (one (upd b' k l false) i) = if i = k then sumN m (one b' i) - 1 else sumN m (one b' i) := fun i _ => by
      by_cases e : i = k
      · subst e
        rw [if_pos rfl]
        have h4 := sumN_off (one b' i) hl
        have h5 : sumN m (one (upd b' i l false) i) = sumN m (fun j => if j = l then 0 else one b' i j) := sumN_congr fun j _ => by
          unfold one upd
          by_cases e2 : j = l
          · simp [e2]
          · simp [e2]
        have h6 : one b' i l = 1 := by unfold one; rw [h2]; rfl
        omega
      · rw [if_neg e]
        exact sumN_congr fun j _ => by unfold one upd; simp [e]
    unfold manyN
    rw [sumN_congr e1]
    have := sumN_bump (fun i => sumN m (one b' i)) (-1) hk
    have e3 : sumN n (fun i => if i = k then sumN m (one b' i) - 1 else sumN m (one b' i)) = sumN n (fun l => if l = k then sumN m (one b' l) + -1 else sumN m (one b' l)) := sumN_congr fun i _ => by split <;> rfl
    omega
  omega
end Go.DC
