/- Laws on the bounds of hidden cells. Plain Lean. No conditions. -/
import Derived.Test.YtelcdjbbcffliaaFlow2
namespace Go.DC
section
variable {h m : Nat} {f g : Nat → Nat → Int} {b b' : Nat → Nat → Bool} {i j : Nat} {x y : Nat → Nat → Int}
def Pos (h m : Nat) (f : Nat → Nat → Int) : Prop := ∀ k l, k < h → l < m → 0 ≤ f k l
/-- Bounds hang on the tables that fit alone. -/
theorem high_same (h0 : Pos h m f) (h1 : Pos h m g) (hi : i < h) (hj : j < m) (e : ∀ x, Fits h m f b x ↔ Fits h m g b' x) : high h m f b i j = high h m g b' i j := by
  obtain ⟨x, hx, ex⟩ := high_at (b := b') h1 hi hj
  exact high_uniq h0 hi hj ⟨x, (e x).2 hx, ex⟩ (fun y hy => high_max h1 hi hj ((e y).1 hy))
theorem low_same (h0 : Pos h m f) (h1 : Pos h m g) (hi : i < h) (hj : j < m) (e : ∀ x, Fits h m f b x ↔ Fits h m g b' x) : low h m f b i j = low h m g b' i j := by
  obtain ⟨x, hx, ex⟩ := low_at (b := b') h1 hi hj
  exact low_uniq h0 hi hj ⟨x, (e x).2 hx, ex⟩ (fun y hy => low_min h1 hi hj ((e y).1 hy))
theorem high_ge (h0 : Pos h m f) (hi : i < h) (hj : j < m) : f i j ≤ high h m f b i j := high_max h0 hi hj (Fits.refl h0)
theorem low_le (h0 : Pos h m f) (hi : i < h) (hj : j < m) : low h m f b i j ≤ f i j := low_min h0 hi hj (Fits.refl h0)
theorem low_pos (h0 : Pos h m f) (hi : i < h) (hj : j < m) : 0 ≤ low h m f b i j := by
  obtain ⟨x, hx, e⟩ := low_at (b := b) h0 hi hj
  rw [← e]; exact hx.pos i j hi hj
/-- More hidden cells, wider bounds. -/
theorem high_mono (h0 : Pos h m f) (hi : i < h) (hj : j < m) (hb : ∀ k l, k < h → l < m → b k l = true → b' k l = true) : high h m f b i j ≤ high h m f b' i j := by
  obtain ⟨x, hx, e⟩ := high_at (b := b) h0 hi hj
  rw [← e]; exact high_max h0 hi hj (hx.mono hb)
theorem low_mono (h0 : Pos h m f) (hi : i < h) (hj : j < m) (hb : ∀ k l, k < h → l < m → b k l = true → b' k l = true) : low h m f b' i j ≤ low h m f b i j := by
  obtain ⟨x, hx, e⟩ := low_at (b := b) h0 hi hj
  rw [← e]; exact low_min h0 hi hj (hx.mono hb)
theorem Fits.turn (hx : Fits h m f b x) : Fits m h (fun a c => f c a) (fun a c => b c a) (fun a c => x c a) :=
  ⟨fun k hk => hx.cols k hk, fun l hl => hx.rows l hl, fun k l hk hl e => hx.same l k hl hk e, fun k l hk hl => hx.pos l k hl hk⟩
theorem high_turn (h0 : Pos h m f) (hi : i < h) (hj : j < m) : high m h (fun a c => f c a) (fun a c => b c a) j i = high h m f b i j := by
  obtain ⟨x, hx, e⟩ := high_at (b := b) h0 hi hj
  exact high_uniq (fun k l hk hl => h0 l k hl hk) hj hi ⟨_, hx.turn, e⟩ (fun y hy => high_max h0 hi hj hy.turn)
theorem low_turn (h0 : Pos h m f) (hi : i < h) (hj : j < m) : low m h (fun a c => f c a) (fun a c => b c a) j i = low h m f b i j := by
  obtain ⟨x, hx, e⟩ := low_at (b := b) h0 hi hj
  exact low_uniq (fun k l hk hl => h0 l k hl hk) hj hi ⟨_, hx.turn, e⟩ (fun y hy => low_min h0 hi hj hy.turn)
theorem Near.twice (hx : Near h m f b i j x) : Near h m (fun k l => 2 * f k l) b i j (fun k l => 2 * x k l) := by
  refine ⟨fun k hk => ?_, fun l hl => ?_, fun k l hk hl e => by rw [hx.same k l hk hl e], fun k l hk hl hne => by have := hx.pos k l hk hl hne; show 0 ≤ 2 * x k l; omega⟩
  · rw [sumN_mul 2 (x k), sumN_mul 2 (f k), hx.rows k hk]
  · rw [sumN_mul 2 (fun k => x k l), sumN_mul 2 (fun k => f k l), hx.cols l hl]
theorem Cut.twice {up : Bool} {R C : Nat → Bool} (c : Cut h m b i j up x R C) : Cut h m b i j up (fun k l => 2 * x k l) R C :=
  ⟨c.row, c.col, fun k l hk hl hne hb hR hC => ⟨(c.out k l hk hl hne hb hR hC).1, by rw [(c.out k l hk hl hne hb hR hC).2]; rfl⟩, fun k l hk hl hne hb hR hC => ⟨(c.in_ k l hk hl hne hb hR hC).1, by rw [(c.in_ k l hk hl hne hb hR hC).2]; rfl⟩⟩
theorem high_twice (h0 : Pos h m f) (hi : i < h) (hj : j < m) : high h m (fun k l => 2 * f k l) b i j = 2 * high h m f b i j := by
  cases hb : b i j with
  | true =>
    obtain ⟨x, R, C, hx, e, c⟩ := high_is h0 hi hj hb
    rw [← e]
    exact high_eq hi hj hb ⟨_, R, C, hx.twice, rfl, c.twice⟩
  | false => unfold high; rw [hb]; rfl
theorem low_twice (h0 : Pos h m f) (hi : i < h) (hj : j < m) : low h m (fun k l => 2 * f k l) b i j = 2 * low h m f b i j := by
  cases hb : b i j with
  | true =>
    obtain ⟨x, R, C, hx, e, c⟩ := lowN_is h0 hi hj hb
    have h1 : low h m f b i j = max 0 (x i j) := by unfold low; rw [if_pos hb, ← e]
    rw [h1, low_eqN hi hj hb ⟨_, R, C, hx.twice, rfl, c.twice⟩]
    omega
  | false => unfold low; rw [hb]; rfl
/-- All is hidden. -/
theorem high_all (h0 : Pos h m f) (hi : i < h) (hj : j < m) : high h m f (fun _ _ => true) i j = min (sumN m (f i)) (sumN h (fun k => f k j)) := by
  obtain ⟨x, R, C, hx, e, c⟩ := high_is (b := fun _ _ => true) h0 hi hj rfl
  have hu1 := hx.le_row hi hj
  have hu2 : x i j ≤ sumN h (fun k => f k j) := by
    rw [← hx.cols j hj]
    exact le_sumN (f := fun k => x k j) hi (fun k hk hne => hx.pos k j hk hj (fun e => hne e.1))
  rw [← e]
  by_cases hC : ∃ l, l < m ∧ C l = true
  · obtain ⟨l, hl, hCl⟩ := hC
    have hlj : l ≠ j := fun e => by rw [e, c.col] at hCl; cases hCl
    have hR : ∀ k, k < h → R k = true := fun k hk => by
      cases hr : R k with
      | true => rfl
      | false => exact absurd (c.in_ k l hk hl (fun e => hlj e.2) rfl hr hCl).1 (by simp)
    have : sumN h (fun k => x k j) = x i j := sumN_single (f := fun k => x k j) hi (fun k hk hne => (c.out k j hk hj (fun e => hne e.1) rfl (hR k hk) c.col).2)
    rw [hx.cols j hj] at this
    omega
  · have hC' : ∀ l, l < m → C l = false := fun l hl => by
      cases hc : C l with
      | false => rfl
      | true => exact absurd ⟨l, hl, hc⟩ hC
    have : sumN m (x i) = x i j := sumN_single (f := x i) hj (fun l hl hne => (c.out i l hi hl (fun e => hne e.2) rfl c.row (hC' l hl)).2)
    rw [hx.rows i hi] at this
    omega
/-- The rest of a table, without row i and column j. -/
theorem rest_sum (x : Nat → Nat → Int) (hi : i < h) (hj : j < m) : sumN h (fun k => sumN m (fun l => if k = i ∨ l = j then 0 else x k l)) = sumN h (fun k => sumN m (x k)) - sumN m (x i) - sumN h (fun k => x k j) + x i j := by
  have h1 : ∀ k, k < h → sumN m (fun l => if k = i ∨ l = j then 0 else x k l) = if k = i then 0 else sumN m (x k) - x k j := fun k _ => by
    by_cases e : k = i
    · rw [if_pos e, sumN_congr (g := fun _ => 0) (fun l _ => if_pos (.inl e)), sumN_zero]
    · rw [if_neg e, ← sumN_off (x k) hj]
      exact sumN_congr fun l _ => by simp [e]
  rw [sumN_congr h1, sumN_off (fun k => sumN m (x k) - x k j) hi, sumN_sub (fun k => sumN m (x k))]
  omega
theorem low_all (h0 : Pos h m f) (hi : i < h) (hj : j < m) : low h m f (fun _ _ => true) i j = max 0 (sumN m (f i) + sumN h (fun k => f k j) - sumN h (fun k => sumN m (f k))) := by
  obtain ⟨x, R, C, hx, e, c⟩ := lowN_is (b := fun _ _ => true) h0 hi hj rfl
  have hl : low h m f (fun _ _ => true) i j = max 0 (x i j) := by unfold low; rw [if_pos rfl, ← e]
  rw [hl]
  have hr := rest_sum x hi hj
  rw [hx.rows i hi, hx.cols j hj, sumN_congr (f := fun k => sumN m (x k)) (fun k hk => hx.rows k hk)] at hr
  -- all columns but j are reached, and no row beside i that holds anything beyond j
  have hC : ∀ l, l < m → l ≠ j → C l = true := fun l hl hlj => by
    cases hc : C l with
    | true => rfl
    | false => exact absurd (c.out i l hi hl (fun e => hlj e.2) rfl c.row hc).1 (by simp)
  have hR : ∀ k, k < h → k ≠ i → R k = false := fun k hk hki => by
    cases hr : R k with
    | false => rfl
    | true => exact absurd (c.out k j hk hj (fun e => hki e.1) rfl hr c.col).1 (by simp)
  have hz : sumN h (fun k => sumN m (fun l => if k = i ∨ l = j then 0 else x k l)) = 0 := by
    rw [sumN_congr (g := fun _ => 0) (fun k hk => ?_), sumN_zero]
    rw [sumN_congr (g := fun _ => 0) (fun l hl => ?_), sumN_zero]
    by_cases e1 : k = i ∨ l = j
    · rw [if_pos e1]
    · rw [if_neg e1]
      exact (c.in_ k l hk hl (fun e => e1 (.inl e.1)) rfl (hR k hk (fun e => e1 (.inl e))) (hC l hl (fun e => e1 (.inr e)))).2
  rw [hz] at hr
  rw [show x i j = sumN m (f i) + sumN h (fun k => f k j) - sumN h (fun k => sumN m (f k)) by omega]
/-- A row leaves room. -/
theorem high_row (h0 : Pos h m f) (hi : i < h) (hj : j < m) : high h m f b i j ≤ sumN m (f i) - sumN m (fun l => if l = j then 0 else low h m f b i l) ∧ sumN m (f i) - sumN m (fun l => if l = j then 0 else high h m f b i l) ≤ low h m f b i j := by
  constructor
  · obtain ⟨x, hx, e⟩ := high_at (b := b) h0 hi hj
    have h1 : sumN m (fun l => if l = j then 0 else low h m f b i l) ≤ sumN m (fun l => if l = j then 0 else x i l) := sumN_le fun l hl => by
      by_cases e : l = j
      · rw [if_pos e, if_pos e]; exact Int.le_refl _
      · rw [if_neg e, if_neg e]; exact low_min h0 hi hl hx
    rw [sumN_off (x i) hj, hx.rows i hi, e] at h1
    omega
  · obtain ⟨x, hx, e⟩ := low_at (b := b) h0 hi hj
    have h1 : sumN m (fun l => if l = j then 0 else x i l) ≤ sumN m (fun l => if l = j then 0 else high h m f b i l) := sumN_le fun l hl => by
      by_cases e : l = j
      · rw [if_pos e, if_pos e]; exact Int.le_refl _
      · rw [if_neg e, if_neg e]; exact high_max h0 hi hl hx
    rw [sumN_off (x i) hj, hx.rows i hi, e] at h1
    omega
/-- A table that fits has the same tables that fit. -/
theorem Fits.swap (hx : Fits h m f b x) (y : Nat → Nat → Int) : Fits h m f b y ↔ Fits h m x b y :=
  ⟨fun hy => ⟨fun k hk => (hy.rows k hk).trans (hx.rows k hk).symm, fun l hl => (hy.cols l hl).trans (hx.cols l hl).symm, fun k l hk hl e => (hy.same k l hk hl e).trans (hx.same k l hk hl e).symm, hy.pos⟩,
   fun hy => ⟨fun k hk => (hy.rows k hk).trans (hx.rows k hk), fun l hl => (hy.cols l hl).trans (hx.cols l hl), fun k l hk hl e => (hy.same k l hk hl e).trans (hx.same k l hk hl e), hy.pos⟩⟩
/-- A hidden cell alone in its row does not move. -/
theorem fit_alone_row (hx : Fits h m f b x) (hi : i < h) (hj : j < m) (ha : ∀ l, l < m → l ≠ j → b i l = false) : x i j = f i j := by
  have h1 := hx.rows i hi
  have h2 := sumN_off (x i) hj
  have h3 := sumN_off (f i) hj
  have h4 : sumN m (fun l => if l = j then 0 else x i l) = sumN m (fun l => if l = j then 0 else f i l) := sumN_congr fun l hl => by
    by_cases e : l = j
    · rw [if_pos e, if_pos e]
    · rw [if_neg e, if_neg e, hx.same i l hi hl (ha l hl e)]
  omega
theorem fit_alone_col (hx : Fits h m f b x) (hi : i < h) (hj : j < m) (ha : ∀ k, k < h → k ≠ i → b k j = false) : x i j = f i j :=
  fit_alone_row (i := j) (j := i) (b := fun a c => b c a) hx.turn hj hi ha
theorem high_alone_row (h0 : Pos h m f) (hi : i < h) (hj : j < m) (ha : ∀ l, l < m → l ≠ j → b i l = false) : high h m f b i j = f i j := by
  obtain ⟨x, hx, e⟩ := high_at (b := b) h0 hi hj
  rw [← e]; exact fit_alone_row hx hi hj ha
theorem high_alone_col (h0 : Pos h m f) (hi : i < h) (hj : j < m) (ha : ∀ k, k < h → k ≠ i → b k j = false) : high h m f b i j = f i j := by
  obtain ⟨x, hx, e⟩ := high_at (b := b) h0 hi hj
  rw [← e]; exact fit_alone_col hx hi hj ha
/-- What is told need not be hidden. -/
theorem told_unset (h0 : Pos h m f) (hb : ∀ k l, k < h → l < m → b' k l = true → b k l = true) (ht : ∀ k l, k < h → l < m → b k l = true → b' k l = false → high h m f b k l = low h m f b k l) (x : Nat → Nat → Int) : Fits h m f b x ↔ Fits h m f b' x := by
  constructor
  · intro hx
    refine ⟨hx.rows, hx.cols, fun k l hk hl e => ?_, hx.pos⟩
    cases e2 : b k l with
    | false => exact hx.same k l hk hl e2
    | true =>
      have h1 := ht k l hk hl e2 e
      have a1 := high_max h0 hk hl hx
      have a2 := low_min h0 hk hl hx
      have a3 := high_ge (b := b) h0 hk hl
      have a4 := low_le (b := b) h0 hk hl
      omega
  · exact fun hx => hx.mono hb
/-- Bounds stay within the sums. -/
theorem high_row_le (h0 : Pos h m f) (hi : i < h) (hj : j < m) : high h m f b i j ≤ sumN m (f i) := by
  obtain ⟨x, hx, e⟩ := high_at (b := b) h0 hi hj
  rw [← e]; exact (hx.near i j).le_row hi hj
end
end Go.DC
