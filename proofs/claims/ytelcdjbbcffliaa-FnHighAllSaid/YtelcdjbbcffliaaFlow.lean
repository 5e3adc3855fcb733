/- Tables with hidden cells: sums, tables that fit, cuts, ways along which numbers are moved. Plain Lean. No conditions. -/
import Derived.Test.YtelcdjbbcffliaaTabFun
namespace Go.DC
/-- f 0 + .. + f (n - 1). -/
def sumN : Nat → (Nat → Int) → Int
  | 0, _ => 0
  | n + 1, f => sumN n f + f n
theorem sumN_congr {f g : Nat → Int} : ∀ {n : Nat}, (∀ k, k < n → f k = g k) → sumN n f = sumN n g
  | 0, _ => rfl
  | n + 1, h => by rw [sumN, sumN, sumN_congr (fun k hk => h k (by omega)), h n (by omega)]
theorem sumN_add (f g : Nat → Int) : ∀ n, sumN n (fun k => f k + g k) = sumN n f + sumN n g
  | 0 => rfl
  | n + 1 => by simp only [sumN, sumN_add f g n]; omega
theorem sumN_sub (f g : Nat → Int) : ∀ n, sumN n (fun k => f k - g k) = sumN n f - sumN n g
  | 0 => rfl
  | n + 1 => by simp only [sumN, sumN_sub f g n]; omega
theorem sumN_mul (c : Int) (f : Nat → Int) : ∀ n, sumN n (fun k => c * f k) = c * sumN n f
  | 0 => by simp [sumN]
  | n + 1 => by simp only [sumN, sumN_mul c f n, Int.mul_add]
theorem sumN_zero : ∀ n, sumN n (fun _ => 0) = 0
  | 0 => rfl
  | n + 1 => by simp only [sumN, sumN_zero n]; omega
theorem sumN_comm (F : Nat → Nat → Int) (m : Nat) : ∀ h, sumN h (fun i => sumN m (fun j => F i j)) = sumN m (fun j => sumN h (fun i => F i j))
  | 0 => by simp [sumN, sumN_zero]
  | h + 1 => by
    rw [sumN, sumN_comm F m h]
    simp only [sumN]
    rw [sumN_add]
theorem sumN_le {f g : Nat → Int} : ∀ {n : Nat}, (∀ k, k < n → f k ≤ g k) → sumN n f ≤ sumN n g
  | 0, _ => Int.le_refl _
  | n + 1, h => by
    have h1 := sumN_le (n := n) (fun k hk => h k (by omega))
    have h2 := h n (by omega)
    simp only [sumN]; omega
theorem sumN_nonneg {f : Nat → Int} {n : Nat} (h : ∀ k, k < n → 0 ≤ f k) : 0 ≤ sumN n f := by
  have := sumN_le (f := fun _ => 0) (g := f) h
  rwa [sumN_zero] at this
theorem sumN_single {f : Nat → Int} {k : Nat} : ∀ {n : Nat}, k < n → (∀ l, l < n → l ≠ k → f l = 0) → sumN n f = f k
  | 0, h, _ => absurd h (by omega)
  | n + 1, h, h0 => by
    by_cases e : k = n
    · subst e
      rw [sumN, sumN_congr (g := fun _ => 0) (fun l hl => h0 l (by omega) (by omega)), sumN_zero]; omega
    · rw [sumN, sumN_single (k := k) (by omega) (fun l hl => h0 l (by omega)), h0 n (by omega) (by omega)]; omega
theorem sumN_at {n k : Nat} (d : Int) (hk : k < n) : sumN n (fun l => if l = k then d else 0) = d := by
  rw [sumN_single hk (fun l _ hne => if_neg hne), if_pos rfl]
theorem sumN_bump {n k : Nat} (f : Nat → Int) (d : Int) (hk : k < n) : sumN n (fun l => if l = k then f l + d else f l) = sumN n f + d := by
  have h1 := sumN_add f (fun l => if l = k then d else 0) n
  rw [sumN_at d hk] at h1
  rw [← h1]
  exact sumN_congr fun l _ => by by_cases e : l = k <;> simp [e]
theorem sumN_off {n k : Nat} (f : Nat → Int) (hk : k < n) : sumN n (fun l => if l = k then 0 else f l) = sumN n f - f k := by
  have : sumN n (fun l => (if l = k then 0 else f l) + (if l = k then f k else 0)) = sumN n f := sumN_congr fun l _ => by by_cases e : l = k <;> simp [e]
  rw [sumN_add, sumN_at _ hk] at this
  omega
theorem le_sumN {n k : Nat} {f : Nat → Int} (hk : k < n) (h : ∀ l, l < n → l ≠ k → 0 ≤ f l) : f k ≤ sumN n f := by
  have h1 := sumN_off f hk
  have h2 : 0 ≤ sumN n (fun l => if l = k then 0 else f l) := sumN_nonneg fun l hl => by
    by_cases e : l = k
    · simp [e]
    · simpa [e] using h l hl e
  omega
theorem sumN_const (c : Int) : ∀ n : Nat, sumN n (fun _ => c) = n * c
  | 0 => by simp [sumN]
  | n + 1 => by rw [sumN, sumN_const c n, Int.natCast_succ, Int.add_mul]; omega
/-- A sum over a rectangle, of which all cells but one are at most 0. -/
theorem sum2_le_at {h m i j : Nat} {T : Nat → Nat → Int} (hi : i < h) (hj : j < m) (h0 : ∀ k l, k < h → l < m → ¬ (k = i ∧ l = j) → T k l ≤ 0) : sumN h (fun k => sumN m (T k)) ≤ T i j := by
  have h1 : sumN h (fun k => sumN m (T k)) ≤ sumN h (fun k => sumN m (fun l => if k = i ∧ l = j then T i j else 0)) := sumN_le fun k hk => sumN_le fun l hl => by
    by_cases e : k = i ∧ l = j
    · rw [if_pos e, e.1, e.2]; exact Int.le_refl _
    · rw [if_neg e]; exact h0 k l hk hl e
  have h2 : sumN h (fun k => sumN m (fun l => if k = i ∧ l = j then T i j else 0)) = T i j := by
    rw [sumN_single (k := i) hi (fun k _ hk => by rw [sumN_congr (g := fun _ => 0) (fun l _ => if_neg (fun e => hk e.1)), sumN_zero]), sumN_single (k := j) hj (fun l _ hl => if_neg (fun e => hl e.2)), if_pos ⟨rfl, rfl⟩]
  rw [h2] at h1
  exact h1

/-- x has f's sums and f's open cells, and no number of it is negative, but perhaps that of (i, j). -/
structure Near (h m : Nat) (f : Nat → Nat → Int) (b : Nat → Nat → Bool) (i j : Nat) (x : Nat → Nat → Int) : Prop where
  rows : ∀ k, k < h → sumN m (x k) = sumN m (f k)
  cols : ∀ l, l < m → sumN h (fun k => x k l) = sumN h (fun k => f k l)
  same : ∀ k l, k < h → l < m → b k l = false → x k l = f k l
  pos : ∀ k l, k < h → l < m → ¬ (k = i ∧ l = j) → 0 ≤ x k l
/-- The same, and no number is negative: x fits. -/
structure Fits (h m : Nat) (f : Nat → Nat → Int) (b : Nat → Nat → Bool) (x : Nat → Nat → Int) : Prop where
  rows : ∀ k, k < h → sumN m (x k) = sumN m (f k)
  cols : ∀ l, l < m → sumN h (fun k => x k l) = sumN h (fun k => f k l)
  same : ∀ k l, k < h → l < m → b k l = false → x k l = f k l
  pos : ∀ k l, k < h → l < m → 0 ≤ x k l
section
variable {h m : Nat} {f : Nat → Nat → Int} {b : Nat → Nat → Bool} {i j : Nat} {x y : Nat → Nat → Int}
theorem Fits.near (hx : Fits h m f b x) (i j : Nat) : Near h m f b i j x := ⟨hx.rows, hx.cols, hx.same, fun k l hk hl _ => hx.pos k l hk hl⟩
theorem Near.fits (hx : Near h m f b i j x) (h0 : 0 ≤ x i j) : Fits h m f b x := ⟨hx.rows, hx.cols, hx.same, fun k l hk hl => by
  by_cases e : k = i ∧ l = j
  · rw [e.1, e.2]; exact h0
  · exact hx.pos k l hk hl e⟩
theorem Fits.refl (h0 : ∀ k l, k < h → l < m → 0 ≤ f k l) : Fits h m f b f := ⟨fun _ _ => rfl, fun _ _ => rfl, fun _ _ _ _ _ => rfl, h0⟩
theorem Fits.mono {b' : Nat → Nat → Bool} (hx : Fits h m f b x) (hb : ∀ k l, k < h → l < m → b k l = true → b' k l = true) : Fits h m f b' x := ⟨hx.rows, hx.cols, fun k l hk hl e => hx.same k l hk hl (by
  cases e' : b k l with
  | false => rfl
  | true => rw [hb k l hk hl e'] at e; cases e), hx.pos⟩

def ind (c : Bool) : Int := if c then 1 else 0
theorem bal (hx : Near h m f b i j x) (hy : Near h m f b i j y) (R C : Nat → Bool) : sumN h (fun k => sumN m (fun l => (ind (R k) - ind (C l)) * (x k l - y k l))) = 0 := by
  have e1 : sumN h (fun k => sumN m (fun l => ind (R k) * (x k l - y k l))) = 0 := by
    rw [sumN_congr (g := fun _ => 0) (fun k hk => by rw [sumN_mul, sumN_sub, hx.rows k hk, hy.rows k hk, Int.sub_self, Int.mul_zero]), sumN_zero]
  have e2 : sumN h (fun k => sumN m (fun l => ind (C l) * (x k l - y k l))) = 0 := by
    rw [sumN_comm, sumN_congr (g := fun _ => 0) (fun l hl => by rw [sumN_mul, sumN_sub (fun k => x k l) (fun k => y k l), hx.cols l hl, hy.cols l hl, Int.sub_self, Int.mul_zero]), sumN_zero]
  have e3 : sumN h (fun k => sumN m (fun l => (ind (R k) - ind (C l)) * (x k l - y k l))) = sumN h (fun k => sumN m (fun l => ind (R k) * (x k l - y k l)) - sumN m (fun l => ind (C l) * (x k l - y k l))) :=
    sumN_congr fun k _ => by rw [← sumN_sub]; exact sumN_congr fun l _ => Int.sub_mul _ _ _
  rw [e3, sumN_sub (fun k => sumN m (fun l => ind (R k) * (x k l - y k l))), e1, e2]; rfl

/-- No way is left on which (i, j) could be raised (up) or lowered: rows R and columns C are reached. -/
structure Cut (h m : Nat) (b : Nat → Nat → Bool) (i j : Nat) (up : Bool) (x : Nat → Nat → Int) (R C : Nat → Bool) : Prop where
  row : R i = true
  col : C j = false
  out : ∀ k l, k < h → l < m → ¬ (k = i ∧ l = j) → b k l = true → R k = true → C l = false → up = true ∧ x k l = 0
  in_ : ∀ k l, k < h → l < m → ¬ (k = i ∧ l = j) → b k l = true → R k = false → C l = true → up = false ∧ x k l = 0
theorem cut_up {R C : Nat → Bool} (hi : i < h) (hj : j < m) (hx : Near h m f b i j x) (hy : Near h m f b i j y) (c : Cut h m b i j true x R C) : y i j ≤ x i j := by
  have h0 := sum2_le_at (T := fun k l => (ind (R k) - ind (C l)) * (x k l - y k l)) hi hj (fun k l hk hl hne => by
    cases hb : b k l with
    | false => rw [hx.same k l hk hl hb, hy.same k l hk hl hb, Int.sub_self, Int.mul_zero]; exact Int.le_refl _
    | true =>
      have hp := hy.pos k l hk hl hne
      cases hR : R k <;> cases hC : C l
      · simp [ind]
      · exact absurd (c.in_ k l hk hl hne hb hR hC).1 (by simp)
      · rw [(c.out k l hk hl hne hb hR hC).2]; simp [ind]; omega
      · simp [ind])
  rw [bal hx hy] at h0
  simp [c.row, c.col, ind] at h0
  omega
theorem cut_down {R C : Nat → Bool} (hi : i < h) (hj : j < m) (hx : Near h m f b i j x) (hy : Near h m f b i j y) (c : Cut h m b i j false x R C) : x i j ≤ y i j := by
  have h0 := sum2_le_at (T := fun k l => (ind (R k) - ind (C l)) * (y k l - x k l)) hi hj (fun k l hk hl hne => by
    cases hb : b k l with
    | false => rw [hx.same k l hk hl hb, hy.same k l hk hl hb, Int.sub_self, Int.mul_zero]; exact Int.le_refl _
    | true =>
      have hp := hy.pos k l hk hl hne
      cases hR : R k <;> cases hC : C l
      · simp [ind]
      · rw [(c.in_ k l hk hl hne hb hR hC).2]; simp [ind]; omega
      · exact absurd (c.out k l hk hl hne hb hR hC).1 (by simp)
      · simp [ind])
  rw [bal hy hx] at h0
  simp [c.row, c.col, ind] at h0
  omega

/-- A step between two places is open: rows are 0 .. h - 1, columns h .. h + m - 1. -/
def Open (h m : Nat) (b : Nat → Nat → Bool) (i j : Nat) (up : Bool) (x : Nat → Nat → Int) (u v : Nat) : Prop :=
  (u < h ∧ h ≤ v ∧ v < h + m ∧ b u (v - h) = true ∧ ¬ (u = i ∧ v - h = j) ∧ (up = true → 0 < x u (v - h))) ∨
  (h ≤ u ∧ u < h + m ∧ v < h ∧ b v (u - h) = true ∧ ¬ (v = i ∧ u - h = j) ∧ (up = false → 0 < x v (u - h)))

/-- Places that were reached from i, in their order, each with the one before it. -/
structure Way (n i : Nat) (E : Nat → Nat → Prop) (par : Nat → Nat) (q : List Nat) : Prop where
  zero : q[0]? = some i
  lt : ∀ u ∈ q, u < n
  nodup : q.Nodup
  from_ : ∀ s (hs : s < q.length), 0 < s → ∃ t, ∃ ht : t < q.length, t < s ∧ par q[s] = q[t] ∧ E q[t] q[s]

theorem nodup_len : ∀ {n : Nat} {q : List Nat}, q.Nodup → (∀ u ∈ q, u < n) → q.length ≤ n
  | 0, q, _, h => by
    cases q with
    | nil => simp
    | cons u q => exact absurd (h u (by simp)) (by omega)
  | n + 1, q, hn, h => by
    have h1 : (q.erase n).length ≤ n := nodup_len (hn.erase n) (fun u hu => by
      have := (hn.mem_erase_iff.1 hu)
      have := h u this.2
      omega)
    by_cases hm : n ∈ q
    · have := List.length_erase_of_mem hm
      omega
    · rw [List.erase_of_not_mem hm] at h1; omega
end
end Go.DC
