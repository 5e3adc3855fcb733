/- Tables with hidden cells: sums, tables that fit, cuts, ways along which numbers are moved. Plain laws, no conditions. -/
import Derived.Test.YtelcdjbbcffliaaOwn
/- Tables with hidden cells: sums, tables that fit, cuts, ways along which numbers are moved. Plain laws, no conditions. -/
namespace Go.DC
/-- f 0 + .. + f (n - 1). -/
def sumN : Nat → (Nat → Int) → Int
  | 0, _ => 0
  | n + 1, f => sumN n f + f n
theorem sumN_congr {f g : Nat → Int} : ∀ {n : Nat}, (∀ k, k < n → f k = g k) → sumN n f = sumN n g
  | 0, _ => rfl
  | n + 1, h => by rw [sumN, sumN, sumN_congr (fun k hk => h k (by omega)), h n (by omega)]
theorem sumN_add (f g : Nat → Int) : ∀ n, sumN n (fun k => f k + g k) = sumN n f + sumN n g
  | 0 => rfl
  | n + 1 => by simp only [sumN, sumN_add f g n]; omega
theorem sumN_sub (f g : Nat → Int) : ∀ n, sumN n (fun k => f k - g k) = sumN n f - sumN n g
  | 0 => rfl
  | n + 1 => by simp only [sumN, sumN_sub f g n]; omega
theorem sumN_mul (c : Int) (f : Nat → Int) : ∀ n, sumN n (fun k => c * f k) = c * sumN n f
  | 0 => by simp [sumN]
  | n + 1 => by simp only [sumN, sumN_mul c f n, Int.mul_add]
theorem sumN_zero : ∀ n, sumN n (fun _ => 0) = 0
  | 0 => rfl
  | n + 1 => by simp only [sumN, sumN_zero n]; omega
theorem sumN_comm (F : Nat → Nat → Int) (m : Nat) : ∀ h, sumN h (fun i => sumN m (fun j => F i j)) = sumN m (fun j => sumN h (fun i => F i j))
  | 0 => by simp [sumN, sumN_zero]
  | h + 1 => by
    rw [sumN, sumN_comm F m h]
    simp only [sumN]
    rw [sumN_add]
theorem sumN_le {f g : Nat → Int} : ∀ {n : Nat}, (∀ k, k < n → f k ≤ g k) → sumN n f ≤ sumN n g
  | 0, _ => Int.le_refl _
  | n + 1, h => by
    have h1 := sumN_le (n := n) (fun k hk => h k (by omega))
    have h2 := h n (by omega)
    simp only [sumN]; omega
theorem sumN_nonneg {f : Nat → Int} {n : Nat} (h : ∀ k, k < n → 0 ≤ f k) : 0 ≤ sumN n f := by
  have := sumN_le (f := fun _ => 0) (g := f) h
  rwa [sumN_zero] at this
theorem sumN_single {f : Nat → Int} {k : Nat} : ∀ {n : Nat}, k < n → (∀ l, l < n → l ≠ k → f l = 0) → sumN n f = f k
  | 0, h, _ => absurd h (by omega)
  | n + 1, h, h0 => by
    by_cases e : k = n
    · subst e
      rw [sumN, sumN_congr (g := fun _ => 0) (fun l hl => h0 l (by omega) (by omega)), sumN_zero]; omega
    · rw [sumN, sumN_single (k := k) (by omega) (fun l hl => h0 l (by omega)), h0 n (by omega) (by omega)]; omega
theorem sumN_at {n k : Nat} (d : Int) (hk : k < n) : sumN n (fun l => if l = k then d else 0) = d := by
  rw [sumN_single hk (fun l _ hne => if_neg hne), if_pos rfl]
theorem sumN_bump {n k : Nat} (f : Nat → Int) (d : Int) (hk : k < n) : sumN n (fun l => if l = k then f l + d else f l) = sumN n f + d := by
  have h1 := sumN_add f (fun l => if l = k then d else 0) n
  rw [sumN_at d hk] at h1
  rw [← h1]
  exact sumN_congr fun l _ => by by_cases e : l = k <;> simp [e]
theorem sumN_off {n k : Nat} (f : Nat → Int) (hk : k < n) : sumN n (fun l => if l = k then 0 else f l) = sumN n f - f k := by
  have : sumN n (fun l => (if l = k then 0 else f l) + (if l = k then f k else 0)) = sumN n f := sumN_congr fun l _ => by by_cases e : l = k <;> simp [e]
  rw [sumN_add, sumN_at _ hk] at this
  omega
theorem le_sumN {n k : Nat} {f : Nat → Int} (hk : k < n) (h : ∀ l, l < n → l ≠ k → 0 ≤ f l) : f k ≤ sumN n f := by
  have h1 := sumN_off f hk
  have h2 : 0 ≤ sumN n (fun l => if l = k then 0 else f l) := sumN_nonneg fun l hl => by
    by_cases e : l = k
    · simp [e]
    · simpa [e] using h l hl e
  omega
theorem sumN_const (c : Int) : ∀ n : Nat, sumN n (fun _ => c) = n * c
  | 0 => by simp [sumN]
  | n + 1 => by rw [sumN, sumN_const c n, Int.natCast_succ, Int.add_mul]; omega
/-- A sum over a rectangle, of which all cells but one are at most 0. -/
theorem sum2_le_at {h m i j : Nat} {T : Nat → Nat → Int} (hi : i < h) (hj : j < m) (h0 : ∀ k l, k < h → l < m → ¬ (k = i ∧ l = j) → T k l ≤ 0) : sumN h (fun k => sumN m (T k)) ≤ T i j := by
  have h1 : sumN h (fun k => sumN m (T k)) ≤ sumN h (fun k => sumN m (fun l => if k = i ∧ l = j then T i j else 0)) := sumN_le fun k hk => sumN_le fun l hl => by
    by_cases e : k = i ∧ l = j
    · rw [if_pos e, e.1, e.2]; exact Int.le_refl _
    · rw [if_neg e]; exact h0 k l hk hl e
  have h2 : sumN h (fun k => sumN m (fun l => if k = i ∧ l = j then T i j else 0)) = T i j := by
    rw [sumN_single (k := i) hi (fun k _ hk => by rw [sumN_congr (g := fun _ => 0) (fun l _ => if_neg (fun e => hk e.1)), sumN_zero]), sumN_single (k := j) hj (fun l _ hl => if_neg (fun e => hl e.2)), if_pos ⟨rfl, rfl⟩]
  rw [h2] at h1
  exact h1

/-- x has f's sums and f's open cells, and no number of it is negative, but perhaps that of (i, j). -/
structure Near (h m : Nat) (f : Nat → Nat → Int) (b : Nat → Nat → Bool) (i j : Nat) (x : Nat → Nat → Int) : Prop where
  rows : ∀ k, k < h → sumN m (x k) = sumN m (f k)
  cols : ∀ l, l < m → sumN h (fun k => x k l) = sumN h (fun k => f k l)
  same : ∀ k l, k < h → l < m → b k l = false → x k l = f k l
  pos : ∀ k l, k < h → l < m → ¬ (k = i ∧ l = j) → 0 ≤ x k l
/-- The same, and no number is negative: x fits. -/
structure Fits (h m : Nat) (f : Nat → Nat → Int) (b : Nat → Nat → Bool) (x : Nat → Nat → Int) : Prop where
  rows : ∀ k, k < h → sumN m (x k) = sumN m (f k)
  cols : ∀ l, l < m → sumN h (fun k => x k l) = sumN h (fun k => f k l)
  same : ∀ k l, k < h → l < m → b k l = false → x k l = f k l
  pos : ∀ k l, k < h → l < m → 0 ≤ x k l
section
variable {h m : Nat} {f : Nat → Nat → Int} {b : Nat → Nat → Bool} {i j : Nat} {x y : Nat → Nat → Int}
theorem Fits.near (hx : Fits h m f b x) (i j : Nat) : Near h m f b i j x := ⟨hx.rows, hx.cols, hx.same, fun k l hk hl _ => hx.pos k l hk hl⟩
theorem Near.fits (hx : Near h m f b i j x) (h0 : 0 ≤ x i j) : Fits h m f b x := ⟨hx.rows, hx.cols, hx.same, fun k l hk hl => by
  by_cases e : k = i ∧ l = j
  · rw [e.1, e.2]; exact h0
  · exact hx.pos k l hk hl e⟩
theorem Fits.refl (h0 : ∀ k l, k < h → l < m → 0 ≤ f k l) : Fits h m f b f := ⟨fun _ _ => rfl, fun _ _ => rfl, fun _ _ _ _ _ => rfl, h0⟩
theorem Fits.mono {b' : Nat → Nat → Bool} (hx : Fits h m f b x) (hb : ∀ k l, k < h → l < m → b k l = true → b' k l = true) : Fits h m f b' x := ⟨hx.rows, hx.cols, fun k l hk hl e => hx.same k l hk hl (by
  cases e' : b k l with
  | false => rfl
  | true => rw [hb k l hk hl e'] at e; cases e), hx.pos⟩

def ind (c : Bool) : Int := if c then 1 else 0
theorem bal (hx : Near h m f b i j x) (hy : Near h m f b i j y) (R C : Nat → Bool) : sumN h (fun k => sumN m (fun l => (ind (R k) - ind (C l)) * (x k l - y k l))) = 0 := by
  have e1 : sumN h (fun k => sumN m (fun l => ind (R k) * (x k l - y k l))) = 0 := by
    rw [sumN_congr (g := fun _ => 0) (fun k hk => by rw [sumN_mul, sumN_sub, hx.rows k hk, hy.rows k hk, Int.sub_self, Int.mul_zero]), sumN_zero]
  have e2 : sumN h (fun k => sumN m (fun l => ind (C l) * (x k l - y k l))) = 0 := by
    rw [sumN_comm, sumN_congr (g := fun _ => 0) (fun l hl => by rw [sumN_mul, sumN_sub (fun k => x k l) (fun k => y k l), hx.cols l hl, hy.cols l hl, Int.sub_self, Int.mul_zero]), sumN_zero]
  have e3 : sumN h (fun k => sumN m (fun l => (ind (R k) - ind (C l)) * (x k l - y k l))) = sumN h (fun k => sumN m (fun l => ind (R k) * (x k l - y k l)) - sumN m (fun l => ind (C l) * (x k l - y k l))) :=
    sumN_congr fun k _ => by rw [← sumN_sub]; exact sumN_congr fun l _ => Int.sub_mul _ _ _
  rw [e3, sumN_sub (fun k => sumN m (fun l => ind (R k) * (x k l - y k l))), e1, e2]; rfl

/-- No way is left on which (i, j) could be raised (up) or lowered: rows R and columns C are reached. -/
structure Cut (h m : Nat) (b : Nat → Nat → Bool) (i j : Nat) (up : Bool) (x : Nat → Nat → Int) (R C : Nat → Bool) : Prop where
  row : R i = true
  col : C j = false
  out : ∀ k l, k < h → l < m → ¬ (k = i ∧ l = j) → b k l = true → R k = true → C l = false → up = true ∧ x k l = 0
  in_ : ∀ k l, k < h → l < m → ¬ (k = i ∧ l = j) → b k l = true → R k = false → C l = true → up = false ∧ x k l = 0
theorem cut_up {R C : Nat → Bool} (hi : i < h) (hj : j < m) (hx : Near h m f b i j x) (hy : Near h m f b i j y) (c : Cut h m b i j true x R C) : y i j ≤ x i j := by
  have h0 := sum2_le_at (T := fun k l => (ind (R k) - ind (C l)) * (x k l - y k l)) hi hj (fun k l hk hl hne => by
    cases hb : b k l with
    | false => rw [hx.same k l hk hl hb, hy.same k l hk hl hb, Int.sub_self, Int.mul_zero]; exact Int.le_refl _
    | true =>
      have hp := hy.pos k l hk hl hne
      cases hR : R k <;> cases hC : C l
      · simp [ind]
      · exact absurd (c.in_ k l hk hl hne hb hR hC).1 (by simp)
      · rw [(c.out k l hk hl hne hb hR hC).2]; simp [ind]; omega
      · simp [ind])
  rw [bal hx hy] at h0
  simp [c.row, c.col, ind] at h0
  omega
theorem cut_down {R C : Nat → Bool} (hi : i < h) (hj : j < m) (hx : Near h m f b i j x) (hy : Near h m f b i j y) (c : Cut h m b i j false x R C) : x i j ≤ y i j := by
  have h0 := sum2_le_at (T := fun k l => (ind (R k) - ind (C l)) * (y k l - x k l)) hi hj (fun k l hk hl hne => by
    cases hb : b k l with
    | false => rw [hx.same k l hk hl hb, hy.same k l hk hl hb, Int.sub_self, Int.mul_zero]; exact Int.le_refl _
    | true =>
      have hp := hy.pos k l hk hl hne
      cases hR : R k <;> cases hC : C l
      · simp [ind]
      · rw [(c.in_ k l hk hl hne hb hR hC).2]; simp [ind]; omega
      · exact absurd (c.out k l hk hl hne hb hR hC).1 (by simp)
      · simp [ind])
  rw [bal hy hx] at h0
  simp [c.row, c.col, ind] at h0
  omega

/-- A step between two places is open: rows are 0 .. h - 1, columns h .. h + m - 1. -/
def Open (h m : Nat) (b : Nat → Nat → Bool) (i j : Nat) (up : Bool) (x : Nat → Nat → Int) (u v : Nat) : Prop :=
  (u < h ∧ h ≤ v ∧ v < h + m ∧ b u (v - h) = true ∧ ¬ (u = i ∧ v - h = j) ∧ (up = true → 0 < x u (v - h))) ∨
  (h ≤ u ∧ u < h + m ∧ v < h ∧ b v (u - h) = true ∧ ¬ (v = i ∧ u - h = j) ∧ (up = false → 0 < x v (u - h)))

/-- Places that were reached from i, in their order, each with the one before it. -/
structure Way (n i : Nat) (E : Nat → Nat → Prop) (par : Nat → Nat) (q : List Nat) : Prop where
  zero : q[0]? = some i
  lt : ∀ u ∈ q, u < n
  nodup : q.Nodup
  from_ : ∀ s (hs : s < q.length), 0 < s → ∃ t, ∃ ht : t < q.length, t < s ∧ par q[s] = q[t] ∧ E q[t] q[s]

theorem nodup_len : ∀ {n : Nat} {q : List Nat}, q.Nodup → (∀ u ∈ q, u < n) → q.length ≤ n
  | 0, q, _, h => by
    cases q with
    | nil => simp
    | cons u q => exact absurd (h u (by simp)) (by omega)
  | n + 1, q, hn, h => by
    have h1 : (q.erase n).length ≤ n := nodup_len (hn.erase n) (fun u hu => by
      have := (hn.mem_erase_iff.1 hu)
      have := h u this.2
      omega)
    by_cases hm : n ∈ q
    · have := List.length_erase_of_mem hm
      omega
    · rw [List.erase_of_not_mem hm] at h1; omega
end
end Go.DC

/- The greatest and the least number of a hidden cell among all tables that fit. Plain laws, no conditions. -/
namespace Go.DC
section
variable {h m : Nat} {f : Nat → Nat → Int} {b : Nat → Nat → Bool} {i j : Nat} {x y : Nat → Nat → Int}
/-- From the places that were reached no open step leads further. -/
def Closed (n : Nat) (E : Nat → Nat → Prop) (q : List Nat) : Prop := ∀ u ∈ q, ∀ v, v < n → E u v → v ∈ q
theorem Way.start {n i : Nat} {E : Nat → Nat → Prop} {par : Nat → Nat} {q : List Nat} (w : Way n i E par q) : i ∈ q := List.mem_of_getElem? w.zero
theorem cut_of_closed {up : Bool} {par : Nat → Nat} {q : List Nat} (hx : Near h m f b i j x) (w : Way (h + m) i (Open h m b i j up x) par q) (c : Closed (h + m) (Open h m b i j up x) q) (hj : h + j ∉ q) :
    Cut h m b i j up x (fun k => decide (k ∈ q)) (fun l => decide (h + l ∈ q)) := by
  refine ⟨by simpa using w.start, by simpa using hj, fun k l hk hl hne hb hR hC => ?_, fun k l hk hl hne hb hR hC => ?_⟩
  · have hR' : k ∈ q := by simpa using hR
    have hC' : h + l ∉ q := by simpa using hC
    have ho : (up = true → 0 < x k l) → False := fun hu => hC' (c k hR' (h + l) (by omega) (.inl ⟨hk, by omega, by omega, by rw [Nat.add_sub_cancel_left]; exact hb, by rw [Nat.add_sub_cancel_left]; exact hne, by rw [Nat.add_sub_cancel_left]; exact hu⟩))
    have hp := hx.pos k l hk hl hne
    cases up with
    | false => exact (ho (fun e => by cases e)).elim
    | true =>
      refine ⟨rfl, ?_⟩
      have : ¬ 0 < x k l := fun e => ho (fun _ => e)
      omega
  · have hR' : k ∉ q := by simpa using hR
    have hC' : h + l ∈ q := by simpa using hC
    have ho : (up = false → 0 < x k l) → False := fun hu => hR' (c (h + l) hC' k (by omega) (.inr ⟨by omega, by omega, hk, by rw [Nat.add_sub_cancel_left]; exact hb, by rw [Nat.add_sub_cancel_left]; exact hne, by rw [Nat.add_sub_cancel_left]; exact hu⟩))
    have hp := hx.pos k l hk hl hne
    cases up with
    | true => exact (ho (fun e => by cases e)).elim
    | false =>
      refine ⟨rfl, ?_⟩
      have : ¬ 0 < x k l := fun e => ho (fun _ => e)
      omega

/-- The cell of a step. -/
def cellR (u v : Nat) : Nat := min u v
def cellC (h u v : Nat) : Nat := max u v - h
theorem cell_row {h u v : Nat} (hu : u < h) (hv : h ≤ v) : cellR u v = u ∧ cellC h u v = v - h := ⟨by unfold cellR; omega, by unfold cellC; omega⟩
theorem cell_col {h u v : Nat} (hu : h ≤ u) (hv : v < h) : cellR u v = v ∧ cellC h u v = u - h := ⟨by unfold cellR; omega, by unfold cellC; omega⟩
theorem step_inj {h m i j u v u' v' : Nat} {b : Nat → Nat → Bool} {up : Bool} {y : Nat → Nat → Int} (hE : Open h m b i j up y u v) (hE' : Open h m b i j up y u' v') (e1 : cellR u' v' = cellR u v) (e2 : cellC h u' v' = cellC h u v) : (u' = u ∧ v' = v) ∨ (u' = v ∧ v' = u) := by
  rcases hE with ⟨h1, h2, _⟩ | ⟨h1, _, h2, _⟩
  · rw [(cell_row h1 h2).1] at e1; rw [(cell_row h1 h2).2] at e2
    rcases hE' with ⟨h3, h4, _⟩ | ⟨h3, _, h4, _⟩
    · rw [(cell_row h3 h4).1] at e1; rw [(cell_row h3 h4).2] at e2
      exact .inl ⟨e1, by omega⟩
    · rw [(cell_col h3 h4).1] at e1; rw [(cell_col h3 h4).2] at e2
      exact .inr ⟨by omega, e1⟩
  · rw [(cell_col h1 h2).1] at e1; rw [(cell_col h1 h2).2] at e2
    rcases hE' with ⟨h3, h4, _⟩ | ⟨h3, _, h4, _⟩
    · rw [(cell_row h3 h4).1] at e1; rw [(cell_row h3 h4).2] at e2
      exact .inr ⟨e1, by omega⟩
    · rw [(cell_col h3 h4).1] at e1; rw [(cell_col h3 h4).2] at e2
      exact .inl ⟨by omega, e1⟩
/-- A way is gone back: (i, j) has been changed by d, and so have the cells behind place p; row i has d too much, and place p still misses its change. -/
structure Back (h m : Nat) (f : Nat → Nat → Int) (b : Nat → Nat → Bool) (i j : Nat) (d : Int) (x X : Nat → Nat → Int) (p : Nat) : Prop where
  rows : ∀ k, k < h → sumN m (X k) = sumN m (f k) + (if k = i then d else 0) - (if k = p then d else 0)
  cols : ∀ l, l < m → sumN h (fun k => X k l) = sumN h (fun k => f k l) + (if h + l = p then d else 0)
  same : ∀ k l, k < h → l < m → b k l = false → X k l = f k l
  pos : ∀ k l, k < h → l < m → ¬ (k = i ∧ l = j) → 0 ≤ X k l
  own : X i j = x i j + d
theorem sum_upd_row {m k l : Nat} (X : Nat → Nat → Int) (z : Int) (hl : l < m) (k' : Nat) : sumN m (upd X k l (X k l + z) k') = sumN m (X k') + (if k' = k then z else 0) := by
  by_cases e : k' = k
  · subst e
    rw [if_pos rfl, ← sumN_bump (X k') z hl]
    refine sumN_congr fun l' _ => ?_
    unfold upd
    by_cases e2 : l' = l
    · subst e2; simp
    · simp [e2]
  · rw [if_neg e, Int.add_zero]
    refine sumN_congr fun l' _ => ?_
    unfold upd
    rw [if_neg (fun h => e h.1)]
theorem sum_upd_col {h k l : Nat} (X : Nat → Nat → Int) (z : Int) (hk : k < h) (l' : Nat) : sumN h (fun k' => upd X k l (X k l + z) k' l') = sumN h (fun k' => X k' l') + (if l' = l then z else 0) := by
  by_cases e : l' = l
  · subst e
    rw [if_pos rfl, ← sumN_bump (fun k' => X k' l') z hk]
    refine sumN_congr fun k' _ => ?_
    unfold upd
    by_cases e2 : k' = k
    · subst e2; simp
    · simp [e2]
  · rw [if_neg e, Int.add_zero]
    refine sumN_congr fun k' _ => ?_
    unfold upd
    rw [if_neg (fun h => e h.2)]
theorem Back.begin (hx : Near h m f b i j x) (hi : i < h) (hj : j < m) (hb : b i j = true) (d : Int) : Back h m f b i j d x (upd x i j (x i j + d)) (h + j) := by
  refine ⟨fun k hk => ?_, fun l hl => ?_, fun k l hk hl hf => ?_, fun k l hk hl hne => ?_, by simp [upd]⟩
  · rw [sum_upd_row x d hj, hx.rows k hk, if_neg (by omega : ¬ k = h + j), Int.sub_zero]
  · rw [sum_upd_col x d hi, hx.cols l hl]
    by_cases e : l = j
    · subst e; simp
    · rw [if_neg e, if_neg (by omega)]
  · have : ¬ (k = i ∧ l = j) := fun e => by rw [e.1, e.2, hb] at hf; cases hf
    unfold upd; rw [if_neg this]; exact hx.same k l hk hl hf
  · unfold upd; rw [if_neg hne]; exact hx.pos k l hk hl hne
theorem Back.done {d : Int} {X : Nat → Nat → Int} (hB : Back h m f b i j d x X i) (hi : i < h) : Near h m f b i j X :=
  ⟨fun k hk => by rw [hB.rows k hk]; omega, fun l hl => by rw [hB.cols l hl, if_neg (by omega), Int.add_zero], hB.same, hB.pos⟩
/-- One step back. -/
theorem Back.step {d : Int} {X : Nat → Nat → Int} {up : Bool} {u v : Nat} (hB : Back h m f b i j d x X v) (hE : Open h m b i j up y u v) (h0 : 0 ≤ X (cellR u v) (cellC h u v) + (if u < h then -d else d)) :
    Back h m f b i j d x (upd X (cellR u v) (cellC h u v) (X (cellR u v) (cellC h u v) + (if u < h then -d else d))) u := by
  rcases hE with ⟨hu, hv, hvm, hb, hne, _⟩ | ⟨hu, hum, hv, hb, hne, _⟩
  · have e1 : cellR u v = u := by unfold cellR; omega
    have e2 : cellC h u v = v - h := by unfold cellC; omega
    have hlm : v - h < m := by omega
    rw [e1, e2, if_pos hu] at h0 ⊢
    refine ⟨fun k hk => ?_, fun l hl => ?_, fun k l hk hl hf => ?_, fun k l hk hl hn => ?_, ?_⟩
    · rw [sum_upd_row X (-d) hlm, hB.rows k hk, if_neg (by omega : ¬ k = v)]
      by_cases e : k = u
      · rw [if_pos e, if_pos e]; omega
      · rw [if_neg e, if_neg e]; omega
    · rw [sum_upd_col X (-d) hu, hB.cols l hl, if_neg (by omega : ¬ h + l = u)]
      by_cases e : l = v - h
      · rw [if_pos e, if_pos (by omega)]; omega
      · rw [if_neg e, if_neg (by omega)]; omega
    · have : ¬ (k = u ∧ l = v - h) := fun e => by rw [e.1, e.2, hb] at hf; cases hf
      unfold upd; rw [if_neg this]; exact hB.same k l hk hl hf
    · unfold upd
      by_cases e : k = u ∧ l = v - h
      · rw [if_pos e]; exact h0
      · rw [if_neg e]; exact hB.pos k l hk hl hn
    · unfold upd
      rw [if_neg (fun e => hne ⟨e.1.symm, e.2.symm⟩)]; exact hB.own
  · have e1 : cellR u v = v := by unfold cellR; omega
    have e2 : cellC h u v = u - h := by unfold cellC; omega
    have hlm : u - h < m := by omega
    rw [e1, e2, if_neg (by omega : ¬ u < h)] at h0 ⊢
    refine ⟨fun k hk => ?_, fun l hl => ?_, fun k l hk hl hf => ?_, fun k l hk hl hn => ?_, ?_⟩
    · rw [sum_upd_row X d hlm, hB.rows k hk, if_neg (by omega : ¬ k = u)]
      by_cases e : k = v
      · rw [if_pos e]; omega
      · rw [if_neg e]; omega
    · rw [sum_upd_col X d hv, hB.cols l hl, if_neg (by omega : ¬ h + l = v)]
      by_cases e : l = u - h
      · rw [if_pos e, if_pos (by omega)]; omega
      · rw [if_neg e, if_neg (by omega)]; omega
    · have : ¬ (k = v ∧ l = u - h) := fun e => by rw [e.1, e.2, hb] at hf; cases hf
      unfold upd; rw [if_neg this]; exact hB.same k l hk hl hf
    · unfold upd
      by_cases e : k = v ∧ l = u - h
      · rw [if_pos e]; exact h0
      · rw [if_neg e]; exact hB.pos k l hk hl hn
    · unfold upd
      rw [if_neg (fun e => hne ⟨e.1.symm, e.2.symm⟩)]; exact hB.own

/-- The cells of the steps to the first s + 1 places are as they were. -/
def Old (h : Nat) (q : List Nat) (s : Nat) (x X : Nat → Nat → Int) (E : Nat → Nat → Prop) : Prop :=
  ∀ s' (hs : s' < q.length) t' (ht : t' < q.length), s' ≤ s → t' < s' → E q[t'] q[s'] → X (cellR q[t'] q[s']) (cellC h q[t'] q[s']) = x (cellR q[t'] q[s']) (cellC h q[t'] q[s'])
theorem Old.begin {up : Bool} (q : List Nat) (s : Nat) (z : Int) : Old h q s x (upd x i j z) (Open h m b i j up y) := fun s' hs t' ht _ _ hE => by
  unfold upd
  rw [if_neg]
  rintro ⟨e1, e2⟩
  rcases hE with ⟨hu, hv, _, _, hne, _⟩ | ⟨hu, _, hv, _, hne, _⟩
  · exact hne ⟨by unfold cellR at e1; omega, by unfold cellC at e2; omega⟩
  · exact hne ⟨by unfold cellR at e1; omega, by unfold cellC at e2; omega⟩
theorem Old.step {up : Bool} {X : Nat → Nat → Int} {q : List Nat} {s t : Nat} (hq : q.Nodup) (hs : s < q.length) (ht : t < q.length) (hts : t < s) (hE : Open h m b i j up y q[t] q[s]) (z : Int) (o : Old h q s x X (Open h m b i j up y)) :
    Old h q t x (upd X (cellR q[t] q[s]) (cellC h q[t] q[s]) z) (Open h m b i j up y) := fun s' hs' t' ht' hst htt hE' => by
  rw [← o s' hs' t' ht' (by omega) htt hE']
  unfold upd
  rw [if_neg]
  rintro ⟨e1, e2⟩
  have inj : ∀ a c (ha : a < q.length) (hc : c < q.length), a < c → q[a] ≠ q[c] := fun a c ha hc e => List.pairwise_iff_getElem.1 hq a c ha hc e
  rcases step_inj hE hE' e1 e2 with ⟨_, e⟩ | ⟨e, _⟩
  · exact inj s' s hs' hs (by omega) e
  · exact inj t' s ht' hs (by omega) e

/-- A way to (i, j)'s column changes (i, j) by one. -/
theorem augment {up : Bool} {par : Nat → Nat} {q : List Nat} (hx : Near h m f b i j x) (hi : i < h) (hj : j < m) (hb : b i j = true) (w : Way (h + m) i (Open h m b i j up x) par q) (hq : h + j ∈ q) :
    ∃ X, Near h m f b i j X ∧ X i j = x i j + (if up then 1 else -1) := by
  obtain ⟨s, hs, es⟩ := List.getElem_of_mem hq
  have main : ∀ s (hs : s < q.length) X, Back h m f b i j (if up then 1 else -1) x X q[s] → Old h q s x X (Open h m b i j up x) → ∃ X, Back h m f b i j (if up then 1 else -1) x X i := fun s => by
    induction s using Nat.strongRecOn with
    | _ s ih =>
      intro hs X hB hO
      by_cases e : s = 0
      · subst e
        have : q[0] = i := by have := w.zero; rw [List.getElem?_eq_getElem hs] at this; exact Option.some.inj this
        exact ⟨X, this ▸ hB⟩
      · obtain ⟨t, ht, hts, _, hE⟩ := w.from_ s hs (by omega)
        have hold := hO s hs t ht (Nat.le_refl _) hts hE
        refine ih t hts ht _ (hB.step hE ?_) (hO.step w.nodup hs ht hts hE _)
        rw [hold]
        rcases hE with ⟨hu, hv, hvm, _, hne, hp⟩ | ⟨hu, hum, hv, _, hne, hp⟩
        · have e1 : cellR q[t] q[s] = q[t] := by unfold cellR; omega
          have e2 : cellC h q[t] q[s] = q[s] - h := by unfold cellC; omega
          have h0 := hx.pos q[t] (q[s] - h) hu (by omega) hne
          rw [e1, e2, if_pos hu]
          cases up with
          | true => have := hp rfl; simp; omega
          | false => simp; omega
        · have e1 : cellR q[t] q[s] = q[s] := by unfold cellR; omega
          have e2 : cellC h q[t] q[s] = q[t] - h := by unfold cellC; omega
          have h0 := hx.pos q[s] (q[t] - h) hv (by omega) hne
          rw [e1, e2, if_neg (by omega)]
          cases up with
          | true => simp; omega
          | false => have := hp rfl; simp; omega
  obtain ⟨X, hB⟩ := main s hs (upd x i j (x i j + (if up then 1 else -1))) (es ▸ Back.begin hx hi hj hb _) (Old.begin q s _)
  exact ⟨X, hB.done hi, hB.own⟩
/-- Some way can not be made longer. -/
theorem way_closed {n i : Nat} (E : Nat → Nat → Prop) (hi : i < n) : ∃ par q, Way n i E par q ∧ Closed n E q := by
  have main : ∀ k par q, Way n i E par q → n - q.length ≤ k → ∃ par q, Way n i E par q ∧ Closed n E q := fun k => by
    induction k with
    | zero =>
      intro par q w hk
      refine ⟨par, q, w, fun u hu v hv hE => ?_⟩
      -- all places are reached
      refine Classical.byContradiction fun hn => ?_
      have h1 := nodup_len (n := n) (q := q ++ [v]) (by rw [List.nodup_append]; exact ⟨w.nodup, by simp, fun a ha c hc e => by rw [List.mem_singleton.1 hc] at e; exact hn (e ▸ ha)⟩) (fun a ha => by
        rcases List.mem_append.1 ha with h | h
        · exact w.lt a h
        · rw [List.mem_singleton.1 h]; exact hv)
      rw [List.length_append] at h1
      have : [v].length = 1 := rfl
      omega
    | succ k ih =>
      intro par q w hk
      by_cases hc : Closed n E q
      · exact ⟨par, q, w, hc⟩
      · unfold Closed at hc
        simp only [Classical.not_forall] at hc
        obtain ⟨u, hu, v, hv, hE, hn⟩ := hc
        refine ih (fun p => if p = v then u else par p) (q ++ [v]) ⟨?_, fun a ha => ?_, ?_, fun s hs h0 => ?_⟩ (by rw [List.length_append]; have : [v].length = 1 := rfl; omega)
        · have hz := w.zero
          have h0 : 0 < q.length := (List.getElem?_eq_some_iff.1 hz).1
          rw [List.getElem?_append_left h0]; exact hz
        · rcases List.mem_append.1 ha with h | h
          · exact w.lt a h
          · rw [List.mem_singleton.1 h]; exact hv
        · rw [List.nodup_append]; exact ⟨w.nodup, by simp, fun a ha c hc e => by rw [List.mem_singleton.1 hc] at e; exact hn (e ▸ ha)⟩
        · by_cases e : s < q.length
          · obtain ⟨t, ht, hts, hp, hE'⟩ := w.from_ s e h0
            refine ⟨t, by rw [List.length_append]; omega, hts, ?_, ?_⟩
            · rw [List.getElem_append_left e, List.getElem_append_left ht]
              have : ¬ q[s] = v := fun x => hn (x ▸ List.getElem_mem e)
              rw [if_neg this]; exact hp
            · rw [List.getElem_append_left e, List.getElem_append_left ht]; exact hE'
          · have es : s = q.length := by rw [List.length_append] at hs; have : [v].length = 1 := rfl; omega
            subst es
            obtain ⟨t, ht, et⟩ := List.getElem_of_mem hu
            refine ⟨t, by rw [List.length_append]; omega, ht, ?_, ?_⟩
            · simp [List.getElem_append_left ht, et]
            · simp [List.getElem_append_left ht, et, hE]
  refine main n (fun p => p) [i] ⟨rfl, fun u hu => by rw [List.mem_singleton.1 hu]; exact hi, by simp, fun s hs h0 => ?_⟩ (by omega)
  have : s < 1 := hs
  omega

theorem Near.le_row (hx : Near h m f b i j x) (hi : i < h) (hj : j < m) : x i j ≤ sumN m (f i) := by
  rw [← hx.rows i hi]
  exact le_sumN (f := x i) hj (fun l hl hne => hx.pos i l hi hl (fun e => hne e.2))
/-- Every other cell is at most one of its sums. -/
theorem Near.le_other (hx : Near h m f b i j x) {k l : Nat} (hk : k < h) (hl : l < m) (hne : ¬ (k = i ∧ l = j)) : x k l ≤ sumN m (f k) ∨ x k l ≤ sumN h (fun k => f k l) := by
  by_cases e : k = i
  · right
    rw [← hx.cols l hl]
    exact le_sumN (f := fun k => x k l) hk (fun k' hk' _ => hx.pos k' l hk' hl (fun e2 => hne ⟨e, e2.2⟩))
  · left
    rw [← hx.rows k hk]
    exact le_sumN (f := x k) hl (fun l' hl' _ => hx.pos k l' hk hl' (fun e2 => e e2.1))
theorem Near.ge_tot (hx : Near h m f b i j x) (h0 : ∀ k l, k < h → l < m → 0 ≤ f k l) (hi : i < h) (hj : j < m) : -(sumN m (fun l => sumN h (fun k => f k l))) ≤ x i j := by
  have h1 : sumN m (x i) ≤ sumN m (fun l => (if l = j then x i j else 0) + sumN h (fun k => f k l)) := sumN_le fun l hl => by
    have hc0 : 0 ≤ sumN h (fun k => f k l) := sumN_nonneg fun k hk => h0 k l hk hl
    by_cases e : l = j
    · subst e; rw [if_pos rfl]; omega
    · rw [if_neg e, Int.zero_add, ← hx.cols l hl]
      exact le_sumN (f := fun k => x k l) hi (fun k' hk' _ => hx.pos k' l hk' hl (fun e2 => e e2.2))
  rw [sumN_add, sumN_at _ hj, hx.rows i hi] at h1
  have h2 : 0 ≤ sumN m (f i) := sumN_nonneg fun l hl => h0 i l hi hl
  omega

/-- v is the greatest (least) number of (i, j), if it may be negative. -/
def IsHigh (h m : Nat) (f : Nat → Nat → Int) (b : Nat → Nat → Bool) (i j : Nat) (v : Int) : Prop := ∃ x R C, Near h m f b i j x ∧ x i j = v ∧ Cut h m b i j true x R C
def IsLow (h m : Nat) (f : Nat → Nat → Int) (b : Nat → Nat → Bool) (i j : Nat) (v : Int) : Prop := ∃ x R C, Near h m f b i j x ∧ x i j = v ∧ Cut h m b i j false x R C
theorem IsHigh.uniq {v v' : Int} (hi : i < h) (hj : j < m) (a : IsHigh h m f b i j v) (c : IsHigh h m f b i j v') : v = v' := by
  obtain ⟨x, R, C, hx, rfl, k⟩ := a
  obtain ⟨y, R', C', hy, rfl, k'⟩ := c
  have h1 := cut_up hi hj hx hy k
  have h2 := cut_up hi hj hy hx k'
  omega
theorem IsLow.uniq {v v' : Int} (hi : i < h) (hj : j < m) (a : IsLow h m f b i j v) (c : IsLow h m f b i j v') : v = v' := by
  obtain ⟨x, R, C, hx, rfl, k⟩ := a
  obtain ⟨y, R', C', hy, rfl, k'⟩ := c
  have h1 := cut_down hi hj hx hy k
  have h2 := cut_down hi hj hy hx k'
  omega
theorem high_ex (h0 : ∀ k l, k < h → l < m → 0 ≤ f k l) (hi : i < h) (hj : j < m) (hb : b i j = true) : ∃ v, IsHigh h m f b i j v := by
  have main : ∀ k x, Near h m f b i j x → (sumN m (f i) - x i j).toNat ≤ k → ∃ v, IsHigh h m f b i j v := fun k => by
    induction k with
    | zero =>
      intro x hx hk
      obtain ⟨par, q, w, c⟩ := way_closed (Open h m b i j true x) (show i < h + m by omega)
      by_cases hq : h + j ∈ q
      · obtain ⟨X, hX, e⟩ := augment hx hi hj hb w hq
        have := hX.le_row hi hj
        simp at e; omega
      · exact ⟨_, x, _, _, hx, rfl, cut_of_closed hx w c hq⟩
    | succ k ih =>
      intro x hx hk
      obtain ⟨par, q, w, c⟩ := way_closed (Open h m b i j true x) (show i < h + m by omega)
      by_cases hq : h + j ∈ q
      · obtain ⟨X, hX, e⟩ := augment hx hi hj hb w hq
        have := hX.le_row hi hj
        refine ih X hX ?_
        simp at e; omega
      · exact ⟨_, x, _, _, hx, rfl, cut_of_closed hx w c hq⟩
  exact main _ f ((Fits.refl h0).near i j) (Nat.le_refl _)
theorem low_ex (h0 : ∀ k l, k < h → l < m → 0 ≤ f k l) (hi : i < h) (hj : j < m) (hb : b i j = true) : ∃ v, IsLow h m f b i j v := by
  have main : ∀ k x, Near h m f b i j x → (x i j + sumN m (fun l => sumN h (fun k => f k l))).toNat ≤ k → ∃ v, IsLow h m f b i j v := fun k => by
    induction k with
    | zero =>
      intro x hx hk
      obtain ⟨par, q, w, c⟩ := way_closed (Open h m b i j false x) (show i < h + m by omega)
      by_cases hq : h + j ∈ q
      · obtain ⟨X, hX, e⟩ := augment hx hi hj hb w hq
        have := hX.ge_tot h0 hi hj
        simp at e; omega
      · exact ⟨_, x, _, _, hx, rfl, cut_of_closed hx w c hq⟩
    | succ k ih =>
      intro x hx hk
      obtain ⟨par, q, w, c⟩ := way_closed (Open h m b i j false x) (show i < h + m by omega)
      by_cases hq : h + j ∈ q
      · obtain ⟨X, hX, e⟩ := augment hx hi hj hb w hq
        have := hX.ge_tot h0 hi hj
        refine ih X hX ?_
        simp at e; omega
      · exact ⟨_, x, _, _, hx, rfl, cut_of_closed hx w c hq⟩
  exact main _ f ((Fits.refl h0).near i j) (Nat.le_refl _)
/-- Some table that fits has the least number that is not negative. -/
theorem low_fit (h0 : ∀ k l, k < h → l < m → 0 ≤ f k l) (hi : i < h) (hj : j < m) (hb : b i j = true) : ∃ x, Near h m f b i j x ∧ 0 ≤ x i j ∧ (x i j = 0 ∨ ∃ R C, Cut h m b i j false x R C) := by
  have main : ∀ (k : Nat) x, Near h m f b i j x → x i j = k → ∃ x, Near h m f b i j x ∧ 0 ≤ x i j ∧ (x i j = 0 ∨ ∃ R C, Cut h m b i j false x R C) := fun k => by
    induction k with
    | zero => intro x hx hk; exact ⟨x, hx, by omega, .inl (by omega)⟩
    | succ k ih =>
      intro x hx hk
      obtain ⟨par, q, w, c⟩ := way_closed (Open h m b i j false x) (show i < h + m by omega)
      by_cases hq : h + j ∈ q
      · obtain ⟨X, hX, e⟩ := augment hx hi hj hb w hq
        refine ih X hX ?_
        simp at e; omega
      · exact ⟨x, hx, by omega, .inr ⟨_, _, cut_of_closed hx w c hq⟩⟩
  have hf := h0 i j hi hj
  exact main (f i j).toNat f ((Fits.refl h0).near i j) (by omega)

/-- The bounds of a cell. -/
noncomputable def high (h m : Nat) (f : Nat → Nat → Int) (b : Nat → Nat → Bool) (i j : Nat) : Int := if b i j then Classical.epsilon (IsHigh h m f b i j) else f i j
noncomputable def lowN (h m : Nat) (f : Nat → Nat → Int) (b : Nat → Nat → Bool) (i j : Nat) : Int := Classical.epsilon (IsLow h m f b i j)
noncomputable def low (h m : Nat) (f : Nat → Nat → Int) (b : Nat → Nat → Bool) (i j : Nat) : Int := if b i j then max 0 (lowN h m f b i j) else f i j
theorem high_is (h0 : ∀ k l, k < h → l < m → 0 ≤ f k l) (hi : i < h) (hj : j < m) (hb : b i j = true) : IsHigh h m f b i j (high h m f b i j) := by
  unfold high; rw [if_pos hb]; exact Classical.epsilon_spec (high_ex h0 hi hj hb)
theorem lowN_is (h0 : ∀ k l, k < h → l < m → 0 ≤ f k l) (hi : i < h) (hj : j < m) (hb : b i j = true) : IsLow h m f b i j (lowN h m f b i j) :=
  Classical.epsilon_spec (low_ex h0 hi hj hb)
theorem high_eq {v : Int} (hi : i < h) (hj : j < m) (hb : b i j = true) (hv : IsHigh h m f b i j v) : high h m f b i j = v := by
  have : IsHigh h m f b i j (high h m f b i j) := by unfold high; rw [if_pos hb]; exact Classical.epsilon_spec ⟨v, hv⟩
  exact this.uniq hi hj hv
theorem lowN_eq {v : Int} (hi : i < h) (hj : j < m) (hv : IsLow h m f b i j v) : lowN h m f b i j = v :=
  IsLow.uniq hi hj (Classical.epsilon_spec ⟨v, hv⟩) hv
theorem low_eqN {v : Int} (hi : i < h) (hj : j < m) (hb : b i j = true) (hv : IsLow h m f b i j v) : low h m f b i j = max 0 v := by
  unfold low; rw [if_pos hb, lowN_eq hi hj hv]
theorem low_eq (h0 : ∀ k l, k < h → l < m → 0 ≤ f k l) (hi : i < h) (hj : j < m) (hb : b i j = true) (hx : Near h m f b i j x) (hx0 : 0 ≤ x i j) (hc : x i j = 0 ∨ ∃ R C, Cut h m b i j false x R C) : low h m f b i j = x i j := by
  rcases hc with hc | ⟨R, C, hc⟩
  · obtain ⟨y, R, C, hy, e, k⟩ := lowN_is h0 hi hj hb
    have := cut_down hi hj hy hx k
    unfold low; rw [if_pos hb, ← e]; omega
  · rw [low_eqN hi hj hb ⟨x, R, C, hx, rfl, hc⟩]; omega
theorem high_max (h0 : ∀ k l, k < h → l < m → 0 ≤ f k l) (hi : i < h) (hj : j < m) (hy : Fits h m f b y) : y i j ≤ high h m f b i j := by
  cases hb : b i j with
  | true =>
    obtain ⟨x, R, C, hx, e, k⟩ := high_is h0 hi hj hb
    rw [← e]
    exact cut_up hi hj hx (hy.near i j) k
  | false => unfold high; rw [hb, hy.same i j hi hj hb]; simp
theorem high_at (h0 : ∀ k l, k < h → l < m → 0 ≤ f k l) (hi : i < h) (hj : j < m) : ∃ x, Fits h m f b x ∧ x i j = high h m f b i j := by
  cases hb : b i j with
  | true =>
    obtain ⟨x, R, C, hx, e, k⟩ := high_is h0 hi hj hb
    have h1 := cut_up hi hj hx ((Fits.refl h0).near i j) k
    have h2 := h0 i j hi hj
    exact ⟨x, hx.fits (by omega), e⟩
  | false => exact ⟨f, Fits.refl h0, by unfold high; rw [hb]; simp⟩
theorem low_min (h0 : ∀ k l, k < h → l < m → 0 ≤ f k l) (hi : i < h) (hj : j < m) (hy : Fits h m f b y) : low h m f b i j ≤ y i j := by
  cases hb : b i j with
  | true =>
    obtain ⟨x, R, C, hx, e, k⟩ := lowN_is h0 hi hj hb
    have h1 := cut_down hi hj hx (hy.near i j) k
    have h2 := hy.pos i j hi hj
    unfold low; rw [if_pos hb, ← e]; omega
  | false => unfold low; rw [hb, hy.same i j hi hj hb]; simp
theorem low_at (h0 : ∀ k l, k < h → l < m → 0 ≤ f k l) (hi : i < h) (hj : j < m) : ∃ x, Fits h m f b x ∧ x i j = low h m f b i j := by
  cases hb : b i j with
  | true =>
    obtain ⟨x, hx, hx0, hc⟩ := low_fit h0 hi hj hb
    exact ⟨x, hx.fits hx0, (low_eq h0 hi hj hb hx hx0 hc).symm⟩
  | false => exact ⟨f, Fits.refl h0, by unfold low; rw [hb]; simp⟩
/-- What determines the bounds. -/
theorem high_uniq {v : Int} (h0 : ∀ k l, k < h → l < m → 0 ≤ f k l) (hi : i < h) (hj : j < m) (h1 : ∃ x, Fits h m f b x ∧ x i j = v) (h2 : ∀ y, Fits h m f b y → y i j ≤ v) : high h m f b i j = v := by
  obtain ⟨x, hx, e⟩ := h1
  obtain ⟨y, hy, e'⟩ := high_at (b := b) h0 hi hj
  have a1 := high_max h0 hi hj hx
  have a2 := h2 y hy
  omega
theorem low_uniq {v : Int} (h0 : ∀ k l, k < h → l < m → 0 ≤ f k l) (hi : i < h) (hj : j < m) (h1 : ∃ x, Fits h m f b x ∧ x i j = v) (h2 : ∀ y, Fits h m f b y → v ≤ y i j) : low h m f b i j = v := by
  obtain ⟨x, hx, e⟩ := h1
  obtain ⟨y, hy, e'⟩ := low_at (b := b) h0 hi hj
  have a1 := low_min h0 hi hj hx
  have a2 := h2 y hy
  omega
end
end Go.DC

/- Laws on the bounds of hidden cells. Plain laws, no conditions. -/
namespace Go.DC
section
variable {h m : Nat} {f g : Nat → Nat → Int} {b b' : Nat → Nat → Bool} {i j : Nat} {x y : Nat → Nat → Int}
def Pos (h m : Nat) (f : Nat → Nat → Int) : Prop := ∀ k l, k < h → l < m → 0 ≤ f k l
/-- Bounds hang on the tables that fit alone. -/
theorem high_same (h0 : Pos h m f) (h1 : Pos h m g) (hi : i < h) (hj : j < m) (e : ∀ x, Fits h m f b x ↔ Fits h m g b' x) : high h m f b i j = high h m g b' i j := by
  obtain ⟨x, hx, ex⟩ := high_at (b := b') h1 hi hj
  exact high_uniq h0 hi hj ⟨x, (e x).2 hx, ex⟩ (fun y hy => high_max h1 hi hj ((e y).1 hy))
theorem low_same (h0 : Pos h m f) (h1 : Pos h m g) (hi : i < h) (hj : j < m) (e : ∀ x, Fits h m f b x ↔ Fits h m g b' x) : low h m f b i j = low h m g b' i j := by
  obtain ⟨x, hx, ex⟩ := low_at (b := b') h1 hi hj
  exact low_uniq h0 hi hj ⟨x, (e x).2 hx, ex⟩ (fun y hy => low_min h1 hi hj ((e y).1 hy))
theorem high_ge (h0 : Pos h m f) (hi : i < h) (hj : j < m) : f i j ≤ high h m f b i j := high_max h0 hi hj (Fits.refl h0)
theorem low_le (h0 : Pos h m f) (hi : i < h) (hj : j < m) : low h m f b i j ≤ f i j := low_min h0 hi hj (Fits.refl h0)
theorem low_pos (h0 : Pos h m f) (hi : i < h) (hj : j < m) : 0 ≤ low h m f b i j := by
  obtain ⟨x, hx, e⟩ := low_at (b := b) h0 hi hj
  rw [← e]; exact hx.pos i j hi hj
/-- More hidden cells, wider bounds. -/
theorem high_mono (h0 : Pos h m f) (hi : i < h) (hj : j < m) (hb : ∀ k l, k < h → l < m → b k l = true → b' k l = true) : high h m f b i j ≤ high h m f b' i j := by
  obtain ⟨x, hx, e⟩ := high_at (b := b) h0 hi hj
  rw [← e]; exact high_max h0 hi hj (hx.mono hb)
theorem low_mono (h0 : Pos h m f) (hi : i < h) (hj : j < m) (hb : ∀ k l, k < h → l < m → b k l = true → b' k l = true) : low h m f b' i j ≤ low h m f b i j := by
  obtain ⟨x, hx, e⟩ := low_at (b := b) h0 hi hj
  rw [← e]; exact low_min h0 hi hj (hx.mono hb)
theorem Fits.turn (hx : Fits h m f b x) : Fits m h (fun a c => f c a) (fun a c => b c a) (fun a c => x c a) :=
  ⟨fun k hk => hx.cols k hk, fun l hl => hx.rows l hl, fun k l hk hl e => hx.same l k hl hk e, fun k l hk hl => hx.pos l k hl hk⟩
theorem high_turn (h0 : Pos h m f) (hi : i < h) (hj : j < m) : high m h (fun a c => f c a) (fun a c => b c a) j i = high h m f b i j := by
  obtain ⟨x, hx, e⟩ := high_at (b := b) h0 hi hj
  exact high_uniq (fun k l hk hl => h0 l k hl hk) hj hi ⟨_, hx.turn, e⟩ (fun y hy => high_max h0 hi hj hy.turn)
theorem low_turn (h0 : Pos h m f) (hi : i < h) (hj : j < m) : low m h (fun a c => f c a) (fun a c => b c a) j i = low h m f b i j := by
  obtain ⟨x, hx, e⟩ := low_at (b := b) h0 hi hj
  exact low_uniq (fun k l hk hl => h0 l k hl hk) hj hi ⟨_, hx.turn, e⟩ (fun y hy => low_min h0 hi hj hy.turn)
theorem Near.twice (hx : Near h m f b i j x) : Near h m (fun k l => 2 * f k l) b i j (fun k l => 2 * x k l) := by
  refine ⟨fun k hk => ?_, fun l hl => ?_, fun k l hk hl e => by rw [hx.same k l hk hl e], fun k l hk hl hne => by have := hx.pos k l hk hl hne; show 0 ≤ 2 * x k l; omega⟩
  · rw [sumN_mul 2 (x k), sumN_mul 2 (f k), hx.rows k hk]
  · rw [sumN_mul 2 (fun k => x k l), sumN_mul 2 (fun k => f k l), hx.cols l hl]
theorem Cut.twice {up : Bool} {R C : Nat → Bool} (c : Cut h m b i j up x R C) : Cut h m b i j up (fun k l => 2 * x k l) R C :=
  ⟨c.row, c.col, fun k l hk hl hne hb hR hC => ⟨(c.out k l hk hl hne hb hR hC).1, by rw [(c.out k l hk hl hne hb hR hC).2]; rfl⟩, fun k l hk hl hne hb hR hC => ⟨(c.in_ k l hk hl hne hb hR hC).1, by rw [(c.in_ k l hk hl hne hb hR hC).2]; rfl⟩⟩
theorem high_twice (h0 : Pos h m f) (hi : i < h) (hj : j < m) : high h m (fun k l => 2 * f k l) b i j = 2 * high h m f b i j := by
  cases hb : b i j with
  | true =>
    obtain ⟨x, R, C, hx, e, c⟩ := high_is h0 hi hj hb
    rw [← e]
    exact high_eq hi hj hb ⟨_, R, C, hx.twice, rfl, c.twice⟩
  | false => unfold high; rw [hb]; rfl
theorem low_twice (h0 : Pos h m f) (hi : i < h) (hj : j < m) : low h m (fun k l => 2 * f k l) b i j = 2 * low h m f b i j := by
  cases hb : b i j with
  | true =>
    obtain ⟨x, R, C, hx, e, c⟩ := lowN_is h0 hi hj hb
    have h1 : low h m f b i j = max 0 (x i j) := by unfold low; rw [if_pos hb, ← e]
    rw [h1, low_eqN hi hj hb ⟨_, R, C, hx.twice, rfl, c.twice⟩]
    omega
  | false => unfold low; rw [hb]; rfl
/-- All is hidden. -/
theorem high_all (h0 : Pos h m f) (hi : i < h) (hj : j < m) : high h m f (fun _ _ => true) i j = min (sumN m (f i)) (sumN h (fun k => f k j)) := by
  obtain ⟨x, R, C, hx, e, c⟩ := high_is (b := fun _ _ => true) h0 hi hj rfl
  have hu1 := hx.le_row hi hj
  have hu2 : x i j ≤ sumN h (fun k => f k j) := by
    rw [← hx.cols j hj]
    exact le_sumN (f := fun k => x k j) hi (fun k hk hne => hx.pos k j hk hj (fun e => hne e.1))
  rw [← e]
  by_cases hC : ∃ l, l < m ∧ C l = true
  · obtain ⟨l, hl, hCl⟩ := hC
    have hlj : l ≠ j := fun e => by rw [e, c.col] at hCl; cases hCl
    have hR : ∀ k, k < h → R k = true := fun k hk => by
      cases hr : R k with
      | true => rfl
      | false => exact absurd (c.in_ k l hk hl (fun e => hlj e.2) rfl hr hCl).1 (by simp)
    have : sumN h (fun k => x k j) = x i j := sumN_single (f := fun k => x k j) hi (fun k hk hne => (c.out k j hk hj (fun e => hne e.1) rfl (hR k hk) c.col).2)
    rw [hx.cols j hj] at this
    omega
  · have hC' : ∀ l, l < m → C l = false := fun l hl => by
      cases hc : C l with
      | false => rfl
      | true => exact absurd ⟨l, hl, hc⟩ hC
    have : sumN m (x i) = x i j := sumN_single (f := x i) hj (fun l hl hne => (c.out i l hi hl (fun e => hne e.2) rfl c.row (hC' l hl)).2)
    rw [hx.rows i hi] at this
    omega
/-- The rest of a table, without row i and column j. -/
theorem rest_sum (x : Nat → Nat → Int) (hi : i < h) (hj : j < m) : sumN h (fun k => sumN m (fun l => if k = i ∨ l = j then 0 else x k l)) = sumN h (fun k => sumN m (x k)) - sumN m (x i) - sumN h (fun k => x k j) + x i j := by
  have h1 : ∀ k, k < h → sumN m (fun l => if k = i ∨ l = j then 0 else x k l) = if k = i then 0 else sumN m (x k) - x k j := fun k _ => by
    by_cases e : k = i
    · rw [if_pos e, sumN_congr (g := fun _ => 0) (fun l _ => if_pos (.inl e)), sumN_zero]
    · rw [if_neg e, ← sumN_off (x k) hj]
      exact sumN_congr fun l _ => by simp [e]
  rw [sumN_congr h1, sumN_off (fun k => sumN m (x k) - x k j) hi, sumN_sub (fun k => sumN m (x k))]
  omega
theorem low_all (h0 : Pos h m f) (hi : i < h) (hj : j < m) : low h m f (fun _ _ => true) i j = max 0 (sumN m (f i) + sumN h (fun k => f k j) - sumN h (fun k => sumN m (f k))) := by
  obtain ⟨x, R, C, hx, e, c⟩ := lowN_is (b := fun _ _ => true) h0 hi hj rfl
  have hl : low h m f (fun _ _ => true) i j = max 0 (x i j) := by unfold low; rw [if_pos rfl, ← e]
  rw [hl]
  have hr := rest_sum x hi hj
  rw [hx.rows i hi, hx.cols j hj, sumN_congr (f := fun k => sumN m (x k)) (fun k hk => hx.rows k hk)] at hr
  -- all columns but j are reached, and no row beside i that holds anything beyond j
  have hC : ∀ l, l < m → l ≠ j → C l = true := fun l hl hlj => by
    cases hc : C l with
    | true => rfl
    | false => exact absurd (c.out i l hi hl (fun e => hlj e.2) rfl c.row hc).1 (by simp)
  have hR : ∀ k, k < h → k ≠ i → R k = false := fun k hk hki => by
    cases hr : R k with
    | false => rfl
    | true => exact absurd (c.out k j hk hj (fun e => hki e.1) rfl hr c.col).1 (by simp)
  have hz : sumN h (fun k => sumN m (fun l => if k = i ∨ l = j then 0 else x k l)) = 0 := by
    rw [sumN_congr (g := fun _ => 0) (fun k hk => ?_), sumN_zero]
    rw [sumN_congr (g := fun _ => 0) (fun l hl => ?_), sumN_zero]
    by_cases e1 : k = i ∨ l = j
    · rw [if_pos e1]
    · rw [if_neg e1]
      exact (c.in_ k l hk hl (fun e => e1 (.inl e.1)) rfl (hR k hk (fun e => e1 (.inl e))) (hC l hl (fun e => e1 (.inr e)))).2
  rw [hz] at hr
  rw [show x i j = sumN m (f i) + sumN h (fun k => f k j) - sumN h (fun k => sumN m (f k)) by omega]
/-- A row leaves room. -/
theorem high_row (h0 : Pos h m f) (hi : i < h) (hj : j < m) : high h m f b i j ≤ sumN m (f i) - sumN m (fun l => if l = j then 0 else low h m f b i l) ∧ sumN m (f i) - sumN m (fun l => if l = j then 0 else high h m f b i l) ≤ low h m f b i j := by
  constructor
  · obtain ⟨x, hx, e⟩ := high_at (b := b) h0 hi hj
    have h1 : sumN m (fun l => if l = j then 0 else low h m f b i l) ≤ sumN m (fun l => if l = j then 0 else x i l) := sumN_le fun l hl => by
      by_cases e : l = j
      · rw [if_pos e, if_pos e]; exact Int.le_refl _
      · rw [if_neg e, if_neg e]; exact low_min h0 hi hl hx
    rw [sumN_off (x i) hj, hx.rows i hi, e] at h1
    omega
  · obtain ⟨x, hx, e⟩ := low_at (b := b) h0 hi hj
    have h1 : sumN m (fun l => if l = j then 0 else x i l) ≤ sumN m (fun l => if l = j then 0 else high h m f b i l) := sumN_le fun l hl => by
      by_cases e : l = j
      · rw [if_pos e, if_pos e]; exact Int.le_refl _
      · rw [if_neg e, if_neg e]; exact high_max h0 hi hl hx
    rw [sumN_off (x i) hj, hx.rows i hi, e] at h1
    omega
/-- A table that fits has the same tables that fit. -/
theorem Fits.swap (hx : Fits h m f b x) (y : Nat → Nat → Int) : Fits h m f b y ↔ Fits h m x b y :=
  ⟨fun hy => ⟨fun k hk => (hy.rows k hk).trans (hx.rows k hk).symm, fun l hl => (hy.cols l hl).trans (hx.cols l hl).symm, fun k l hk hl e => (hy.same k l hk hl e).trans (hx.same k l hk hl e).symm, hy.pos⟩,
   fun hy => ⟨fun k hk => (hy.rows k hk).trans (hx.rows k hk), fun l hl => (hy.cols l hl).trans (hx.cols l hl), fun k l hk hl e => (hy.same k l hk hl e).trans (hx.same k l hk hl e), hy.pos⟩⟩
/-- A hidden cell alone in its row does not move. -/
theorem fit_alone_row (hx : Fits h m f b x) (hi : i < h) (hj : j < m) (ha : ∀ l, l < m → l ≠ j → b i l = false) : x i j = f i j := by
  have h1 := hx.rows i hi
  have h2 := sumN_off (x i) hj
  have h3 := sumN_off (f i) hj
  have h4 : sumN m (fun l => if l = j then 0 else x i l) = sumN m (fun l => if l = j then 0 else f i l) := sumN_congr fun l hl => by
    by_cases e : l = j
    · rw [if_pos e, if_pos e]
    · rw [if_neg e, if_neg e, hx.same i l hi hl (ha l hl e)]
  omega
theorem fit_alone_col (hx : Fits h m f b x) (hi : i < h) (hj : j < m) (ha : ∀ k, k < h → k ≠ i → b k j = false) : x i j = f i j :=
  fit_alone_row (i := j) (j := i) (b := fun a c => b c a) hx.turn hj hi ha
theorem high_alone_row (h0 : Pos h m f) (hi : i < h) (hj : j < m) (ha : ∀ l, l < m → l ≠ j → b i l = false) : high h m f b i j = f i j := by
  obtain ⟨x, hx, e⟩ := high_at (b := b) h0 hi hj
  rw [← e]; exact fit_alone_row hx hi hj ha
theorem high_alone_col (h0 : Pos h m f) (hi : i < h) (hj : j < m) (ha : ∀ k, k < h → k ≠ i → b k j = false) : high h m f b i j = f i j := by
  obtain ⟨x, hx, e⟩ := high_at (b := b) h0 hi hj
  rw [← e]; exact fit_alone_col hx hi hj ha
/-- What is told need not be hidden. -/
theorem told_unset (h0 : Pos h m f) (hb : ∀ k l, k < h → l < m → b' k l = true → b k l = true) (ht : ∀ k l, k < h → l < m → b k l = true → b' k l = false → high h m f b k l = low h m f b k l) (x : Nat → Nat → Int) : Fits h m f b x ↔ Fits h m f b' x := by
  constructor
  · intro hx
    refine ⟨hx.rows, hx.cols, fun k l hk hl e => ?_, hx.pos⟩
    cases e2 : b k l with
    | false => exact hx.same k l hk hl e2
    | true =>
      have h1 := ht k l hk hl e2 e
      have a1 := high_max h0 hk hl hx
      have a2 := low_min h0 hk hl hx
      have a3 := high_ge (b := b) h0 hk hl
      have a4 := low_le (b := b) h0 hk hl
      omega
  · exact fun hx => hx.mono hb
/-- Bounds stay within the sums. -/
theorem high_row_le (h0 : Pos h m f) (hi : i < h) (hj : j < m) : high h m f b i j ≤ sumN m (f i) := by
  obtain ⟨x, hx, e⟩ := high_at (b := b) h0 hi hj
  rw [← e]; exact (hx.near i j).le_row hi hj
end
end Go.DC
