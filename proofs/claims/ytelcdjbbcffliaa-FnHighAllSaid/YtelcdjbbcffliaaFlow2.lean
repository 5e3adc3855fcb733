/- The greatest and the least number of a hidden cell among all tables that fit. Plain Lean. No conditions. -/
import Derived.Test.YtelcdjbbcffliaaFlow
namespace Go.DC
section
variable {h m : Nat} {f : Nat → Nat → Int} {b : Nat → Nat → Bool} {i j : Nat} {x y : Nat → Nat → Int}
/-- From the places that were reached no open step leads further. -/
def Closed (n : Nat) (E : Nat → Nat → Prop) (q : List Nat) : Prop := ∀ u ∈ q, ∀ v, v < n → E u v → v ∈ q
theorem Way.start {n i : Nat} {E : Nat → Nat → Prop} {par : Nat → Nat} {q : List Nat} (w : Way n i E par q) : i ∈ q := List.mem_of_getElem? w.zero
theorem cut_of_closed {up : Bool} {par : Nat → Nat} {q : List Nat} (hx : Near h m f b i j x) (w : Way (h + m) i (Open h m b i j up x) par q) (c : Closed (h + m) (Open h m b i j up x) q) (hj : h + j ∉ q) :
    Cut h m b i j up x (fun k => decide (k ∈ q)) (fun l => decide (h + l ∈ q)) := by
  refine ⟨by simpa using w.start, by simpa using hj, fun k l hk hl hne hb hR hC => ?_, fun k l hk hl hne hb hR hC => ?_⟩
  · have hR' : k ∈ q := by simpa using hR
    have hC' : h + l ∉ q := by simpa using hC
    have ho : (up = true → 0 < x k l) → False := fun hu => hC' (c k hR' (h + l) (by omega) (.inl ⟨hk, by omega, by omega, by rw [Nat.add_sub_cancel_left]; exact hb, by rw [Nat.add_sub_cancel_left]; exact hne, by rw [Nat.add_sub_cancel_left]; exact hu⟩))
    have hp := hx.pos k l hk hl hne
    cases up with
    | false => exact (ho (fun e => by cases e)).elim
    | true =>
      refine ⟨rfl, ?_⟩
      have : ¬ 0 < x k l := fun e => ho (fun _ => e)
      omega
  · have hR' : k ∉ q := by simpa using hR
    have hC' : h + l ∈ q := by simpa using hC
    have ho : (up = false → 0 < x k l) → False := fun hu => hR' (c (h + l) hC' k (by omega) (.inr ⟨by omega, by omega, hk, by rw [Nat.add_sub_cancel_left]; exact hb, by rw [Nat.add_sub_cancel_left]; exact hne, by rw [Nat.add_sub_cancel_left]; exact hu⟩))
    have hp := hx.pos k l hk hl hne
    cases up with
    | true => exact (ho (fun e => by cases e)).elim
    | false =>
      refine ⟨rfl, ?_⟩
      have : ¬ 0 < x k l := fun e => ho (fun _ => e)
      omega

/-- The cell of a step. -/
def cellR (u v : Nat) : Nat := min u v
def cellC (h u v : Nat) : Nat := max u v - h
theorem cell_row {h u v : Nat} (hu : u < h) (hv : h ≤ v) : cellR u v = u ∧ cellC h u v = v - h := ⟨by unfold cellR; omega, by unfold cellC; omega⟩
theorem cell_col {h u v : Nat} (hu : h ≤ u) (hv : v < h) : cellR u v = v ∧ cellC h u v = u - h := ⟨by unfold cellR; omega, by unfold cellC; omega⟩
theorem step_inj {h m i j u v u' v' : Nat} {b : Nat → Nat → Bool} {up : Bool} {y : Nat → Nat → Int} (hE : Open h m b i j up y u v) (hE' : Open h m b i j up y u' v') (e1 : cellR u' v' = cellR u v) (e2 : cellC h u' v' = cellC h u v) : (u' = u ∧ v' = v) ∨ (u' = v ∧ v' = u) := by
  rcases hE with ⟨h1, h2, _⟩ | ⟨h1, _, h2, _⟩
  · rw [(cell_row h1 h2).1] at e1; rw [(cell_row h1 h2).2] at e2
    rcases hE' with ⟨h3, h4, _⟩ | ⟨h3, _, h4, _⟩
    · rw [(cell_row h3 h4).1] at e1; rw [(cell_row h3 h4).2] at e2
      exact .inl ⟨e1, by omega⟩
    · rw [(cell_col h3 h4).1] at e1; rw [(cell_col h3 h4).2] at e2
      exact .inr ⟨by omega, e1⟩
  · rw [(cell_col h1 h2).1] at e1; rw [(cell_col h1 h2).2] at e2
    rcases hE' with ⟨h3, h4, _⟩ | ⟨h3, _, h4, _⟩
    · rw [(cell_row h3 h4).1] at e1; rw [(cell_row h3 h4).2] at e2
      exact .inr ⟨e1, by omega⟩
    · rw [(cell_col h3 h4).1] at e1; rw [(cell_col h3 h4).2] at e2
      exact .inl ⟨by omega, e1⟩
/-- A way is gone back: (i, j) has been changed by d, and so have the cells behind place p; row i has d too much, and place p still misses its change. -/
structure Back (h m : Nat) (f : Nat → Nat → Int) (b : Nat → Nat → Bool) (i j : Nat) (d : Int) (x X : Nat → Nat → Int) (p : Nat) : Prop where
  rows : ∀ k, k < h → sumN m (X k) = sumN m (f k) + (if k = i then d else 0) - (if k = p then d else 0)
  cols : ∀ l, l < m → sumN h (fun k => X k l) = sumN h (fun k => f k l) + (if h + l = p then d else 0)
  same : ∀ k l, k < h → l < m → b k l = false → X k l = f k l
  pos : ∀ k l, k < h → l < m → ¬ (k = i ∧ l = j) → 0 ≤ X k l
  own : X i j = x i j + d
theorem sum_upd_row {m k l : Nat} (X : Nat → Nat → Int) (z : Int) (hl : l < m) (k' : Nat) : sumN m (upd X k l (X k l + z) k') = sumN m (X k') + (if k' = k then z else 0) := by
  by_cases e : k' = k
  · subst e
    rw [if_pos rfl, ← sumN_bump (X k') z hl]
    refine sumN_congr fun l' _ => ?_
    unfold upd
    by_cases e2 : l' = l
    · subst e2; simp
    · simp [e2]
  · rw [if_neg e, Int.add_zero]
    refine sumN_congr fun l' _ => ?_
    unfold upd
    rw [if_neg (fun h => e h.1)]
theorem sum_upd_col {h k l : Nat} (X : Nat → Nat → Int) (z : Int) (hk : k < h) (l' : Nat) : sumN h (fun k' => upd X k l (X k l + z) k' l') = sumN h (fun k' => X k' l') + (if l' = l then z else 0) := by
  by_cases e : l' = l
  · subst e
    rw [if_pos rfl, ← sumN_bump (fun k' => X k' l') z hk]
    refine sumN_congr fun k' _ => ?_
    unfold upd
    by_cases e2 : k' = k
    · subst e2; simp
    · simp [e2]
  · rw [if_neg e, Int.add_zero]
    refine sumN_congr fun k' _ => ?_
    unfold upd
    rw [if_neg (fun h => e h.2)]
theorem Back.begin (hx : Near h m f b i j x) (hi : i < h) (hj : j < m) (hb : b i j = true) (d : Int) : Back h m f b i j d x (upd x i j (x i j + d)) (h + j) := by
  refine ⟨fun k hk => ?_, fun l hl => ?_, fun k l hk hl hf => ?_, fun k l hk hl hne => ?_, by simp [upd]⟩
  · rw [sum_upd_row x d hj, hx.rows k hk, if_neg (by omega : ¬ k = h + j), Int.sub_zero]
  · rw [sum_upd_col x d hi, hx.cols l hl]
    by_cases e : l = j
    · subst e; simp
    · rw [if_neg e, if_neg (by omega)]
  · have : ¬ (k = i ∧ l = j) := fun e => by rw [e.1, e.2, hb] at hf; cases hf
    unfold upd; rw [if_neg this]; exact hx.same k l hk hl hf
  · unfold upd; rw [if_neg hne]; exact hx.pos k l hk hl hne
theorem Back.done {d : Int} {X : Nat → Nat → Int} (hB : Back h m f b i j d x X i) (hi : i < h) : Near h m f b i j X :=
  ⟨fun k hk => by rw [hB.rows k hk]; omega, fun l hl => by rw [hB.cols l hl, if_neg (by omega), Int.add_zero], hB.same, hB.pos⟩
/-- One step back. -/
theorem Back.step {d : Int} {X : Nat → Nat → Int} {up : Bool} {u v : Nat} (hB : Back h m f b i j d x X v) (hE : Open h m b i j up y u v) (h0 : 0 ≤ X (cellR u v) (cellC h u v) + (if u < h then -d else d)) :
    Back h m f b i j d x (upd X (cellR u v) (cellC h u v) (X (cellR u v) (cellC h u v) + (if u < h then -d else d))) u := by
  rcases hE with ⟨hu, hv, hvm, hb, hne, _⟩ | ⟨hu, hum, hv, hb, hne, _⟩
  · have e1 : cellR u v = u := by unfold cellR; omega
    have e2 : cellC h u v = v - h := by unfold cellC; omega
    have hlm : v - h < m := by omega
    rw [e1, e2, if_pos hu] at h0 ⊢
    refine ⟨fun k hk => ?_, fun l hl => ?_, fun k l hk hl hf => ?_, fun k l hk hl hn => ?_, ?_⟩
    · rw [sum_upd_row X (-d) hlm, hB.rows k hk, if_neg (by omega : ¬ k = v)]
      by_cases e : k = u
      · rw [if_pos e, if_pos e]; omega
      · rw [if_neg e, if_neg e]; omega
    · rw [sum_upd_col X (-d) hu, hB.cols l hl, if_neg (by omega : ¬ h + l = u)]
      by_cases e : l = v - h
      · rw [if_pos e, if_pos (by omega)]; omega
      · rw [if_neg e, if_neg (by omega)]; omega
    · have : ¬ (k = u ∧ l = v - h) := fun e => by rw [e.1, e.2, hb] at hf; cases hf
      unfold upd; rw [if_neg this]; exact hB.same k l hk hl hf
    · unfold upd
      by_cases e : k = u ∧ l = v - h
      · rw [if_pos e]; exact h0
      · rw [if_neg e]; exact hB.pos k l hk hl hn
    · unfold upd
      rw [if_neg (fun e => hne ⟨e.1.symm, e.2.symm⟩)]; exact hB.own
  · have e1 : cellR u v = v := by unfold cellR; omega
    have e2 : cellC h u v = u - h := by unfold cellC; omega
    have hlm : u - h < m := by omega
    rw [e1, e2, if_neg (by omega : ¬ u < h)] at h0 ⊢
    refine ⟨fun k hk => ?_, fun l hl => ?_, fun k l hk hl hf => ?_, fun k l hk hl hn => ?_, ?_⟩
    · rw [sum_upd_row X d hlm, hB.rows k hk, if_neg (by omega : ¬ k = u)]
      by_cases e : k = v
      · rw [if_pos e]; omega
      · rw [if_neg e]; omega
    · rw [sum_upd_col X d hv, hB.cols l hl, if_neg (by omega : ¬ h + l = v)]
      by_cases e : l = u - h
      · rw [if_pos e, if_pos (by omega)]; omega
      · rw [if_neg e, if_neg (by omega)]; omega
    · have : ¬ (k = v ∧ l = u - h) := fun e => by rw [e.1, e.2, hb] at hf; cases hf
      unfold upd; rw [if_neg this]; exact hB.same k l hk hl hf
    · unfold upd
      by_cases e : k = v ∧ l = u - h
      · rw [if_pos e]; exact h0
      · rw [if_neg e]; exact hB.pos k l hk hl hn
    · unfold upd
      rw [if_neg (fun e => hne ⟨e.1.symm, e.2.symm⟩)]; exact hB.own

/-- The cells of the steps to the first s + 1 places are as they were. -/
def Old (h : Nat) (q : List Nat) (s : Nat) (x X : Nat → Nat → Int) (E : Nat → Nat → Prop) : Prop :=
  ∀ s' (hs : s' < q.length) t' (ht : t' < q.length), s' ≤ s → t' < s' → E q[t'] q[s'] → X (cellR q[t'] q[s']) (cellC h q[t'] q[s']) = x (cellR q[t'] q[s']) (cellC h q[t'] q[s'])
theorem Old.begin {up : Bool} (q : List Nat) (s : Nat) (z : Int) : Old h q s x (upd x i j z) (Open h m b i j up y) := fun s' hs t' ht _ _ hE => by
  unfold upd
  rw [if_neg]
  rintro ⟨e1, e2⟩
  rcases hE with ⟨hu, hv, _, _, hne, _⟩ | ⟨hu, _, hv, _, hne, _⟩
  · exact hne ⟨by unfold cellR at e1; omega, by unfold cellC at e2; omega⟩
  · exact hne ⟨by unfold cellR at e1; omega, by unfold cellC at e2; omega⟩
theorem Old.step {up : Bool} {X : Nat → Nat → Int} {q : List Nat} {s t : Nat} (hq : q.Nodup) (hs : s < q.length) (ht : t < q.length) (hts : t < s) (hE : Open h m b i j up y q[t] q[s]) (z : Int) (o : Old h q s x X (Open h m b i j up y)) :
    Old h q t x (upd X (cellR q[t] q[s]) (cellC h q[t] q[s]) z) (Open h m b i j up y) := fun s' hs' t' ht' hst htt hE' => by
  rw [← o s' hs' t' ht' (by omega) htt hE']
  unfold upd
  rw [if_neg]
  rintro ⟨e1, e2⟩
  have inj : ∀ a c (ha : a < q.length) (hc : c < q.length), a < c → q[a] ≠ q[c] := fun a c ha hc e => List.pairwise_iff_getElem.1 hq a c ha hc e
  rcases step_inj hE hE' e1 e2 with ⟨_, e⟩ | ⟨e, _⟩
  · exact inj s' s hs' hs (by omega) e
  · exact inj t' s ht' hs (by omega) e

/-- A way to (i, j)'s column changes (i, j) by one. -/
theorem augment {up : Bool} {par : Nat → Nat} {q : List Nat} (hx : Near h m f b i j x) (hi : i < h) (hj : j < m) (hb : b i j = true) (w : Way (h + m) i (Open h m b i j up x) par q) (hq : h + j ∈ q) :
    ∃ X, Near h m f b i j X ∧ X i j = x i j + (if up then 1 else -1) := by
  obtain ⟨s, hs, es⟩ := List.getElem_of_mem hq
  have main : ∀ s (hs : s < q.length) X, Back h m f b i j (if up then 1 else -1) x X q[s] → Old h q s x X (Open h m b i j up x) → ∃ X, Back h m f b i j (if up then 1 else -1) x X i := fun s => by
    induction s using Nat.strongRecOn with
    | _ s ih =>
      intro hs X hB hO
      by_cases e : s = 0
      · subst e
        have : q[0] = i := by have := w.zero; rw [List.getElem?_eq_getElem hs] at this; exact Option.some.inj this
        exact ⟨X, this ▸ hB⟩
      · obtain ⟨t, ht, hts, _, hE⟩ := w.from_ s hs (by omega)
        have hold := hO s hs t ht (Nat.le_refl _) hts hE
        refine ih t hts ht _ (hB.step hE ?_) (hO.step w.nodup hs ht hts hE _)
        rw [hold]
        rcases hE with ⟨hu, hv, hvm, _, hne, hp⟩ | ⟨hu, hum, hv, _, hne, hp⟩
        · have e1 : cellR q[t] q[s] = q[t] := by unfold cellR; omega
          have e2 : cellC h q[t] q[s] = q[s] - h := by unfold cellC; omega
          have h0 := hx.pos q[t] (q[s] - h) hu (by omega) hne
          rw [e1, e2, if_pos hu]
          cases up with
          | true => have := hp rfl; simp; omega
          | false => simp; omega
        · have e1 : cellR q[t] q[s] = q[s] := by unfold cellR; omega
          have e2 : cellC h q[t] q[s] = q[t] - h := by unfold cellC; omega
          have h0 := hx.pos q[s] (q[t] - h) hv (by omega) hne
          rw [e1, e2, if_neg (by omega)]
          cases up with
          | true => simp; omega
          | false => have := hp rfl; simp; omega
  obtain ⟨X, hB⟩ := main s hs (upd x i j (x i j + (if up then 1 else -1))) (es ▸ Back.begin hx hi hj hb _) (Old.begin q s _)
  exact ⟨X, hB.done hi, hB.own⟩
/-- Some way can not be made longer. -/
theorem way_closed {n i : Nat} (E : Nat → Nat → Prop) (hi : i < n) : ∃ par q, Way n i E par q ∧ Closed n E q := by
  have main : ∀ k par q, Way n i E par q → n - q.length ≤ k → ∃ par q, Way n i E par q ∧ Closed n E q := fun k => by
    induction k with
    | zero =>
      intro par q w hk
      refine ⟨par, q, w, fun u hu v hv hE => ?_⟩
      -- all places are reached
      refine Classical.byContradiction fun hn => ?_
      have h1 := nodup_len (n := n) (q := q ++ [v]) (by rw [List.nodup_append]; exact ⟨w.nodup, by simp, fun a ha c hc e => by rw [List.mem_singleton.1 hc] at e; exact hn (e ▸ ha)⟩) (fun a ha => by
        rcases List.mem_append.1 ha with h | h
        · exact w.lt a h
        · rw [List.mem_singleton.1 h]; exact hv)
      rw [List.length_append] at h1
      have : [v].length = 1 := rfl
      omega
    | succ k ih =>
      intro par q w hk
      by_cases hc : Closed n E q
      · exact ⟨par, q, w, hc⟩
      · unfold Closed at hc
        simp only [Classical.not_forall] at hc
        obtain ⟨u, hu, v, hv, hE, hn⟩ := hc
        refine ih (fun p => if p = v then u else par p) (q ++ [v]) ⟨?_, fun a ha => ?_, ?_, fun s hs h0 => ?_⟩ (by rw [List.length_append]; have : [v].length = 1 := rfl; omega)
        · have hz := w.zero
          have h0 : 0 < q.length := (List.getElem?_eq_some_iff.1 hz).1
          rw [List.getElem?_append_left h0]; exact hz
        · rcases List.mem_append.1 ha with h | h
          · exact w.lt a h
          · rw [List.mem_singleton.1 h]; exact hv
        · rw [List.nodup_append]; exact ⟨w.nodup, by simp, fun a ha c hc e => by rw [List.mem_singleton.1 hc] at e; exact hn (e ▸ ha)⟩
        · by_cases e : s < q.length
          · obtain ⟨t, ht, hts, hp, hE'⟩ := w.from_ s e h0
            refine ⟨t, by rw [List.length_append]; omega, hts, ?_, ?_⟩
            · rw [List.getElem_append_left e, List.getElem_append_left ht]
              have : ¬ q[s] = v := fun x => hn (x ▸ List.getElem_mem e)
              rw [if_neg this]; exact hp
            · rw [List.getElem_append_left e, List.getElem_append_left ht]; exact hE'
          · have es : s = q.length := by rw [List.length_append] at hs; have : [v].length = 1 := rfl; omega
            subst es
            obtain ⟨t, ht, et⟩ := List.getElem_of_mem hu
            refine ⟨t, by rw [List.length_append]; omega, ht, ?_, ?_⟩
            · simp [List.getElem_append_left ht, et]
            · simp [List.getElem_append_left ht, et, hE]
  refine main n (fun p => p) [i] ⟨rfl, fun u hu => by rw [List.mem_singleton.1 hu]; exact hi, by simp, fun s hs h0 => ?_⟩ (by omega)
  have : s < 1 := hs
  omega

theorem Near.le_row (hx : Near h m f b i j x) (hi : i < h) (hj : j < m) : x i j ≤ sumN m (f i) := by
  rw [← hx.rows i hi]
  exact le_sumN (f := x i) hj (fun l hl hne => hx.pos i l hi hl (fun e => hne e.2))
/-- Every other cell is at most one of its sums. -/
theorem Near.le_other (hx : Near h m f b i j x) {k l : Nat} (hk : k < h) (hl : l < m) (hne : ¬ (k = i ∧ l = j)) : x k l ≤ sumN m (f k) ∨ x k l ≤ sumN h (fun k => f k l) := by
  by_cases e : k = i
  · right
    rw [← hx.cols l hl]
    exact le_sumN (f := fun k => x k l) hk (fun k' hk' _ => hx.pos k' l hk' hl (fun e2 => hne ⟨e, e2.2⟩))
  · left
    rw [← hx.rows k hk]
    exact le_sumN (f := x k) hl (fun l' hl' _ => hx.pos k l' hk hl' (fun e2 => e e2.1))
theorem Near.ge_tot (hx : Near h m f b i j x) (h0 : ∀ k l, k < h → l < m → 0 ≤ f k l) (hi : i < h) (hj : j < m) : -(sumN m (fun l => sumN h (fun k => f k l))) ≤ x i j := by
  have h1 : sumN m (x i) ≤ sumN m (fun l => (if l = j then x i j else 0) + sumN h (fun k => f k l)) := sumN_le fun l hl => by
    have hc0 : 0 ≤ sumN h (fun k => f k l) := sumN_nonneg fun k hk => h0 k l hk hl
    by_cases e : l = j
    · subst e; rw [if_pos rfl]; omega
    · rw [if_neg e, Int.zero_add, ← hx.cols l hl]
      exact le_sumN (f := fun k => x k l) hi (fun k' hk' _ => hx.pos k' l hk' hl (fun e2 => e e2.2))
  rw [sumN_add, sumN_at _ hj, hx.rows i hi] at h1
  have h2 : 0 ≤ sumN m (f i) := sumN_nonneg fun l hl => h0 i l hi hl
  omega

/-- v is the greatest (least) number of (i, j), if it may be negative. -/
def IsHigh (h m : Nat) (f : Nat → Nat → Int) (b : Nat → Nat → Bool) (i j : Nat) (v : Int) : Prop := ∃ x R C, Near h m f b i j x ∧ x i j = v ∧ Cut h m b i j true x R C
def IsLow (h m : Nat) (f : Nat → Nat → Int) (b : Nat → Nat → Bool) (i j : Nat) (v : Int) : Prop := ∃ x R C, Near h m f b i j x ∧ x i j = v ∧ Cut h m b i j false x R C
theorem IsHigh.uniq {v v' : Int} (hi : i < h) (hj : j < m) (a : IsHigh h m f b i j v) (c : IsHigh h m f b i j v') : v = v' := by
  obtain ⟨x, R, C, hx, rfl, k⟩ := a
  obtain ⟨y, R', C', hy, rfl, k'⟩ := c
  have h1 := cut_up hi hj hx hy k
  have h2 := cut_up hi hj hy hx k'
  omega
theorem IsLow.uniq {v v' : Int} (hi : i < h) (hj : j < m) (a : IsLow h m f b i j v) (c : IsLow h m f b i j v') : v = v' := by
  obtain ⟨x, R, C, hx, rfl, k⟩ := a
  obtain ⟨y, R', C', hy, rfl, k'⟩ := c
  have h1 := cut_down hi hj hx hy k
  have h2 := cut_down hi hj hy hx k'
  omega
theorem high_ex (h0 : ∀ k l, k < h → l < m → 0 ≤ f k l) (hi : i < h) (hj : j < m) (hb : b i j = true) : ∃ v, IsHigh h m f b i j v := by
  have main : ∀ k x, Near h m f b i j x → (sumN m (f i) - x i j).toNat ≤ k → ∃ v, IsHigh h m f b i j v := fun k => by
    induction k with
    | zero =>
      intro x hx hk
      obtain ⟨par, q, w, c⟩ := way_closed (Open h m b i j true x) (show i < h + m by omega)
      by_cases hq : h + j ∈ q
      · obtain ⟨X, hX, e⟩ := augment hx hi hj hb w hq
        have := hX.le_row hi hj
        simp at e; omega
      · exact ⟨_, x, _, _, hx, rfl, cut_of_closed hx w c hq⟩
    | succ k ih =>
      intro x hx hk
      obtain ⟨par, q, w, c⟩ := way_closed (Open h m b i j true x) (show i < h + m by omega)
      by_cases hq : h + j ∈ q
      · obtain ⟨X, hX, e⟩ := augment hx hi hj hb w hq
        have := hX.le_row hi hj
        refine ih X hX ?_
        simp at e; omega
      · exact ⟨_, x, _, _, hx, rfl, cut_of_closed hx w c hq⟩
  exact main _ f ((Fits.refl h0).near i j) (Nat.le_refl _)
theorem low_ex (h0 : ∀ k l, k < h → l < m → 0 ≤ f k l) (hi : i < h) (hj : j < m) (hb : b i j = true) : ∃ v, IsLow h m f b i j v := by
  have main : ∀ k x, Near h m f b i j x → (x i j + sumN m (fun l => sumN h (fun k => f k l))).toNat ≤ k → ∃ v, IsLow h m f b i j v := fun k => by
    induction k with
    | zero =>
      intro x hx hk
      obtain ⟨par, q, w, c⟩ := way_closed (Open h m b i j false x) (show i < h + m by omega)
      by_cases hq : h + j ∈ q
      · obtain ⟨X, hX, e⟩ := augment hx hi hj hb w hq
        have := hX.ge_tot h0 hi hj
        simp at e; omega
      · exact ⟨_, x, _, _, hx, rfl, cut_of_closed hx w c hq⟩
    | succ k ih =>
      intro x hx hk
      obtain ⟨par, q, w, c⟩ := way_closed (Open h m b i j false x) (show i < h + m by omega)
      by_cases hq : h + j ∈ q
      · obtain ⟨X, hX, e⟩ := augment hx hi hj hb w hq
        have := hX.ge_tot h0 hi hj
        refine ih X hX ?_
        simp at e; omega
      · exact ⟨_, x, _, _, hx, rfl, cut_of_closed hx w c hq⟩
  exact main _ f ((Fits.refl h0).near i j) (Nat.le_refl _)
/-- Some table that fits has the least number that is not negative. -/
theorem low_fit (h0 : ∀ k l, k < h → l < m → 0 ≤ f k l) (hi : i < h) (hj : j < m) (hb : b i j = true) : ∃ x, Near h m f b i j x ∧ 0 ≤ x i j ∧ (x i j = 0 ∨ ∃ R C, Cut h m b i j false x R C) := by
  have main : ∀ (k : Nat) x, Near h m f b i j x → x i j = k → ∃ x, Near h m f b i j x ∧ 0 ≤ x i j ∧ (x i j = 0 ∨ ∃ R C, Cut h m b i j false x R C) := fun k => by
    induction k with
    | zero => intro x hx hk; exact ⟨x, hx, by omega, .inl (by omega)⟩
    | succ k ih =>
      intro x hx hk
      obtain ⟨par, q, w, c⟩ := way_closed (Open h m b i j false x) (show i < h + m by omega)
      by_cases hq : h + j ∈ q
      · obtain ⟨X, hX, e⟩ := augment hx hi hj hb w hq
        refine ih X hX ?_
        simp at e; omega
      · exact ⟨x, hx, by omega, .inr ⟨_, _, cut_of_closed hx w c hq⟩⟩
  have hf := h0 i j hi hj
  exact main (f i j).toNat f ((Fits.refl h0).near i j) (by omega)

/-- The bounds of a cell. -/
noncomputable def high (h m : Nat) (f : Nat → Nat → Int) (b : Nat → Nat → Bool) (i j : Nat) : Int := if b i j then Classical.epsilon (IsHigh h m f b i j) else f i j
noncomputable def lowN (h m : Nat) (f : Nat → Nat → Int) (b : Nat → Nat → Bool) (i j : Nat) : Int := Classical.epsilon (IsLow h m f b i j)
noncomputable def low (h m : Nat) (f : Nat → Nat → Int) (b : Nat → Nat → Bool) (i j : Nat) : Int := if b i j then max 0 (lowN h m f b i j) else f i j
theorem high_is (h0 : ∀ k l, k < h → l < m → 0 ≤ f k l) (hi : i < h) (hj : j < m) (hb : b i j = true) : IsHigh h m f b i j (high h m f b i j) := by
  unfold high; rw [if_pos hb]; exact Classical.epsilon_spec (high_ex h0 hi hj hb)
theorem lowN_is (h0 : ∀ k l, k < h → l < m → 0 ≤ f k l) (hi : i < h) (hj : j < m) (hb : b i j = true) : IsLow h m f b i j (lowN h m f b i j) :=
  Classical.epsilon_spec (low_ex h0 hi hj hb)
theorem high_eq {v : Int} (hi : i < h) (hj : j < m) (hb : b i j = true) (hv : IsHigh h m f b i j v) : high h m f b i j = v := by
  have : IsHigh h m f b i j (high h m f b i j) := by unfold high; rw [if_pos hb]; exact Classical.epsilon_spec ⟨v, hv⟩
  exact this.uniq hi hj hv
theorem lowN_eq {v : Int} (hi : i < h) (hj : j < m) (hv : IsLow h m f b i j v) : lowN h m f b i j = v :=
  IsLow.uniq hi hj (Classical.epsilon_spec ⟨v, hv⟩) hv
theorem low_eqN {v : Int} (hi : i < h) (hj : j < m) (hb : b i j = true) (hv : IsLow h m f b i j v) : low h m f b i j = max 0 v := by
  unfold low; rw [if_pos hb, lowN_eq hi hj hv]
theorem low_eq (h0 : ∀ k l, k < h → l < m → 0 ≤ f k l) (hi : i < h) (hj : j < m) (hb : b i j = true) (hx : Near h m f b i j x) (hx0 : 0 ≤ x i j) (hc : x i j = 0 ∨ ∃ R C, Cut h m b i j false x R C) : low h m f b i j = x i j := by
  rcases hc with hc | ⟨R, C, hc⟩
  · obtain ⟨y, R, C, hy, e, k⟩ := lowN_is h0 hi hj hb
    have := cut_down hi hj hy hx k
    unfold low; rw [if_pos hb, ← e]; omega
  · rw [low_eqN hi hj hb ⟨x, R, C, hx, rfl, hc⟩]; omega
theorem high_max (h0 : ∀ k l, k < h → l < m → 0 ≤ f k l) (hi : i < h) (hj : j < m) (hy : Fits h m f b y) : y i j ≤ high h m f b i j := by
  cases hb : b i j with
  | true =>
    obtain ⟨x, R, C, hx, e, k⟩ := high_is h0 hi hj hb
    rw [← e]
    exact cut_up hi hj hx (hy.near i j) k
  | false => unfold high; rw [hb, hy.same i j hi hj hb]; simp
theorem high_at (h0 : ∀ k l, k < h → l < m → 0 ≤ f k l) (hi : i < h) (hj : j < m) : ∃ x, Fits h m f b x ∧ x i j = high h m f b i j := by
  cases hb : b i j with
  | true =>
    obtain ⟨x, R, C, hx, e, k⟩ := high_is h0 hi hj hb
    have h1 := cut_up hi hj hx ((Fits.refl h0).near i j) k
    have h2 := h0 i j hi hj
    exact ⟨x, hx.fits (by omega), e⟩
  | false => exact ⟨f, Fits.refl h0, by unfold high; rw [hb]; simp⟩
theorem low_min (h0 : ∀ k l, k < h → l < m → 0 ≤ f k l) (hi : i < h) (hj : j < m) (hy : Fits h m f b y) : low h m f b i j ≤ y i j := by
  cases hb : b i j with
  | true =>
    obtain ⟨x, R, C, hx, e, k⟩ := lowN_is h0 hi hj hb
    have h1 := cut_down hi hj hx (hy.near i j) k
    have h2 := hy.pos i j hi hj
    unfold low; rw [if_pos hb, ← e]; omega
  | false => unfold low; rw [hb, hy.same i j hi hj hb]; simp
theorem low_at (h0 : ∀ k l, k < h → l < m → 0 ≤ f k l) (hi : i < h) (hj : j < m) : ∃ x, Fits h m f b x ∧ x i j = low h m f b i j := by
  cases hb : b i j with
  | true =>
    obtain ⟨x, hx, hx0, hc⟩ := low_fit h0 hi hj hb
    exact ⟨x, hx.fits hx0, (low_eq h0 hi hj hb hx hx0 hc).symm⟩
  | false => exact ⟨f, Fits.refl h0, by unfold low; rw [hb]; simp⟩
/-- What determines the bounds. -/
theorem high_uniq {v : Int} (h0 : ∀ k l, k < h → l < m → 0 ≤ f k l) (hi : i < h) (hj : j < m) (h1 : ∃ x, Fits h m f b x ∧ x i j = v) (h2 : ∀ y, Fits h m f b y → y i j ≤ v) : high h m f b i j = v := by
  obtain ⟨x, hx, e⟩ := h1
  obtain ⟨y, hy, e'⟩ := high_at (b := b) h0 hi hj
  have a1 := high_max h0 hi hj hx
  have a2 := h2 y hy
  omega
theorem low_uniq {v : Int} (h0 : ∀ k l, k < h → l < m → 0 ≤ f k l) (hi : i < h) (hj : j < m) (h1 : ∃ x, Fits h m f b x ∧ x i j = v) (h2 : ∀ y, Fits h m f b y → v ≤ y i j) : low h m f b i j = v := by
  obtain ⟨x, hx, e⟩ := h1
  obtain ⟨y, hy, e'⟩ := low_at (b := b) h0 hi hj
  have a1 := low_min h0 hi hj hx
  have a2 := h2 y hy
  omega
end
end Go.DC
