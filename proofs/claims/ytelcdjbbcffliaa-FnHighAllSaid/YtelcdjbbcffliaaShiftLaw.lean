/- How a way is gone back and its room is moved. Plain Lean. No conditions. -/
import Derived.Test.YtelcdjbbcffliaaRoom
namespace Go.DC
section
variable {h m : Nat} {f : Nat → Nat → Int} {b : Nat → Nat → Bool} {i j : Nat} {up : Bool} {x X : Nat → Nat → Int}
/-- x holds f's table with (i, j) changed by F. -/
structure FlowAt (h m : Nat) (f : Nat → Nat → Int) (b : Nat → Nat → Bool) (i j : Nat) (up : Bool) (F : Int) (x : Nat → Nat → Int) : Prop where
  near : Near h m f b i j x
  own : x i j = f i j + sgn up F
  pos : 0 ≤ F
theorem FlowAt.bd {F : Int} (hs : Small h m f) (hi : i < h) (hj : j < m) (m4 : m ≤ 4) (hF : FlowAt h m f b i j up F x) : F ≤ 1683 := by
  obtain ⟨h1, h2, h3⟩ := hs
  have hf := h3 i j hi hj
  have ho := hF.own
  cases up with
  | true =>
    have a1 := hF.near.le_row hi hj
    have a2 := h1 i hi
    unfold sgn at ho
    simp at ho; omega
  | false =>
    have a1 := hF.near.ge_tot (fun k l hk hl => (h3 k l hk hl).1) hi hj
    have a2 : sumN m (fun l => sumN h (fun k => f k l)) ≤ sumN m (fun _ => 396) := sumN_le fun l hl => h2 l hl
    rw [sumN_const] at a2
    unfold sgn at ho
    simp at ho; omega
theorem FlowAt.start (h0 : ∀ k l, k < h → l < m → 0 ≤ f k l) : FlowAt h m f b i j up 0 f := ⟨(Fits.refl h0).near i j, by unfold sgn; simp, Int.le_refl _⟩
/-- A place that was reached. -/
structure Stop (N : Nat) (q : List Nat) (s p : Nat) : Prop where
  at_ : q[s]? = some p
  lt : p < N
theorem Bfs.stop {N : Nat} {E : Nat → Nat → Prop} {P : Nat → Int} {q : List Nat} {p : Nat} (w : Bfs N i E P q) (hp : p < N) (h0 : 0 ≤ P p) : ∃ s, Stop N q s p := by
  obtain ⟨s, hs, e⟩ := List.getElem_of_mem ((w.mem p hp).1 h0)
  exact ⟨s, by rw [List.getElem?_eq_getElem hs, e], hp⟩
/-- The place before it. -/
theorem Stop.prev {N : Nat} {E : Nat → Nat → Prop} {P : Nat → Int} {q : List Nat} {s p : Nat} (st : Stop N q s p) (w : Bfs N i E P q) (hne : p ≠ i) : ∃ t u, t < s ∧ Stop N q t u ∧ P p = (u : Int) ∧ E u p := by
  obtain ⟨hs, e⟩ := List.getElem?_eq_some_iff.1 st.at_
  have h0 : 0 < s := by
    rcases Nat.eq_zero_or_pos s with h | h
    · subst h
      have := w.way.zero
      rw [st.at_] at this
      exact absurd (Option.some.inj this) hne
    · exact h
  obtain ⟨t, ht, hts, hp, hE⟩ := w.way.from_ s hs h0
  rw [e] at hp hE
  have hmem : p ∈ q := by rw [← e]; exact List.getElem_mem hs
  have h1 := (w.mem p st.lt).2 hmem
  exact ⟨t, q[t], hts, ⟨List.getElem?_eq_getElem ht, w.way.lt _ (List.getElem_mem ht)⟩, by omega, hE⟩
/-- What can be moved from i to p can be moved to the end z. -/
def Onto (R : Nat → Nat → Int) (P : Nat → Int) (i z : Nat) (e : Int) (p : Nat) : Prop := ∀ e', e' ≤ e → Path R P i e' p → Path R P i e' z
theorem Onto.start {R : Nat → Nat → Int} {P : Nat → Int} {i z : Nat} {e : Int} : Onto R P i z e z := fun _ _ h => h
theorem Onto.step {R : Nat → Nat → Int} {P : Nat → Int} {i z p u : Nat} {e : Int} (h : Onto R P i z e p) (hp : p ≠ i) (hu : P p = (u : Int)) : Onto R P i z (min e (R u p)) u := fun e' he hq => by
  have hu' : (P p).toNat = u := by rw [hu]; rfl
  refine h e' (by omega) (Path.step hp ?_ ?_)
  · rw [hu']; omega
  · rw [hu']; exact hq
theorem Onto.done {R : Nat → Nat → Int} {P : Nat → Int} {i z : Nat} {e : Int} (h : Onto R P i z e i) : Path R P i e z := h e (Int.le_refl _) Path.here
/-- On the way back: place p is reached, its change is still missing. -/
structure Going (h m : Nat) (f : Nat → Nat → Int) (b : Nat → Nat → Bool) (i j : Nat) (up : Bool) (x : Nat → Nat → Int) (P : Nat → Int) (q : List Nat) (e : Int) (s p : Nat) (X : Nat → Nat → Int) : Prop where
  stop : Stop (h + m) q s p
  back : Back h m f b i j (sgn up e) x X p
  old : Old h q s x X (Open h m b i j up x)
  path : Path (roomG h f b i j up x) P i e p
theorem Going.start {P : Nat → Int} {q : List Nat} {e : Int} {s : Nat} (hx : Near h m f b i j x) (hi : i < h) (hj : j < m) (hb : b i j = true) (st : Stop (h + m) q s (h + j)) (hp : Path (roomG h f b i j up x) P i e (h + j)) :
    Going h m f b i j up x P q e s (h + j) (upd x i j (x i j + sgn up e)) :=
  ⟨st, Back.begin hx hi hj hb _, Old.begin q s _, hp⟩
theorem Going.step {P : Nat → Int} {q : List Nat} {e : Int} {s p : Nat} (g : Going h m f b i j up x P q e s p X) (hs : Small h m f) (hx : Near h m f b i j x) (w : Bfs (h + m) i (Open h m b i j up x) P q) (hne : p ≠ i) (he : 0 ≤ e) :
    ∃ t u X', t < s ∧ u < h + m ∧ u ≠ p ∧ P p = (u : Int) ∧ e ≤ roomG h f b i j up X u p ∧ 0 ≤ roomG h f b i j up X p u ∧ roomG h f b i j up X u p ≤ 4000 ∧ roomG h f b i j up X p u ≤ 4000
      ∧ upd (upd (roomG h f b i j up X) u p (roomG h f b i j up X u p - e)) p u (roomG h f b i j up X p u + e) = roomG h f b i j up X' ∧ Going h m f b i j up x P q e t u X' := by
  obtain ⟨t, u, hts, st, hPu, hE⟩ := g.stop.prev w hne
  obtain ⟨hs', es⟩ := List.getElem?_eq_some_iff.1 g.stop.at_
  obtain ⟨ht', et⟩ := List.getElem?_eq_some_iff.1 st.at_
  obtain ⟨h1, h2⟩ := g.path.next hne
  have hu' : (P p).toNat = u := by rw [hPu]; rfl
  rw [hu'] at h1 h2
  have hE' : Open h m b i j up x q[t] q[s] := by rw [et, es]; exact hE
  have hold := g.old s hs' t ht' (Nat.le_refl _) hts hE'
  rw [et, es] at hold
  obtain ⟨r1, r2⟩ := room_old (f := f) hE hold
  have b1 := room_bd (up := up) hs hx st.lt g.stop.lt
  have b2 := room_bd (up := up) hs hx g.stop.lt st.lt
  have hup : u ≠ p := fun e => by subst e; rcases hE with ⟨a, c, _⟩ | ⟨a, _, c, _⟩ <;> omega
  have hpos := back_pos (X := X) hs hx hE hold he h1
  refine ⟨t, u, _, hts, st.lt, hup, hPu, by rw [r1]; exact h1, by rw [r2]; exact b2.1, by rw [r1]; exact b1.2, by rw [r2]; exact b2.2, room_step hE e, st, g.back.step hE hpos, ?_, h2⟩
  have := g.old.step w.way.nodup hs' ht' hts hE' (X (cellR u p) (cellC h u p) + (if u < h then -(sgn up e) else sgn up e))
  rw [et, es] at this
  exact this
theorem Going.done {P : Nat → Int} {q : List Nat} {e F : Int} {s : Nat} (g : Going h m f b i j up x P q e s i X) (hF : FlowAt h m f b i j up F x) (hi : i < h) (he : 0 ≤ e) : FlowAt h m f b i j up (F + e) X :=
  ⟨g.back.done hi, by rw [g.back.own, hF.own]; unfold sgn; split <;> omega, by have := hF.pos; omega⟩
end
end Go.DC
