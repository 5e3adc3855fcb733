/- Words for the laws on safe and told cells. -/
import Derived.Test.YtelcdjbbcffliaaNeed
import Derived.Test.YtelcdjbbcffliaaTabDraw
namespace Go.DC
section
variable {h m : Nat} {f : Nat → Nat → Int} {b b' : Nat → Nat → Bool} {i j : Nat} {d d' : Int}
theorem safeF_iff : safeF h m f b i j d = true ↔ b i j = true ∧ f i j + d ≤ high h m f b i j ∧ low h m f b i j ≤ max 0 (f i j - d) := by
  unfold safeF; simp
theorem safeF_less (hs : safeF h m f b i j d = true) (hd : d' ≤ d) : safeF h m f b i j d' = true := by
  obtain ⟨h1, h2, h3⟩ := safeF_iff.1 hs
  exact safeF_iff.2 ⟨h1, by omega, by omega⟩
theorem safeF_more (h0 : Pos h m f) (hi : i < h) (hj : j < m) (hs : safeF h m f b i j d = true) (hb : ∀ k l, k < h → l < m → b k l = true → b' k l = true) : safeF h m f b' i j d = true := by
  obtain ⟨h1, h2, h3⟩ := safeF_iff.1 hs
  have a1 := high_mono h0 hi hj hb
  have a2 := low_mono h0 hi hj hb
  exact safeF_iff.2 ⟨hb i j hi hj h1, by omega, by omega⟩
theorem safeF_turn (h0 : Pos h m f) (hi : i < h) (hj : j < m) : safeF m h (fun i j => f j i) (fun i j => b j i) j i d = safeF h m f b i j d := by
  unfold safeF; rw [high_turn h0 hi hj, low_turn h0 hi hj]
theorem safeF_zero (h0 : Pos h m f) (hi : i < h) (hj : j < m) (hb : b i j = true) : safeF h m f b i j 0 = true := by
  have a1 := high_ge (b := b) h0 hi hj
  have a2 := low_le (b := b) h0 hi hj
  exact safeF_iff.2 ⟨hb, by omega, by omega⟩
theorem safeF_congr (h0 : Pos h m f) (hi : i < h) (hj : j < m) {g : Nat → Nat → Int} (hf : ∀ k l, k < h → l < m → f k l = g k l) (hb : ∀ k l, k < h → l < m → b k l = b' k l) : safeF h m f b i j d = safeF h m g b' i j d := by
  unfold safeF; rw [high_congr h0 hi hj hf hb, low_congr h0 hi hj hf hb, hf i j hi hj, hb i j hi hj]
theorem toldF_congr (h0 : Pos h m f) (hi : i < h) (hj : j < m) {g : Nat → Nat → Int} (hf : ∀ k l, k < h → l < m → f k l = g k l) (hb : ∀ k l, k < h → l < m → b k l = b' k l) : toldF h m f b i j = toldF h m g b' i j := by
  unfold toldF; rw [high_congr h0 hi hj hf hb, low_congr h0 hi hj hf hb, hb i j hi hj]
theorem toldF_turn (h0 : Pos h m f) (hi : i < h) (hj : j < m) : toldF m h (fun i j => f j i) (fun i j => b j i) j i = toldF h m f b i j := by
  unfold toldF; rw [high_turn h0 hi hj, low_turn h0 hi hj]
theorem toldF_no (hb : b i j = false) : toldF h m f b i j = false := by unfold toldF; rw [hb]; rfl
theorem safe_not_told (hs : safeF h m f b i j d = true) (hp : 0 < d) (h0 : Pos h m f) (hi : i < h) (hj : j < m) : toldF h m f b i j = false := by
  obtain ⟨h1, h2, h3⟩ := safeF_iff.1 hs
  have a2 := low_le (b := b) h0 hi hj
  unfold toldF
  rw [h1, Bool.true_and]
  exact decide_eq_false (by omega)
/-- Where told cells are shown, no hidden cell is told. -/
theorem told_gone (h0 : Pos h m f) (hi : i < h) (hj : j < m) : toldF h m f (fun k l => b k l && !toldF h m f b k l) i j = false := by
  cases hx : (b i j && !toldF h m f b i j) with
  | false => exact toldF_no hx
  | true =>
    simp only [Bool.and_eq_true, Bool.not_eq_true'] at hx
    obtain ⟨h1, h2⟩ := hx
    have hfit : ∀ x, Fits h m f b x ↔ Fits h m f (fun k l => b k l && !toldF h m f b k l) x := told_unset h0
      (fun k l _ _ e => by simp only [Bool.and_eq_true] at e; exact e.1)
      (fun k l _ _ e1 e2 => by
        simp only [e1, Bool.true_and, Bool.not_eq_false'] at e2
        unfold toldF at e2
        simp only [e1, Bool.true_and, decide_eq_true_eq] at e2
        exact e2)
    have e1 := high_same h0 h0 hi hj hfit
    have e2 := low_same h0 h0 hi hj hfit
    have e : toldF h m f (fun k l => b k l && !toldF h m f b k l) i j = ((b i j && !toldF h m f b i j) && decide (high h m f (fun k l => b k l && !toldF h m f b k l) i j = low h m f (fun k l => b k l && !toldF h m f b k l) i j)) := rfl
    have h3 : decide (high h m f b i j = low h m f b i j) = false := by
      unfold toldF at h2
      rwa [h1, Bool.true_and] at h2
    rw [e, ← e1, ← e2, h3, Bool.and_false]
end
end Go.DC
namespace Go.Proofs.Ytelcdjbbcffliaa
open Go.RowKit Go.DC
section
variable {n m : Nat} {f : Nat → Nat → Int} {b g : Nat → Nat → Bool}
theorem toldV_tab (hf : InT n m f) {i j : Nat} (hi : i < n) (hj : j < m) : toldV (tabOf n m f) (tabOf n m b) i j = toldF n m f b i j := by
  have hw : wide (tabOf n m f) = m := wide_tabOf f (by omega)
  rw [toldV_at (maskOk_tabOf hf) (by rw [tabOf_length]; exact hi) (by rw [hw]; exact hj), tabOf_length, hw]
  exact (toldF_congr hf.pos hi hj (fun k l hk hl => (get_tabOf f hk hl).symm) (fun k l hk hl => (get_tabOf b hk hl).symm)).symm
theorem safeV_tab (hf : InT n m f) {i j : Nat} {d : Int} (hi : i < n) (hj : j < m) (hd : inCell d = true) : safeV (tabOf n m f) (tabOf n m b) i j d = safeF n m f b i j d := by
  have hw : wide (tabOf n m f) = m := wide_tabOf f (by omega)
  rw [safeV_at (maskOk_tabOf hf) (by rw [tabOf_length]; exact hi) (by rw [hw]; exact hj) hd, tabOf_length, hw]
  exact (safeF_congr hf.pos hi hj (fun k l hk hl => (get_tabOf f hk hl).symm) (fun k l hk hl => (get_tabOf b hk hl).symm)).symm
theorem manyV_tab (hf : InT n m f) : manyV (tabOf n m f) (tabOf n m b) = manyN n m (toldF n m f b) := by
  have hw : wide (tabOf n m f) = m := wide_tabOf f (by have := hf.1; omega)
  unfold manyV
  rw [maskOk_tabOf hf, tabOf_length, hw]
  exact (manyN_congr fun i j hi hj => toldF_congr hf.pos hi hj (fun k l hk hl => (get_tabOf f hk hl).symm) (fun k l hk hl => (get_tabOf b hk hl).symm)).symm
theorem needV_tab (hf : InT n m f) {d : Int} (hd : inCell d = true) : needV (tabOf n m f) (tabOf n m g) (tabOf n m b) d = manyN n m (notSafe g (fun i j => safeF n m f b i j d)) := by
  have hw : wide (tabOf n m f) = m := wide_tabOf f (by have := hf.1; omega)
  rw [needV_yes (needOk_iff.2 ⟨maskOk_tabOf hf, maskOk_tabOf hf, hd⟩), tabOf_length, hw]
  refine manyN_congr fun i j hi hj => ?_
  unfold needF notSafe
  rw [tabOf_length, hw, get_tabOf g hi hj]
  show (g i j && !(safeF n m (get 0 (tabOf n m f)) (get false (tabOf n m b)) i j d)) = (g i j && !(safeF n m f b i j d))
  rw [← safeF_congr hf.pos hi hj (fun k l hk hl => (get_tabOf f hk hl).symm) (fun k l hk hl => (get_tabOf b hk hl).symm)]
end
/-- A call that hands back a Bool. -/
def BoolOut (v : Bool) (w : World) (e : Ending) (w' : World) : Prop := e = .returned (.bool v) ∧ Ext w w'
theorem BoolOut.of {v : Bool} {w0 w : World} {e : Ending} {w' : World} (h : Ret (.bool v) w e w') (ex : Ext w0 w) : BoolOut v w0 e w' := ⟨h.1, ex.trans h.2⟩
theorem BoundTold_tab (a mb : Option Addr) (c d n m k l : Nat) (f : Nat → Nat → Int) (b : Nat → Nat → Bool) (w0 w : World) (ht : IRows w a (tabOf n m f)) (hmk : BRows w mb (tabOf n m b)) (hf : InT n m f) (hk : k < n) (hl : l < m) (ex : Ext w0 w) :
    Calls Try.prog 66 #[.slice a n c, .slice mb n d, .int .i64 k, .int .i64 l] w (BoolOut (toldF n m f b k l) w0) := by
  have h := BoundTold_any a mb c d (tabOf n m f) (tabOf n m b) k l w ht hmk (by rw [tabOf_length]; have := hf.1; omega) (by rw [tabOf_length]; have := hf.1; omega)
  rw [tabOf_length, tabOf_length, toldV_tab hf hk hl] at h
  exact h.mono fun _ _ hr => BoolOut.of hr ex
theorem BoundMany_tab (a mb : Option Addr) (c d n m : Nat) (f : Nat → Nat → Int) (b : Nat → Nat → Bool) (w0 w : World) (ht : IRows w a (tabOf n m f)) (hmk : BRows w mb (tabOf n m b)) (hf : InT n m f) (ex : Ext w0 w) :
    Calls Try.prog 39 #[.slice a n c, .slice mb n d] w (AddOut (manyN n m (toldF n m f b)) w0) := by
  have h := BoundMany_any a mb c d (tabOf n m f) (tabOf n m b) w ht hmk (by rw [tabOf_length]; have := hf.1; omega) (by rw [tabOf_length]; have := hf.1; omega)
  rw [tabOf_length, tabOf_length, manyV_tab hf] at h
  exact h.mono fun _ _ hr => AddOut.of hr ex
/-- A copy of a mask, ready to be written. -/
def CopyMask (n m : Nat) (b : Nat → Nat → Bool) (w : World) (e : Ending) (w' : World) : Prop := ∃ o c vs, e = .returned (.slice (some ⟨o, 0, none⟩) n c) ∧ OwnB w' w.heap.size (.slice (some ⟨o, 0, none⟩) n c) vs (tabOf n m b) ∧ Ext w w'
end Go.Proofs.Ytelcdjbbcffliaa
