/- Words for the laws on bounds: tables and masks as functions. -/
import Derived.Test.YtnlolgooicgfdaaShift
import Derived.Test.YtnlolgooicgfdaaCells
import Derived.Test.YtnlolgooicgfdaaTabEqB
import Derived.Test.YtnlolgooicgfdaaSums
import Derived.Test.YtnlolgooicgfdaaTurn
/- Words for the laws on bounds: tables and masks as functions. -/
namespace Go.DC
section
variable {h m : Nat} {f g : Nat → Nat → Int} {b b' : Nat → Nat → Bool} {i j : Nat} {x : Nat → Nat → Int}
theorem Fits.congr (hx : Fits h m f b x) (hf : ∀ k l, k < h → l < m → f k l = g k l) (hb : ∀ k l, k < h → l < m → b k l = b' k l) : Fits h m g b' x :=
  ⟨fun k hk => (hx.rows k hk).trans (sumN_congr fun l hl => hf k l hk hl), fun l hl => (hx.cols l hl).trans (sumN_congr fun k hk => hf k l hk hl), fun k l hk hl e => (hx.same k l hk hl ((hb k l hk hl).trans e)).trans (hf k l hk hl), hx.pos⟩
theorem high_congr (h0 : Pos h m f) (hi : i < h) (hj : j < m) (hf : ∀ k l, k < h → l < m → f k l = g k l) (hb : ∀ k l, k < h → l < m → b k l = b' k l) : high h m f b i j = high h m g b' i j :=
  high_same h0 (fun k l hk hl => by rw [← hf k l hk hl]; exact h0 k l hk hl) hi hj fun x => ⟨fun hx => hx.congr hf hb, fun hx => hx.congr (fun k l hk hl => (hf k l hk hl).symm) (fun k l hk hl => (hb k l hk hl).symm)⟩
theorem low_congr (h0 : Pos h m f) (hi : i < h) (hj : j < m) (hf : ∀ k l, k < h → l < m → f k l = g k l) (hb : ∀ k l, k < h → l < m → b k l = b' k l) : low h m f b i j = low h m g b' i j :=
  low_same h0 (fun k l hk hl => by rw [← hf k l hk hl]; exact h0 k l hk hl) hi hj fun x => ⟨fun hx => hx.congr hf hb, fun hx => hx.congr (fun k l hk hl => (hf k l hk hl).symm) (fun k l hk hl => (hb k l hk hl).symm)⟩
end
end Go.DC
namespace Go.Proofs.Ytnlolgooicgfdaa
open Go.RowKit Go.DC
section
variable {n m : Nat} {f : Nat → Nat → Int} {b : Nat → Nat → Bool}
theorem InT.pos (hf : InT n m f) : Pos n m f := fun k l hk hl => (hf.2 k l hk hl).1
theorem maskOk_tabOf (hf : InT n m f) : maskOk (tabOf n m f) (tabOf n m b) = true :=
  maskOk_yes (tabOk_tabOf.2 hf) (by rw [tabOf_length, tabOf_length]) fun k hk => by rw [tabOf_rowlen, wide_tabOf f (by have := hf.1; omega)]
theorem maskOk_ex {A : List (List Int)} {mk : List (List Bool)} (h : maskOk A mk = true) : ∃ n m f b, A = tabOf n m f ∧ mk = tabOf n m b ∧ InT n m f := by
  obtain ⟨h1, h2⟩ := maskOk_rect h
  obtain ⟨e, hf⟩ := tabOk_form h1
  exact ⟨_, _, _, _, e, h2.eq false, hf⟩
theorem highV_tab (hf : InT n m f) {i j : Nat} (hi : i < n) (hj : j < m) : highV (tabOf n m f) (tabOf n m b) i j = high n m f b i j := by
  have hw : wide (tabOf n m f) = m := wide_tabOf f (by omega)
  rw [highV_at (maskOk_tabOf hf) (by rw [tabOf_length]; exact hi) (by rw [hw]; exact hj), tabOf_length, hw]
  exact (high_congr hf.pos hi hj (fun k l hk hl => (get_tabOf f hk hl).symm) (fun k l hk hl => (get_tabOf b hk hl).symm)).symm
theorem lowV_tab (hf : InT n m f) {i j : Nat} (hi : i < n) (hj : j < m) : lowV (tabOf n m f) (tabOf n m b) i j = low n m f b i j := by
  have hw : wide (tabOf n m f) = m := wide_tabOf f (by omega)
  rw [lowV_at (maskOk_tabOf hf) (by rw [tabOf_length]; exact hi) (by rw [hw]; exact hj), tabOf_length, hw]
  exact (low_congr hf.pos hi hj (fun k l hk hl => (get_tabOf f hk hl).symm) (fun k l hk hl => (get_tabOf b hk hl).symm)).symm
theorem InT.high_bd (hf : InT n m f) {i j : Nat} (hi : i < n) (hj : j < m) : 0 ≤ high n m f b i j ∧ high n m f b i j ≤ 396 := by
  have h := Go.Proofs.Ytnlolgooicgfdaa.high_bd (maskOk_tabOf (b := b) hf) (i := i) (j := j) (by rw [tabOf_length]; exact hi) (by rw [wide_tabOf f (by omega)]; exact hj)
  rw [← highV_at (maskOk_tabOf hf) (by rw [tabOf_length]; exact hi) (by rw [wide_tabOf f (by omega)]; exact hj), highV_tab hf hi hj] at h
  exact h
theorem InT.low_bd (hf : InT n m f) {i j : Nat} (hi : i < n) (hj : j < m) : 0 ≤ low n m f b i j ∧ low n m f b i j ≤ 99 := by
  have h := Go.Proofs.Ytnlolgooicgfdaa.low_bd (maskOk_tabOf (b := b) hf) (i := i) (j := j) (by rw [tabOf_length]; exact hi) (by rw [wide_tabOf f (by omega)]; exact hj)
  rw [← lowV_at (maskOk_tabOf hf) (by rw [tabOf_length]; exact hi) (by rw [wide_tabOf f (by omega)]; exact hj), lowV_tab hf hi hj] at h
  exact h
theorem allM_tab (s : Bool) : allM (tabOf n m f) s = tabOf n m (fun _ _ => s) := by
  apply List.ext_getElem
  · simp [allM, tabOf]
  · intro i h1 h2
    apply List.ext_getElem
    · simp [allM, tabOf]
    · intro j h3 h4
      simp [allM, tabOf]
end
/-- A new mask. -/
def NewMask (n m : Nat) (b : Nat → Nat → Bool) (w : World) (e : Ending) (w' : World) : Prop := ∃ a c, e = .returned (.slice a n c) ∧ BRows w' a (tabOf n m b) ∧ Ext w w'
theorem NewMask.of {n m : Nat} {b : Nat → Nat → Bool} {w : World} {e : Ending} {w' : World} (h : NewTab encB 4 42 (tabOf n m b) w e w') : NewMask n m b w e w' := by
  obtain ⟨v, vs, rfl, o, e⟩ := h
  obtain ⟨a, c, rfl, _, r, _⟩ := o.rows
  rw [tabOf_length]
  exact ⟨a, c, rfl, r, e⟩
theorem NewMask.to {n m : Nat} {b : Nat → Nat → Bool} {w0 w : World} {e : Ending} {w' : World} (h : NewMask n m b w e w') (ex : Ext w0 w) : NewMask n m b w0 e w' := by
  obtain ⟨a, c, h1, h2, h3⟩ := h
  exact ⟨a, c, h1, h2, ex.trans h3⟩
/-- A new table. -/
def NewTable (n m : Nat) (f : Nat → Nat → Int) (w : World) (e : Ending) (w' : World) : Prop := ∃ a c, e = .returned (.slice a n c) ∧ IRows w' a (tabOf n m f) ∧ Ext w w'
theorem AddOut.of {v : Int} {w0 w : World} {e : Ending} {w' : World} (h : Ret (.int .i64 v) w e w') (ex : Ext w0 w) : AddOut v w0 e w' := ⟨h.1, ex.trans h.2⟩
theorem BoundHigh_tab (a mb : Option Addr) (c d n m k l : Nat) (f : Nat → Nat → Int) (b : Nat → Nat → Bool) (w0 w : World) (ht : IRows w a (tabOf n m f)) (hmk : BRows w mb (tabOf n m b)) (hf : InT n m f) (hk : k < n) (hl : l < m) (ex : Ext w0 w) :
    Calls Try.prog 72 #[.slice a n c, .slice mb n d, .int .i64 k, .int .i64 l] w (AddOut (high n m f b k l) w0) := by
  have h := BoundHigh_any a mb c d (tabOf n m f) (tabOf n m b) k l w ht hmk (by rw [tabOf_length]; have := hf.1; omega) (by rw [tabOf_length]; have := hf.1; omega)
  rw [tabOf_length, tabOf_length, highV_tab hf hk hl] at h
  exact h.mono fun _ _ hr => AddOut.of hr ex
theorem BoundLow_tab (a mb : Option Addr) (c d n m k l : Nat) (f : Nat → Nat → Int) (b : Nat → Nat → Bool) (w0 w : World) (ht : IRows w a (tabOf n m f)) (hmk : BRows w mb (tabOf n m b)) (hf : InT n m f) (hk : k < n) (hl : l < m) (ex : Ext w0 w) :
    Calls Try.prog 73 #[.slice a n c, .slice mb n d, .int .i64 k, .int .i64 l] w (AddOut (low n m f b k l) w0) := by
  have h := BoundLow_any a mb c d (tabOf n m f) (tabOf n m b) k l w ht hmk (by rw [tabOf_length]; have := hf.1; omega) (by rw [tabOf_length]; have := hf.1; omega)
  rw [tabOf_length, tabOf_length, lowV_tab hf hk hl] at h
  exact h.mono fun _ _ hr => AddOut.of hr ex
theorem allMask_tab (a : Option Addr) (c n m : Nat) (f : Nat → Nat → Int) (s : Bool) (w0 w : World) (ht : IRows w a (tabOf n m f)) (hf : InT n m f) (ex : Ext w0 w) :
    Calls Try.prog 14 #[.slice a n c, .bool s] w (NewMask n m (fun _ _ => s) w0) := by
  have h := allMask_any a c (tabOf n m f) s w ht (by rw [tabOf_length]; have := hf.1; omega) (fun k hk => by rw [tabOf_rowlen]; have := hf.1; omega)
  rw [tabOf_length, allM_tab] at h
  exact h.mono fun _ _ hr => (NewMask.of hr).to ex
end Go.Proofs.Ytnlolgooicgfdaa

/- More words for the laws on bounds: turned tables, totals, sums. -/
namespace Go.Proofs.Ytnlolgooicgfdaa
open Go.RowKit Go.DC
section
variable {n m : Nat} {f : Nat → Nat → Int} {b : Nat → Nat → Bool}
theorem InT.turned (hf : InT n m f) : InT m n (fun i j => f j i) := ⟨by have := hf.1; omega, fun i j hi hj => hf.2 j i hj hi⟩
theorem turnM_tab (hf : InT n m f) : turnM (tabOf n m f) = tabOf m n (fun i j => f j i) := by
  have hh : 0 < n := by have := hf.1; omega
  unfold turnM turnT
  rw [if_pos (tabOk_tabOf.2 hf), wide_tabOf f hh, tabOf_length]
  exact tabOf_congr fun i j hi hj => get_tabOf f hj hi
theorem total_tab (hf : InT n m f) : totalOf (tabOf n m f) = sumN n (fun i => sumN m (f i)) := by
  have hn : 0 < n := by have := hf.1; omega
  unfold totalOf totT
  rw [if_pos (tabOk_tabOf.2 hf), tabOf_length, wide_tabOf _ hn]
  exact sumN_congr fun i hi => sumN_congr fun j hj => get_tabOf _ hi hj
theorem InT.total_bd (hf : InT n m f) : 0 ≤ sumN n (fun i => sumN m (f i)) ∧ sumN n (fun i => sumN m (f i)) ≤ 1584 := by
  have hh := hf.1
  refine ⟨sumN_nonneg fun i hi => sumN_nonneg fun j hj => (hf.2 i j hi hj).1, ?_⟩
  have e : sumN n (fun i => sumN m (f i)) ≤ sumN n (fun _ => 396) := sumN_le fun i hi => by
    have e : sumN m (f i) ≤ sumN m (fun _ => 99) := sumN_le fun l hl => (hf.2 i l hi hl).2
    rw [sumN_const] at e; omega
  rw [sumN_const] at e; omega
end
/-- A new table, and true. -/
def NewTableOk (n m : Nat) (f : Nat → Nat → Int) (w : World) (e : Ending) (w' : World) : Prop := ∃ a c, e = .returned (.tuple #[.slice a n c, .bool true]) ∧ IRows w' a (tabOf n m f) ∧ Ext w w'
theorem TableTotal_tab (a : Option Addr) (c n m : Nat) (f : Nat → Nat → Int) (w0 w : World) (ht : IRows w a (tabOf n m f)) (hf : InT n m f) (ex : Ext w0 w) :
    Calls Try.prog 17 #[.slice a n c] w (AddOut (sumN n (fun i => sumN m (f i))) w0) := by
  have h := TableTotal_any a c (tabOf n m f) w ht (by rw [tabOf_length]; have := hf.1; omega)
  rw [tabOf_length, total_tab hf] at h
  exact h.mono fun _ _ hr => AddOut.of hr ex
end Go.Proofs.Ytnlolgooicgfdaa
