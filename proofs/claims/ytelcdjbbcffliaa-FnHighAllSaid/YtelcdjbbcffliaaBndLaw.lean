/- Words for the laws on bounds: tables and masks as functions. -/
import Derived.Test.YtelcdjbbcffliaaShift
import Derived.Test.YtelcdjbbcffliaaCells
import Derived.Test.YtelcdjbbcffliaaTabEqB
import Derived.Test.YtelcdjbbcffliaaSums
import Derived.Test.YtelcdjbbcffliaaTurn
/- Words for the laws on bounds: tables and masks as functions. -/
namespace Go.DC
section
variable {h m : Nat} {f g : Nat → Nat → Int} {b b' : Nat → Nat → Bool} {i j : Nat} {x : Nat → Nat → Int}
theorem Fits.congr (hx : Fits h m f b x) (hf : ∀ k l, k < h → l < m → f k l = g k l) (hb : ∀ k l, k < h → l < m → b k l = b' k l) : Fits h m g b' x :=
  ⟨fun k hk => (hx.rows k hk).trans (sumN_congr fun l hl => hf k l hk hl), fun l hl => (hx.cols l hl).trans (sumN_congr fun k hk => hf k l hk hl), fun k l hk hl e => (hx.same k l hk hl ((hb k l hk hl).trans e)).trans (hf k l hk hl), hx.pos⟩
theorem high_congr (h0 : Pos h m f) (hi : i < h) (hj : j < m) (hf : ∀ k l, k < h → l < m → f k l = g k l) (hb : ∀ k l, k < h → l < m → b k l = b' k l) : high h m f b i j = high h m g b' i j :=
  high_same h0 (fun k l hk hl => by rw [← hf k l hk hl]; exact h0 k l hk hl) hi hj fun x => ⟨fun hx => hx.congr hf hb, fun hx => hx.congr (fun k l hk hl => (hf k l hk hl).symm) (fun k l hk hl => (hb k l hk hl).symm)⟩
theorem low_congr (h0 : Pos h m f) (hi : i < h) (hj : j < m) (hf : ∀ k l, k < h → l < m → f k l = g k l) (hb : ∀ k l, k < h → l < m → b k l = b' k l) : low h m f b i j = low h m g b' i j :=
  low_same h0 (fun k l hk hl => by rw [← hf k l hk hl]; exact h0 k l hk hl) hi hj fun x => ⟨fun hx => hx.congr hf hb, fun hx => hx.congr (fun k l hk hl => (hf k l hk hl).symm) (fun k l hk hl => (hb k l hk hl).symm)⟩
end
end Go.DC
namespace Go.Proofs.Ytelcdjbbcffliaa
open Go.RowKit Go.DC
section
variable {n m : Nat} {f : Nat → Nat → Int} {b : Nat → Nat → Bool}
theorem InT.pos (hf : InT n m f) : Pos n m f := fun k l hk hl => (hf.2 k l hk hl).1
theorem maskOk_tabOf (hf : InT n m f) : maskOk (tabOf n m f) (tabOf n m b) = true :=
  maskOk_yes (tabOk_tabOf.2 hf) (by rw [tabOf_length, tabOf_length]) fun k hk => by rw [tabOf_rowlen, wide_tabOf f (by have := hf.1; omega)]
theorem maskOk_ex {A : List (List Int)} {mk : List (List Bool)} (h : maskOk A mk = true) : ∃ n m f b, A = tabOf n m f ∧ mk = tabOf n m b ∧ InT n m f := by
  obtain ⟨h1, h2⟩ := maskOk_rect h
  obtain ⟨e, hf⟩ := tabOk_form h1
  exact ⟨_, _, _, _, e, h2.eq false, hf⟩
theorem highV_tab (hf : InT n m f) {i j : Nat} (hi : i < n) (hj : j < m) : highV (tabOf n m f) (tabOf n m b) i j = high n m f b i j := by
  have hw : wide (tabOf n m f) = m := wide_tabOf f (by omega)
  rw [highV_at (maskOk_tabOf hf) (by rw [tabOf_length]; exact hi) (by rw [hw]; exact hj), tabOf_length, hw]
  exact (high_congr hf.pos hi hj (fun k l hk hl => (get_tabOf f hk hl).symm) (fun k l hk hl => (get_tabOf b hk hl).symm)).symm
theorem lowV_tab (hf : InT n m f) {i j : Nat} (hi : i < n) (hj : j < m) : lowV (tabOf n m f) (tabOf n m b) i j = low n m f b i j := by
  have hw : wide (tabOf n m f) = m := wide_tabOf f (by omega)
  rw [lowV_at (maskOk_tabOf hf) (by rw [tabOf_length]; exact hi) (by rw [hw]; exact hj), tabOf_length, hw]
  exact (low_congr hf.pos hi hj (fun k l hk hl => (get_tabOf f hk hl).symm) (fun k l hk hl => (get_tabOf b hk hl).symm)).symm
theorem InT.high_bd (hf : InT n m f) {i j : Nat} (hi : i < n) (hj : j < m) : 0 ≤ high n m f b i j ∧ high n m f b i j ≤ 396 := by
  have h := Go.Proofs.Ytelcdjbbcffliaa.high_bd (maskOk_tabOf (b := b) hf) (i := i) (j := j) (by rw [tabOf_length]; exact hi) (by rw [wide_tabOf f (by omega)]; exact hj)
  rw [← highV_at (maskOk_tabOf hf) (by rw [tabOf_length]; exact hi) (by rw [wide_tabOf f (by omega)]; exact hj), highV_tab hf hi hj] at h
  exact h
theorem InT.low_bd (hf : InT n m f) {i j : Nat} (hi : i < n) (hj : j < m) : 0 ≤ low n m f b i j ∧ low n m f b i j ≤ 99 := by
  have h := Go.Proofs.Ytelcdjbbcffliaa.low_bd (maskOk_tabOf (b := b) hf) (i := i) (j := j) (by rw [tabOf_length]; exact hi) (by rw [wide_tabOf f (by omega)]; exact hj)
  rw [← lowV_at (maskOk_tabOf hf) (by rw [tabOf_length]; exact hi) (by rw [wide_tabOf f (by omega)]; exact hj), lowV_tab hf hi hj] at h
  exact h
theorem allM_tab (s : Bool) : allM (tabOf n m f) s = tabOf n m (fun _ _ => s) := by
  apply List.ext_getElem
  · simp [allM, tabOf]
  · intro i h1 h2
    apply List.ext_getElem
    · simp [allM, tabOf]
    · intro j h3 h4
      simp [allM, tabOf]
end
/-- A new mask. -/
def NewMask (n m : Nat) (b : Nat → Nat → Bool) (w : World) (e : Ending) (w' : World) : Prop := ∃ a c, e = .returned (.slice a n c) ∧ BRows w' a (tabOf n m b) ∧ Ext w w'
theorem NewMask.of {n m : Nat} {b : Nat → Nat → Bool} {w : World} {e : Ending} {w' : World} (h : NewTab encB 4 53 (tabOf n m b) w e w') : NewMask n m b w e w' := by
  obtain ⟨v, vs, rfl, o, e⟩ := h
  obtain ⟨a, c, rfl, _, r, _⟩ := o.rows
  rw [tabOf_length]
  exact ⟨a, c, rfl, r, e⟩
theorem NewMask.to {n m : Nat} {b : Nat → Nat → Bool} {w0 w : World} {e : Ending} {w' : World} (h : NewMask n m b w e w') (ex : Ext w0 w) : NewMask n m b w0 e w' := by
  obtain ⟨a, c, h1, h2, h3⟩ := h
  exact ⟨a, c, h1, h2, ex.trans h3⟩
/-- A new table. -/
def NewTable (n m : Nat) (f : Nat → Nat → Int) (w : World) (e : Ending) (w' : World) : Prop := ∃ a c, e = .returned (.slice a n c) ∧ IRows w' a (tabOf n m f) ∧ Ext w w'
theorem AddOut.of {v : Int} {w0 w : World} {e : Ending} {w' : World} (h : Ret (.int .i64 v) w e w') (ex : Ext w0 w) : AddOut v w0 e w' := ⟨h.1, ex.trans h.2⟩
theorem BoundHigh_tab (a mb : Option Addr) (c d n m k l : Nat) (f : Nat → Nat → Int) (b : Nat → Nat → Bool) (w0 w : World) (ht : IRows w a (tabOf n m f)) (hmk : BRows w mb (tabOf n m b)) (hf : InT n m f) (hk : k < n) (hl : l < m) (ex : Ext w0 w) :
    Calls Try.prog 16 #[.slice a n c, .slice mb n d, .int .i64 k, .int .i64 l] w (AddOut (high n m f b k l) w0) := by
  have h := BoundHigh_any a mb c d (tabOf n m f) (tabOf n m b) k l w ht hmk (by rw [tabOf_length]; have := hf.1; omega) (by rw [tabOf_length]; have := hf.1; omega)
  rw [tabOf_length, tabOf_length, highV_tab hf hk hl] at h
  exact h.mono fun _ _ hr => AddOut.of hr ex
theorem BoundLow_tab (a mb : Option Addr) (c d n m k l : Nat) (f : Nat → Nat → Int) (b : Nat → Nat → Bool) (w0 w : World) (ht : IRows w a (tabOf n m f)) (hmk : BRows w mb (tabOf n m b)) (hf : InT n m f) (hk : k < n) (hl : l < m) (ex : Ext w0 w) :
    Calls Try.prog 18 #[.slice a n c, .slice mb n d, .int .i64 k, .int .i64 l] w (AddOut (low n m f b k l) w0) := by
  have h := BoundLow_any a mb c d (tabOf n m f) (tabOf n m b) k l w ht hmk (by rw [tabOf_length]; have := hf.1; omega) (by rw [tabOf_length]; have := hf.1; omega)
  rw [tabOf_length, tabOf_length, lowV_tab hf hk hl] at h
  exact h.mono fun _ _ hr => AddOut.of hr ex
theorem allMask_tab (a : Option Addr) (c n m : Nat) (f : Nat → Nat → Int) (s : Bool) (w0 w : World) (ht : IRows w a (tabOf n m f)) (hf : InT n m f) (ex : Ext w0 w) :
    Calls Try.prog 27 #[.slice a n c, .bool s] w (NewMask n m (fun _ _ => s) w0) := by
  have h := allMask_any a c (tabOf n m f) s w ht (by rw [tabOf_length]; have := hf.1; omega) (fun k hk => by rw [tabOf_rowlen]; have := hf.1; omega)
  rw [tabOf_length, allM_tab] at h
  exact h.mono fun _ _ hr => (NewMask.of hr).to ex
set_option maxHeartbeats 4000000 in
theorem turnMask_any (a : Option Addr) (c n m : Nat) (b : Nat → Nat → Bool) (w : World) (ht : BRows w a (tabOf n m b)) (h1 : 1 ≤ n) (h4 : n ≤ 4) (m4 : m ≤ 4) :
    Calls Try.prog 26 #[.slice a n c] w (NewTab encB 4 53 (tabOf m n (fun i j => b j i)) w) := by
  have HT := Lib.hid ht; clear ht
  have R := Lib.hid (rect_tabOf n m b)
  obtain ⟨b0, off0, a0, c0, rfl, hc0⟩ := HT.out.rowC R.out (i := 0) (by omega)
  simp only [Nat.add_zero] at hc0
  have h0z : (0 : Int) < (n : Int) := by omega
  obtain ⟨T, hT⟩ : ∃ T, tabOf m n (fun i j => b j i) = T := ⟨_, rfl⟩
  have hTl : T.length = m := by rw [← hT, tabOf_length]
  have hTr : ∀ k (hk : k < T.length), T[k] = (List.range n).map fun i => b i k := fun k hk => by subst hT; rw [tabOf_row]
  rw [hT]
  have HTL := Lib.hid hTl; have HTR := Lib.hid hTr
  clear hT hTr hTl
  have own0 : OwnB (w.alloc (.cells #[] 53)) w.heap.size (.slice (some ⟨w.heap.size, 0, none⟩) 0 0) [] [] := ownT_empty (enc := encB) (te := 4) (ts := 53) w (Nat.le_refl _)
  have e0 : Ext w (w.alloc (.cells #[] 53)) := (Ext.refl w).alloc _
  go_enter Try.func26, Try.ntmps26
  go_wp2_with fail
  go_loopg [3, 4] m (fun g v i wr => ∃ (k : Nat) (vs : List Value), k ≤ m ∧ g = m - k ∧ i = .int .i64 k ∧ OwnB wr w.heap.size v vs (T.take k) ∧ Ext w wr)
  case atStart => exact ⟨0, [], Nat.zero_le _, rfl, rfl, own0, e0⟩
  case round =>
    clear own0 e0
    obtain ⟨k, vs, hk, rfl, rfl, own, hext⟩ := hrel
    have hc0' := hext.cell hc0
    by_cases hlt : k < m
    · have hz : (k : Int) < (m : Int) := by omega
      have htl4 : (T.take k).length ≤ 4 := by rw [List.length_take]; omega
      have htk0 : T.take (k + 1) = T.take k ++ [T[k]'(by rw [HTL.out]; exact hlt)] := List.take_succ_eq_append_getElem (by rw [HTL.out]; exact hlt)
      obtain ⟨TK, hTK⟩ : ∃ TK, T.take k = TK := ⟨_, rfl⟩
      rw [hTK] at own htl4 htk0
      clear hTK
      obtain ⟨av, cv, hv, _, _⟩ := own.rows
      subst hv
      have hsz := hext.size
      have hkT : k < T.length := by rw [HTL.out]; exact hlt
      have hrow := HTR.out k hkT
      have htk : T.take (k + 1) = TK ++ [T[k]] := htk0
      obtain ⟨Z, hZ⟩ : ∃ Z, T[k] = Z := ⟨_, rfl⟩
      rw [hZ] at hrow htk
      have hZl : Z.length = n := by rw [hrow]; simp
      have hZa : ∀ i (hi : i < Z.length), Z[i] = b i k := fun i hi => by subst hrow; simp
      have bld0 := Bld.start own hsz
      have xa := (Ext.refl wr).alloc (.cells #[] 4)
      have hat : ∀ k', (Value.slice av TK.length cv).ownBlock = some k' → w.heap.size ≤ k' := fun k' hk' => (own.outer_lt hk').1
      have HA := Lib.hid hat; have HTK := Lib.hid htk; have HZL := Lib.hid hZl; have HZA := Lib.hid hZa
      have e2 := hext.trans xa
      clear htk0
      have BL0 := Lib.hid bld0
      clear own hat xa hrow htk hZ hZl hZa hext bld0
      go_wp2_with fail
      go_loopg [5, 6] n (fun g v' i wi => ∃ (j : Nat), j ≤ n ∧ g = n - j ∧ i = .int .i64 j ∧ Hid (BldB wi w.heap.size (.slice av TK.length cv) vs TK v' (Z.take j)) ∧ Ext w wi)
      case atStart => exact ⟨0, Nat.zero_le _, rfl, rfl, BL0.out, e2⟩
      case round =>
        clear BL0 e2 hc0' hsz
        obtain ⟨j, hj, rfl, rfl, bld, hext⟩ := hrel
        by_cases hjt : j < n
        · have hjz : (j : Int) < (n : Int) := by omega
          obtain ⟨tb, tf, tb2, tf2, tk, ea, ct1, ct2⟩ := (HT.out.ext hext).atC false R.out hjt hlt
          cases ea
          rw [get_tabOf b hjt hlt] at ct2
          unfold encB at ct2
          have hjZ : j < Z.length := by rw [HZL.out]; exact hjt
          have hzt : Z.take (j + 1) = Z.take j ++ [b j k] := by rw [List.take_succ_eq_append_getElem hjZ, HZA.out j hjZ]
          obtain ⟨z, hz2⟩ : ∃ z, b j k = z := ⟨_, rfl⟩
          rw [hz2] at ct2 hzt
          have bld1 := bld.out.ext ((Ext.refl wr).alloc (.cells #[.bool z] 4))
          have hone : BRow (wr.alloc (.cells #[.bool z] 4)) (some ⟨wr.heap.size, 0, none⟩) [z] := one_row wr z
          have hb : (Z.take j).length + [z].length ≤ 10000000 := by simp; omega
          have hB : w.heap.size ≤ (wr.alloc (.cells #[.bool z] 4)).heap.size := by have := hext.size; simp; omega
          have B1 := Lib.hid bld1; have HO := Lib.hid hone; have HZT := Lib.hid hzt; have HBB := Lib.hid hb; have HB := Lib.hid hB
          have e2 := hext.alloc (.cells #[.bool z] 4)
          clear bld1 hone bld hzt hb hB hz2 hext
          go_wp2_with (at_builtin; refine wpList_rowB rfl (.tmp 28) (.tmp 36) rfl w.heap.size _ (Z.take j) rfl B1.out.row _ _ [z] rfl (fun h => by cases h) HO.out HBB.out HB.out ?_; intro v2 w2 hu hg _ hat)
          have bld2 := B1.out.more hg hu hat
          rw [← HZT.out] at bld2
          have e3 := e2.grownNew hg (fun k' hk' => (B1.out.lt hk').1)
          have B2 := Lib.hid bld2
          clear hu hg hat B1 HO bld2 e2
          go_wp2_with fail
          go_roundg (n - (j + 1))
          case measure => omega
          case rel => exact ⟨j + 1, by omega, rfl, by go_num, B2.out, e3⟩
        · have hjz : ¬ (j : Int) < (n : Int) := by omega
          obtain rfl : j = n := by omega
          have hZj : Z.take j = Z := List.take_of_length_le (by rw [HZL.out]; omega)
          have bldx := bld.out
          rw [hZj] at bldx
          obtain ⟨ar, cr, hvr, _⟩ := owns_cells bldx.row
          subst hvr
          have bld1 := bldx.ext ((Ext.refl wr).alloc (.cells #[.slice ar Z.length cr] 53))
          have hcell := one_cell wr (.slice ar Z.length cr) 53
          have hB : w.heap.size ≤ (wr.alloc (.cells #[.slice ar Z.length cr] 53)).heap.size := by have := hext.size; simp; omega
          have B1 := Lib.hid bld1; have HC := Lib.hid hcell; have HB := Lib.hid hB
          have hN2 : TK.length ≤ 10000000 := by omega
          have e2 := hext.alloc (.cells #[.slice ar Z.length cr] 53)
          clear bld bld1 hcell bldx hB hZj hext
          go_wp2_with (at_builtin; refine wpList_pushB rfl (.tmp 38) (.tmp 40) rfl w.heap.size _ vs TK rfl B1.out.outer wr.heap.size rfl _ rfl HC.out Z B1.out.row B1.out.ne B1.out.ap hN2 HB.out ?_; intro v' w2 own3 hg2 _)
          have e3 := e2.grownNew hg2 HA.out
          rw [← HTK.out] at own3
          have O3 := Lib.hid own3
          clear hg2 B1 HC own3 e2
          go_wp2_with fail
          go_roundg (m - (k + 1))
          case measure => omega
          case rel => exact ⟨k + 1, _, by omega, rfl, by go_num, O3.out, e3⟩
    · have hz : ¬ (k : Int) < (m : Int) := by omega
      obtain rfl : k = m := by omega
      have hTk : T.take k = T := List.take_of_length_le (by rw [HTL.out]; omega)
      rw [hTk] at own
      have O := Lib.hid own
      clear own hTk
      go_wp2_with fail
      go_ret
      exact ⟨_, vs, rfl, O.out, hext⟩
theorem turnMask_tab (a : Option Addr) (c n m : Nat) (b : Nat → Nat → Bool) (w0 w : World) (ht : BRows w a (tabOf n m b)) (h1 : 1 ≤ n) (h4 : n ≤ 4) (m4 : m ≤ 4) (ex : Ext w0 w) :
    Calls Try.prog 26 #[.slice a n c] w (NewMask m n (fun i j => b j i) w0) :=
  (turnMask_any a c n m b w ht h1 h4 m4).mono fun _ _ hr => (NewMask.of hr).to ex
end Go.Proofs.Ytelcdjbbcffliaa

/- More words for the laws on bounds: turned tables, totals, sums. -/
namespace Go.Proofs.Ytelcdjbbcffliaa
open Go.RowKit Go.DC
section
variable {n m : Nat} {f : Nat → Nat → Int} {b : Nat → Nat → Bool}
theorem InT.turned (hf : InT n m f) : InT m n (fun i j => f j i) := ⟨by have := hf.1; omega, fun i j hi hj => hf.2 j i hj hi⟩
theorem turnM_tab (hf : InT n m f) : turnM (tabOf n m f) = tabOf m n (fun i j => f j i) := by
  have hh : 0 < n := by have := hf.1; omega
  unfold turnM turnT
  rw [if_pos (tabOk_tabOf.2 hf), wide_tabOf f hh, tabOf_length]
  exact tabOf_congr fun i j hi hj => get_tabOf f hj hi
theorem total_tab (hf : InT n m f) : totalOf (tabOf n m f) = sumN n (fun i => sumN m (f i)) := by
  have hn : 0 < n := by have := hf.1; omega
  unfold totalOf totT
  rw [if_pos (tabOk_tabOf.2 hf), tabOf_length, wide_tabOf _ hn]
  exact sumN_congr fun i hi => sumN_congr fun j hj => get_tabOf _ hi hj
theorem InT.total_bd (hf : InT n m f) : 0 ≤ sumN n (fun i => sumN m (f i)) ∧ sumN n (fun i => sumN m (f i)) ≤ 1584 := by
  have hh := hf.1
  refine ⟨sumN_nonneg fun i hi => sumN_nonneg fun j hj => (hf.2 i j hi hj).1, ?_⟩
  have e : sumN n (fun i => sumN m (f i)) ≤ sumN n (fun _ => 396) := sumN_le fun i hi => by
    have e : sumN m (f i) ≤ sumN m (fun _ => 99) := sumN_le fun l hl => (hf.2 i l hi hl).2
    rw [sumN_const] at e; omega
  rw [sumN_const] at e; omega
end
/-- A new table, and true. -/
def NewTableOk (n m : Nat) (f : Nat → Nat → Int) (w : World) (e : Ending) (w' : World) : Prop := ∃ a c, e = .returned (.tuple #[.slice a n c, .bool true]) ∧ IRows w' a (tabOf n m f) ∧ Ext w w'
theorem TableTurn_tab (a : Option Addr) (c n m : Nat) (f : Nat → Nat → Int) (w0 w : World) (ht : IRows w a (tabOf n m f)) (hf : InT n m f) (ex : Ext w0 w) :
    Calls Try.prog 25 #[.slice a n c] w (NewTableOk m n (fun i j => f j i) w0) := by
  have h := TableTurn_any a c (tabOf n m f) w ht (by rw [tabOf_length]; have := hf.1; omega)
  rw [tabOf_length] at h
  refine h.mono ?_
  rintro e w' ⟨v, vs, rfl, o, e1⟩
  rw [turnM_tab hf] at o
  obtain ⟨a', c', rfl, _, r, _⟩ := o.rows
  rw [tabOk_tabOf.2 hf, tabOf_length]
  exact ⟨a', c', rfl, r, ex.trans e1⟩
theorem TableTotal_tab (a : Option Addr) (c n m : Nat) (f : Nat → Nat → Int) (w0 w : World) (ht : IRows w a (tabOf n m f)) (hf : InT n m f) (ex : Ext w0 w) :
    Calls Try.prog 37 #[.slice a n c] w (AddOut (sumN n (fun i => sumN m (f i))) w0) := by
  have h := TableTotal_any a c (tabOf n m f) w ht (by rw [tabOf_length]; have := hf.1; omega)
  rw [tabOf_length, total_tab hf] at h
  exact h.mono fun _ _ hr => AddOut.of hr ex
set_option maxHeartbeats 1000000 in
theorem sumOf_cells (bk off c m : Nat) (g : Nat → Int) (w : World) (hg : ∀ j, j < m → w.cell? ⟨bk, off + j, none⟩ = some (.int .i64 (g j))) (hb : ∀ j, j < m → 0 ≤ g j ∧ g j ≤ 1000) (m4 : m ≤ 4) :
    Calls Try.prog 19 #[.slice (some ⟨bk, off, none⟩) m c] w fun e w' => e = .returned (.int .i64 (sumN m g)) ∧ w = w' := by
  have HG := Lib.hid hg; have HB := Lib.hid hb
  clear hg hb
  go_enter Try.func19, Try.ntmps19
  go_wp2_with fail
  go_loop [3, 4] (fun s i => ∃ k : Nat, k ≤ m ∧ i = .int .i64 k ∧ s = .int .i64 (sumN k g)) (fun _ i => m - (intOf i).toNat)
  case atStart => exact ⟨0, Nat.zero_le _, rfl, rfl⟩
  case round =>
    obtain ⟨k, hk, rfl, rfl⟩ := hrel
    by_cases hlt : k < m
    · have hz : (k : Int) < (m : Int) := by omega
      have hc := HG.out k hlt
      have hbk := HB.out k hlt
      have hs : 0 ≤ sumN k g := sumN_nonneg fun j hj => (HB.out j (by omega)).1
      have hs2 : sumN k g ≤ 4000 := by
        have e : sumN k g ≤ sumN k (fun _ => 1000) := sumN_le fun j hj => (HB.out j (by omega)).2
        rw [sumN_const] at e; omega
      have hsn : sumN (k + 1) g = sumN k g + g k := rfl
      obtain ⟨x, hx⟩ : ∃ x, g k = x := ⟨_, rfl⟩
      obtain ⟨y, hy⟩ : ∃ y, sumN k g = y := ⟨_, rfl⟩
      rw [hx] at hc hbk hsn
      rw [hy] at hs hs2 hsn ⊢
      have HSN := Lib.hid hsn
      clear hx hy hsn
      obtain ⟨hb0, hb1⟩ := hbk
      go_wp2_with fail
      go_round
      case rel => exact ⟨k + 1, by omega, by go_num, by rw [HSN.out]⟩
      case measure => simp [intOf]; omega
    · have hz : ¬ (k : Int) < (m : Int) := by omega
      obtain rfl : k = m := by omega
      go_wp2_with fail
      go_ret
      exact ⟨rfl, rfl⟩
end Go.Proofs.Ytelcdjbbcffliaa
