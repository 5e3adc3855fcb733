/- Cells that are hidden in vain: one, and how many. -/
import Derived.Test.YtelcdjbbcffliaaBndLaw
import Derived.Test.YtelcdjbbcffliaaSPath
namespace Go.DC
/-- A hidden cell has one number alone. -/
noncomputable def toldF (h m : Nat) (f : Nat → Nat → Int) (b : Nat → Nat → Bool) (i j : Nat) : Bool := b i j && decide (high h m f b i j = low h m f b i j)
def one (p : Nat → Nat → Bool) (i j : Nat) : Int := if p i j then 1 else 0
/-- How many cells there are with p. -/
def manyN (h m : Nat) (p : Nat → Nat → Bool) : Int := sumN h (fun i => sumN m (one p i))
theorem one_bd (p : Nat → Nat → Bool) (i j : Nat) : 0 ≤ one p i j ∧ one p i j ≤ 1 := by unfold one; split <;> omega
theorem manyN_bd (p : Nat → Nat → Bool) {h m : Nat} (h4 : h ≤ 4) (m4 : m ≤ 4) : 0 ≤ manyN h m p ∧ manyN h m p ≤ 16 := by
  refine ⟨sumN_nonneg fun i _ => sumN_nonneg fun j _ => (one_bd p i j).1, ?_⟩
  have e : manyN h m p ≤ sumN h (fun _ => 4) := sumN_le fun i _ => by
    have e : sumN m (one p i) ≤ sumN m (fun _ => 1) := sumN_le fun j _ => (one_bd p i j).2
    rw [sumN_const] at e; omega
  rw [sumN_const] at e; omega
theorem manyN_congr {p q : Nat → Nat → Bool} {h m : Nat} (e : ∀ i j, i < h → j < m → p i j = q i j) : manyN h m p = manyN h m q :=
  sumN_congr fun i hi => sumN_congr fun j hj => by unfold one; rw [e i j hi hj]
theorem manyN_le {p q : Nat → Nat → Bool} {h m : Nat} (e : ∀ i j, i < h → j < m → p i j = true → q i j = true) : manyN h m p ≤ manyN h m q :=
  sumN_le fun i hi => sumN_le fun j hj => by
    cases hp : p i j with
    | true =>
      have h1 := (one_bd p i j).2
      have h2 : one q i j = 1 := by unfold one; rw [e i j hi hj hp]; rfl
      omega
    | false =>
      have h1 : one p i j = 0 := by unfold one; rw [hp]; rfl
      have h2 := (one_bd q i j).1
      omega
theorem manyN_zero {p : Nat → Nat → Bool} {h m : Nat} (e : ∀ i j, i < h → j < m → p i j = false) : manyN h m p = 0 := by
  unfold manyN
  rw [sumN_congr (g := fun _ => 0) (fun i hi => ?_), sumN_zero]
  rw [sumN_congr (g := fun _ => 0) (fun j hj => ?_), sumN_zero]
  unfold one; rw [e i j hi hj]; rfl
theorem manyN_turn (p : Nat → Nat → Bool) (h m : Nat) : manyN m h (fun i j => p j i) = manyN h m p := by
  unfold manyN
  rw [sumN_comm]
  rfl
theorem manyN_none {p : Nat → Nat → Bool} {h m : Nat} (e : manyN h m p = 0) : ∀ i j, i < h → j < m → p i j = false := fun i j hi hj => by
  cases hp : p i j with
  | false => rfl
  | true =>
    have h1 : sumN m (one p i) ≤ manyN h m p := le_sumN (f := fun i => sumN m (one p i)) hi (fun k _ _ => sumN_nonneg fun l _ => (one_bd p k l).1)
    have h2 : one p i j ≤ sumN m (one p i) := le_sumN (f := one p i) hj (fun l _ _ => (one_bd p i l).1)
    have h3 : one p i j = 1 := by unfold one; rw [hp]; rfl
    omega
end Go.DC
namespace Go.Proofs.Ytelcdjbbcffliaa
open Go.RowKit Go.DC Go.Shelf
attribute [local go_sem] Oper.semAt_some
noncomputable def toldV (t : List (List Int)) (mk : List (List Bool)) (i j : Int) : Bool := hasC t mk i j && toldF t.length (wide t) (get 0 t) (get false mk) i.toNat j.toNat
theorem toldV_no {t : List (List Int)} {mk : List (List Bool)} {i j : Int} (h : hasC t mk i j = false) : toldV t mk i j = false := by unfold toldV; rw [h]; rfl
theorem toldV_at {t : List (List Int)} {mk : List (List Bool)} {i j : Nat} (h : maskOk t mk = true) (hi : i < t.length) (hj : j < wide t) : toldV t mk i j = toldF t.length (wide t) (get 0 t) (get false mk) i j := by
  unfold toldV; rw [hasC_iff.2 ⟨h, by omega, by omega, by omega, by omega⟩, Bool.true_and]; rfl
noncomputable def manyV (t : List (List Int)) (mk : List (List Bool)) : Int := if maskOk t mk then manyN t.length (wide t) (toldF t.length (wide t) (get 0 t) (get false mk)) else -1
set_option maxHeartbeats 2000000 in
theorem BoundTold_any (a mb : Option Addr) (c d : Nat) (t : List (List Int)) (mk : List (List Bool)) (i j : Int) (w : World) (ht : IRows w a t) (hmk : BRows w mb mk) (hm : t.length ≤ 9223372036854775807) (hm2 : mk.length ≤ 9223372036854775807) :
    Calls Try.prog 66 #[.slice a t.length c, .slice mb mk.length d, .int .i64 i, .int .i64 j] w (Ret (.bool (toldV t mk i j)) w) := by
  have HT := Lib.hid ht; clear ht
  have HM := Lib.hid hmk; clear hmk
  go_enter Try.func66, Try.ntmps66
  go_wp2_with fail
  refine (hasCell_any _ _ _ _ t mk i j _ HT.out HM.out hm hm2).mono ?_
  rintro e w' ⟨rfl, rfl⟩
  cases o1 : hasC t mk i j
  · have HD := Lib.hid (toldV_no o1); clear o1
    go_wp2_with fail
    go_ret
    exact ⟨ret_bool HD.out.symm, Ext.refl _⟩
  obtain ⟨k, l, rfl, rfl, hk, hl, ok⟩ := hasC_nat o1
  have OK := Lib.hid ok
  clear o1 ok
  have RM := Lib.hid (maskOk_rect OK.out).2
  have hkm : (k : Int) < (mk.length : Int) := by rw [RM.out.1]; omega
  have hlz : (l : Int) < (wide t : Int) := by omega
  obtain ⟨nb, mf, mb2, mf2, mk2, rfl, cm1, cm2⟩ := HM.out.atC false RM.out hk hl
  have hv := toldV_at OK.out hk hl
  unfold toldF at hv
  rw [← highV_at OK.out hk hl, ← lowV_at OK.out hk hl] at hv
  unfold encB at cm2
  obtain ⟨u, hu⟩ : ∃ u, highV t mk k l = u := ⟨_, rfl⟩
  obtain ⟨v, hv2⟩ : ∃ v, lowV t mk k l = v := ⟨_, rfl⟩
  rw [hu, hv2] at hv
  cases hb : get false mk k l with
  | false =>
    rw [hb] at cm2 hv
    have HV := Lib.hid hv
    clear hb hv hu hv2
    go_wp2_with fail
    go_ret
    exact ⟨ret_bool (by rw [HV.out]; rfl), Ext.refl _⟩
  | true =>
    rw [hb] at cm2 hv
    have HV := Lib.hid hv; have HU := Lib.hid hu; have HV2 := Lib.hid hv2
    clear hb hv hu hv2
    go_wp2_with fail
    refine (BoundHigh_any _ _ _ _ t mk k l _ HT.out HM.out hm hm2).mono ?_
    rintro e w1 ⟨rfl, e1⟩
    rw [HU.out]
    go_wp2_with fail
    refine (BoundLow_any _ _ _ _ t mk k l _ (HT.out.ext e1) (HM.out.ext e1) hm hm2).mono ?_
    rintro e w2 ⟨rfl, e2⟩
    rw [HV2.out]
    go_wp2_with fail
    go_ret
    exact ⟨ret_bool (by rw [HV.out, Bool.true_and]; rfl), e1.trans e2⟩
set_option maxRecDepth 100000 in
set_option maxHeartbeats 4000000 in
theorem BoundMany_any (a b : Option Addr) (c d : Nat) (t : List (List Int)) (mk : List (List Bool)) (w : World) (ht : IRows w a t) (hmk : BRows w b mk) (hm : t.length ≤ 9223372036854775807) (hm2 : mk.length ≤ 9223372036854775807) :
    Calls Try.prog 39 #[.slice a t.length c, .slice b mk.length d] w (Ret (.int .i64 (manyV t mk)) w) := by
  have HT := Lib.hid ht; clear ht
  have HM := Lib.hid hmk; clear hmk
  refine (callsIn_wide (n := 9)).1 ?_
  refine callsIn_of_wp_marks Try.func39 rfl trivial ?_ rfl
  simp only [Try.ntmps39, List.size_toArray, List.length_cons, List.length_nil, Nat.reduceAdd, Nat.reduceSub, Array.replicate_succ, Array.replicate_zero, List.push_toArray, List.append_toArray, List.nil_append, List.cons_append]
  gi_wp2_with fail
  have e0 : Ext w ((w.alloc (.cells #[.slice a t.length c] 23)).alloc (.cells #[.slice b mk.length d] 24)) := ((Ext.refl w).alloc _).alloc _
  have bT0 := (Box.new w 23 (.slice a t.length c)).ext ((Ext.refl _).alloc (.cells #[.slice b mk.length d] 24))
  have bM0 := Box.new (w.alloc (.cells #[.slice a t.length c] 23)) 24 (.slice b mk.length d)
  simp only [World.size_alloc] at bM0
  obtain ⟨W0, hW0⟩ : ∃ W0, (w.alloc (.cells #[.slice a t.length c] 23)).alloc (.cells #[.slice b mk.length d] 24) = W0 := ⟨_, rfl⟩
  rw [hW0] at e0 bT0 bM0 ⊢
  clear hW0
  refine ⟨trivial, (callsIn_wide.2 (MaskValid_any _ _ _ _ t mk _ (HT.out.ext e0) (HM.out.ext e0) hm hm2)).mono ?_⟩
  rintro e w' ⟨rfl, rfl⟩
  cases o1 : maskOk t mk
  · have hd : manyV t mk = -1 := by unfold manyV; rw [o1]; rfl
    have HD := Lib.hid hd; clear hd o1
    gi_wp2_with fail
    exact leave1 rfl ⟨by rw [HD.out]; rfl, e0⟩
  obtain ⟨h1, h4, m1, m4⟩ := maskOk_lens o1
  have hv : manyV t mk = manyN t.length (wide t) (toldF t.length (wide t) (get 0 t) (get false mk)) := by unfold manyV; rw [o1]; rfl
  have htold : ∀ k l, k < t.length → l < wide t → toldV t mk k l = toldF t.length (wide t) (get 0 t) (get false mk) k l := fun k l hk hl => toldV_at o1 hk hl
  have R := Lib.hid (tabOk_rect (maskOk_rect o1).1).1
  obtain ⟨p, hp⟩ : ∃ p, toldF t.length (wide t) (get 0 t) (get false mk) = p := ⟨_, rfl⟩
  rw [hp] at hv htold
  have HVV := Lib.hid hv
  have HTO := Lib.hid htold
  have HTOLD : Hid (∀ (k l : Nat) (wx : World), Ext w wx → k < t.length → l < wide t → Calls Try.prog 66 #[.slice a t.length c, .slice b mk.length d, .int .i64 k, .int .i64 l] wx (Ret (.bool (p k l)) wx)) := fun k l wx ex hk hl => by
    rw [← HTO.out k l hk hl]
    exact BoundTold_any _ _ _ _ t mk k l wx (HT.out.ext ex) (HM.out.ext ex) hm hm2
  have hcT := bT0.cell
  have hw01 : w.heap.size + 1 < W0.heap.size := bM0.lt
  have hw0 : w.heap.size < W0.heap.size := bT0.lt
  clear o1 hv htold hp hm hm2
  gi_wp2_with fail
  have x1 : Ext W0 (W0.alloc (.cells #[.int .i64 0] 3)) := (Ext.refl W0).alloc _
  have bC := Box.new W0 3 (.int .i64 0)
  have bT1 := bT0.ext x1
  have bM1 := bM0.ext x1
  have e1 := e0.trans x1
  have hs1 : (W0.alloc (.cells #[.int .i64 0] 3)).heap.size = W0.heap.size + 1 := by simp
  obtain ⟨W1, hW1⟩ : ∃ W1, W0.alloc (.cells #[.int .i64 0] 3) = W1 := ⟨_, rfl⟩
  rw [hW1] at bC bT1 bM1 e1 hs1 ⊢
  clear hW1 x1 hcT
  refine ⟨trivial, (cellsOf_in Fence.wide _ (wide_fn _) rfl _ _ _ _).mono ?_⟩
  rintro e w2 ⟨rfl, rfl⟩
  have x2 : Ext W1 (W1.alloc (.cells #[.slice a t.length c] 23)) := (Ext.refl W1).alloc _
  have bI := Box.new W1 23 (.slice a t.length c)
  have bT2 := bT1.ext x2
  have bM2 := bM1.ext x2
  have bC2 := bC.ext x2
  have e2 := e1.trans x2
  obtain ⟨W2, hW2⟩ : ∃ W2, W1.alloc (.cells #[.slice a t.length c] 23) = W2 := ⟨_, rfl⟩
  rw [hW2] at bI bT2 bM2 bC2 e2 ⊢
  have hcI := bI.cell
  clear hW2 x2 bT0 bM0 bT1 bM1 bC
  gi_wp2_with fail
  refine wpIn_cells (by omega) w (W0.heap.size + 1) t.length (wide t) a c t HT.out R.out (by omega) (by omega) rfl e2 (by rw [← hs1]; exact hcI) rfl
    (fun pre W => Box W w.heap.size 23 (.slice a t.length c) ∧ Box W (w.heap.size + 1) 24 (.slice b mk.length d) ∧ Box W W0.heap.size 3 (.int .i64 (psum (one p) pre)))
    (fun _ _ _ => False) (fun pre A B hs k => ⟨hs.1.cel k, hs.2.1.cel k, hs.2.2.cel k⟩) (fun _ _ _ _ hs _ => hs.elim)
    ⟨bT2, bM2, bC2⟩
    ?round ?done ?stop
  case round =>
    clear bT2 bM2 bC2 hcI
    intro l x W K hK
    have HK := Lib.hid hK; clear hK
    gi_wp2_with fail
    refine HK.out _ ?_
    clear HK K
    rintro l' pre W' ⟨b1, b2, b3⟩ hE hlt
    obtain ⟨⟨i, j⟩, hi, hj⟩ := x
    dsimp only at hi hj ⊢
    have hn : pre.length < 16 := by
      have h2 : t.length * wide t ≤ 4 * 4 := Nat.mul_le_mul (by omega) (by omega)
      omega
    have hpb := psum_bound (g := one p) (B := 1) (fun k l _ _ => by have := one_bd p k l; omega) pre
    have hnext : psum (one p) (pre ++ [(⟨(i, j), hi, hj⟩ : Cell t.length (wide t))]) = psum (one p) pre + one p i j := by rw [psum_app, psum_one]
    obtain ⟨u, hu⟩ : ∃ u, psum (one p) pre = u := ⟨_, rfl⟩
    rw [hu] at hpb hnext b3
    obtain ⟨hpb0, hpb1⟩ := hpb
    have cb1 := b1.cell; have cb2 := b2.cell
    have B1 := Lib.hid b1; have B2 := Lib.hid b2; have B3 := Lib.hid b3; have HEE := Lib.hid hE
    have hsz : w.heap.size ≤ W'.heap.size := hE.size
    clear b1 b2 b3
    cases hf : p i j with
    | true =>
      have h1' : one p i j = 1 := by unfold one; rw [hf]; rfl
      rw [h1'] at hnext
      have HN := Lib.hid hnext; have HF := Lib.hid hf
      clear hnext hf hu h1' hE
      gi_wp2_with fail
      refine ⟨trivial, CallsIn.inRound l' (callsIn_wide.2 ((HTOLD.out i j W' HEE.out hi hj).mono ?_))⟩
      rintro e w3 ⟨rfl, e3⟩
      rw [HF.out]
      have b3' := B3.out.ext e3
      have cb3 := b3'.cell; have fb3 := b3'.frozen
      have B33 := Lib.hid b3'
      clear b3'
      gi_wp2_with fail
      have hst : Stp w.heap.size W2.heap.size W' (w3.setCell ⟨W0.heap.size, 0, none⟩ (.int .i64 (u + 1))) := (Stp.of_ext e3 hsz).setCell (p := ⟨W0.heap.size, 0, none⟩) (by show w.heap.size ≤ W0.heap.size; omega) _
      exact ⟨hst.from_, hst.below, ⟨(B1.out.ext e3).other ⟨W0.heap.size, 0, none⟩ _ (by show W0.heap.size ≠ w.heap.size; omega), (B2.out.ext e3).other ⟨W0.heap.size, 0, none⟩ _ (by show W0.heap.size ≠ w.heap.size + 1; omega), by rw [HN.out]; exact B33.out.set _⟩, (HEE.out.trans e3).setCell (p := ⟨W0.heap.size, 0, none⟩) (by show w.heap.size ≤ W0.heap.size; omega) _⟩
    | false =>
      have h1' : one p i j = 0 := by unfold one; rw [hf]; rfl
      rw [h1', Int.add_zero] at hnext
      have HN := Lib.hid hnext; have HF := Lib.hid hf
      clear hnext hf hu h1' hE
      gi_wp2_with fail
      refine ⟨trivial, CallsIn.inRound l' (callsIn_wide.2 ((HTOLD.out i j W' HEE.out hi hj).mono ?_))⟩
      rintro e w3 ⟨rfl, e3⟩
      rw [HF.out]
      gi_wp2_with fail
      have hst : Stp w.heap.size W2.heap.size W' w3 := Stp.of_ext e3 hsz
      exact ⟨hst.from_, hst.below, ⟨B1.out.ext e3, B2.out.ext e3, by rw [HN.out]; exact B3.out.ext e3⟩, HEE.out.trans e3⟩
  case done =>
    rintro D W hD ⟨b1, b2, b3⟩ hE hK
    have cb3 := b3.cell
    have hDw : w.heap.size ≤ D := by have := e2.size; omega
    rw [psum_all] at cb3
    clear bT2 bM2 bC2
    gi_wp2_with fail
    exact leaveD1 hK rfl ⟨ret_int HVV.out.symm, hE.taken hDw _⟩
  case stop =>
    intro D c pre W _ h _ _
    exact h.elim
end Go.Proofs.Ytelcdjbbcffliaa
