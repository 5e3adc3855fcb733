/- Cells that are safe, and how many are not. -/
import Derived.Test.YtnlolgooicgfdaaTold
namespace Go.DC
/-- A hidden cell has bounds that are wide enough. -/
noncomputable def safeF (h m : Nat) (f : Nat → Nat → Int) (b : Nat → Nat → Bool) (i j : Nat) (d : Int) : Bool := b i j && (decide (f i j + d ≤ high h m f b i j) && decide (low h m f b i j ≤ max 0 (f i j - d)))
end Go.DC
namespace Go.Proofs.Ytnlolgooicgfdaa
open Go.RowKit Go.DC Go.Shelf
attribute [local go_sem] Oper.semAt_some
def inCell (d : Int) : Bool := decide (0 ≤ d) && decide (d ≤ 99)
theorem inCell_iff {d : Int} : inCell d = true ↔ 0 ≤ d ∧ d ≤ 99 := by unfold inCell; simp
noncomputable def safeV (t : List (List Int)) (mk : List (List Bool)) (i j d : Int) : Bool := hasC t mk i j && (inCell d && safeF t.length (wide t) (get 0 t) (get false mk) i.toNat j.toNat d)
theorem safeV_no {t : List (List Int)} {mk : List (List Bool)} {i j d : Int} (h : hasC t mk i j = false) : safeV t mk i j d = false := by unfold safeV; rw [h]; rfl
theorem safeV_no2 {t : List (List Int)} {mk : List (List Bool)} {i j d : Int} (h : inCell d = false) : safeV t mk i j d = false := by unfold safeV; rw [h]; simp
theorem safeV_at {t : List (List Int)} {mk : List (List Bool)} {i j : Nat} {d : Int} (h : maskOk t mk = true) (hi : i < t.length) (hj : j < wide t) (hd : inCell d = true) : safeV t mk i j d = safeF t.length (wide t) (get 0 t) (get false mk) i j d := by
  unfold safeV; rw [hasC_iff.2 ⟨h, by omega, by omega, by omega, by omega⟩, hd, Bool.true_and, Bool.true_and]; rfl
def notSafe (p : Nat → Nat → Bool) (q : Nat → Nat → Bool) (i j : Nat) : Bool := p i j && !q i j
noncomputable def needV (t : List (List Int)) (fm mk : List (List Bool)) (d : Int) : Int :=
  if maskOk t fm && (maskOk t mk && inCell d) then manyN t.length (wide t) (notSafe (get false fm) (fun i j => safeF t.length (wide t) (get 0 t) (get false mk) i j d)) else -1
set_option maxHeartbeats 400000 in
theorem isCell_any (d : Int) (w : World) : Calls Try.prog 58 #[.int .i64 d] w fun e w' => e = .returned (.bool (inCell d)) ∧ w = w' := by
  by_cases h : 0 ≤ d
  · have hh : inCell d = decide (d ≤ 99) := by simp [inCell, h]
    have H := Lib.hid hh; clear hh
    go_enter Try.func58, Try.ntmps58
    go_wp2
    go_ret
    rw [H.out]; simp
  · have h' : decide (0 ≤ d) = false := by simpa using h
    have hh : inCell d = false := by simp [inCell, h]
    have H := Lib.hid hh; clear hh
    go_enter Try.func58, Try.ntmps58
    go_wp2
    go_ret
    rw [H.out]; simp
theorem take2 {P : Program} {ops : Array Oper} {Q : Exit → Act → World → Prop} {md : Region.Mode} {S : World → Prop} {i : Nat} {oi : Oper} {v : Value} {dst : Option Nat} {fuel : Nat} {listed : Array Bool} {a : Act} {w : World} (hi : ops[i]? = some oi) (hd : oi.dst = dst)
    (hs : Region.noSelect ops = true) (hf : Region.free md ops listed i = true) (hr : (Region.ready md ops listed).contains i = true)
    (hQ : ∀ c a w, Q (.panic c) (a.put dst v) w → Q (.panic c) a w) (hy : YieldsIf P ops S oi v a) (hS : S w)
    (h : wpAnyH P md ops Q S fuel (listed.setIfInBounds i true) (a.put dst v) w) : wpAnyH P md ops Q S (fuel + 1) listed a w := by
  subst hd
  exact wpAnyH_take hi hs hf hr hQ hy hS h
set_option maxRecDepth 10000 in
set_option maxHeartbeats 4000000 in
theorem safe_any (a mb : Option Addr) (c d : Nat) (t : List (List Int)) (mk : List (List Bool)) (k l : Nat) (s : Int) (w : World) (ht : IRows w a t) (hmk : BRows w mb mk) (ok : maskOk t mk = true) (hk : k < t.length) (hl : l < wide t) (hs : inCell s = true) (hb : get false mk k l = true) :
    Calls Try.prog 67 #[.slice a t.length c, .slice mb mk.length d, .int .i64 k, .int .i64 l, .int .i64 s] w (Ret (.bool (safeF t.length (wide t) (get 0 t) (get false mk) k l s)) w) := by
  have HT := Lib.hid ht; have HM := Lib.hid hmk
  obtain ⟨h1, h4, m1, m4⟩ := maskOk_lens ok
  have R := (tabOk_rect (maskOk_rect ok).1).1
  have hml : mk.length ≤ 9223372036854775807 := by rw [(maskOk_rect ok).2.1]; omega
  obtain ⟨hs0, hs1⟩ := inCell_iff.1 hs
  have hkz : (k : Int) < (t.length : Int) := by omega
  have hlz : (l : Int) < (wide t : Int) := by omega
  obtain ⟨tb, tf, tb2, tf2, tk, rfl, ct1, ct2⟩ := HT.out.atC 0 R hk hl
  have hcl := (tabOk_rect (maskOk_rect ok).1).2.2.2.2.2 k l hk hl
  have hval : safeF t.length (wide t) (get 0 t) (get false mk) k l s = (decide (get 0 t k l + s ≤ highV t mk k l) && decide (lowV t mk k l ≤ max 0 (get 0 t k l - s))) := by
    unfold safeF; rw [hb, Bool.true_and, highV_at ok hk hl, lowV_at ok hk hl]
  rw [hval]
  have hub : 0 ≤ highV t mk k l ∧ highV t mk k l ≤ 396 := by rw [highV_at ok hk hl]; exact high_bd ok hk hl
  have hvb : 0 ≤ lowV t mk k l ∧ lowV t mk k l ≤ 99 := by rw [lowV_at ok hk hl]; exact low_bd ok hk hl
  have CH : Hid (∀ wx : World, Ext w wx → Calls Try.prog 72 #[.slice (some ⟨tb, tf, none⟩) t.length c, .slice mb mk.length d, .int .i64 k, .int .i64 l] wx (AddOut (highV t mk k l) w)) := fun wx ex => (BoundHigh_any _ _ c d t mk k l wx (HT.out.ext ex) (HM.out.ext ex) (by omega) hml).mono fun _ _ hr => AddOut.of hr ex
  have CL : Hid (∀ wx : World, Ext w wx → Calls Try.prog 73 #[.slice (some ⟨tb, tf, none⟩) t.length c, .slice mb mk.length d, .int .i64 k, .int .i64 l] wx (AddOut (lowV t mk k l) w)) := fun wx ex => (BoundLow_any _ _ c d t mk k l wx (HT.out.ext ex) (HM.out.ext ex) (by omega) hml).mono fun _ _ hr => AddOut.of hr ex
  obtain ⟨u, hu⟩ : ∃ u, highV t mk k l = u := ⟨_, rfl⟩
  obtain ⟨v, hv⟩ : ∃ v, lowV t mk k l = v := ⟨_, rfl⟩
  obtain ⟨y, hy⟩ : ∃ y, get 0 t k l = y := ⟨_, rfl⟩
  rw [hu] at CH hub ⊢
  rw [hv] at CL hvb ⊢
  rw [hy] at ct2 hcl ⊢
  obtain ⟨q, hq⟩ : ∃ q, y - s = q := ⟨_, rfl⟩
  rw [hq]
  have hw1 : IntKind.i64.wrap (y + s) = y + s := IntWalk.i64_in _ (by omega)
  have hw2 : IntKind.i64.wrap (y - s) = q := by rw [hq]; exact IntWalk.i64_in _ (by omega)
  have HW1 := Lib.hid hw1; have HW2 := Lib.hid hw2
  have ex0 : Ext w w := Ext.refl w
  have ex1 : Ext w w.drew := (Ext.refl w).drew
  obtain ⟨hub0, hub1⟩ := hub
  obtain ⟨hvb0, hvb1⟩ := hvb
  obtain ⟨hcl0, hcl1⟩ := hcl
  unfold encI at ct2
  clear ht hmk ok R hml hs hb hval hu hv hy hw1 hw2
  by_cases hge : y + s ≤ u
  · have hmx : (0 < q ∧ max 0 q = q) ∨ (¬ 0 < q ∧ max 0 q = 0) := by omega
    have hgb : decide (y + s ≤ u) = true := by simpa using hge
    rcases hmx with ⟨g1, g2⟩ | ⟨g1, g2⟩
    all_goals
      rw [g2, hgb, Bool.true_and]
      clear g2
      go_enter Try.func67, Try.ntmps67
      have hw1 := HW1.out
      have hw2 := HW2.out
      clear hq
      go_wp2_with fail
      go_region_held3 (fun w' => Ext w w' ∧ w'.cell? ⟨tb, tf + k, none⟩ = some (.slice (some ⟨tb2, tf2, none⟩) (wide t) tk) ∧ w'.cell? ⟨tb2, tf2 + l, none⟩ = some (.int .i64 y))
        ((refine ⟨?_, ?_, ?_⟩; (first | assumption | exact Ext.drew (by assumption) | exact Ext.refl _); (first | exact Ext.cell (by assumption) ct1 | exact ct1); (first | exact Ext.cell (by assumption) ct2 | exact ct2)))
        (first
          | ((go_at_call 72; refine (CH.out _ ?_).mono ?_; (first | assumption | exact Ext.drew (by assumption) | exact Ext.refl _); rintro e w1 ⟨rfl, e1⟩))
          | ((go_at_call 73; refine (CL.out _ ?_).mono ?_; (first | assumption | exact Ext.drew (by assumption) | exact Ext.refl _); rintro e w1 ⟨rfl, e1⟩)))
      all_goals
        clear hw1 hw2
        go_wp2_with fail
        go_ret
        exact ⟨ret_bool (by simp), by assumption⟩
  · have hgb : decide (y + s ≤ u) = false := by simpa using hge
    rw [hgb, Bool.false_and]
    go_enter Try.func67, Try.ntmps67
    have hw1 := HW1.out
    have hw2 := HW2.out
    clear hq
    go_wp2_with fail
    refine wp_region_held_drew (S := fun w' => Ext w w' ∧ w'.cell? ⟨tb, tf + k, none⟩ = some (.slice (some ⟨tb2, tf2, none⟩) (wide t) tk) ∧ w'.cell? ⟨tb2, tf2 + l, none⟩ = some (.int .i64 y)) (by kernel_rfl) ⟨ex1, ct1, ct2⟩ (fun hHeld => ?_)
    refine take2 (i := 0) (v := ?_) (dst := some 11) rfl rfl (by kernel_rfl) (by kernel_rfl) (by kernel_rfl) (fun _ _ _ h => h) (Or.inl ⟨by rfl, ?_⟩) hHeld ?_
    rotate_left
    · (intro w hSw; (try dsimp only at hSw); go_simp; try with_reducible rfl)
    simp only [Act.put, List.setIfInBounds_toArray, List.set_cons_zero, List.set_cons_succ]
    refine take2 (i := 1) (v := ?_) (dst := some 12) rfl rfl (by kernel_rfl) (by kernel_rfl) (by kernel_rfl) (fun _ _ _ h => h) (Or.inl ⟨by rfl, ?_⟩) hHeld ?_
    rotate_left
    · (intro w hSw; (try dsimp only at hSw); go_simp; try with_reducible rfl)
    simp only [Act.put, List.setIfInBounds_toArray, List.set_cons_zero, List.set_cons_succ]
    refine take2 (i := 2) (v := ?_) (dst := some 13) rfl rfl (by kernel_rfl) (by kernel_rfl) (by kernel_rfl) (fun _ _ _ h => h) (Or.inl ⟨by rfl, ?_⟩) hHeld ?_
    rotate_left
    · (intro w hSw; (try dsimp only at hSw); go_simp; try with_reducible rfl)
    simp only [Act.put, List.setIfInBounds_toArray, List.set_cons_zero, List.set_cons_succ]
    refine take2 (i := 3) (v := ?_) (dst := some 14) rfl rfl (by kernel_rfl) (by kernel_rfl) (by kernel_rfl) (fun _ _ _ h => h) (Or.inl ⟨by rfl, ?_⟩) hHeld ?_
    rotate_left
    · (intro w hSw; (try dsimp only at hSw); go_simp; try with_reducible rfl)
    simp only [Act.put, List.setIfInBounds_toArray, List.set_cons_zero, List.set_cons_succ]
    refine take2 (i := 5) (v := ?_) (dst := some 16) rfl rfl (by kernel_rfl) (by kernel_rfl) (by kernel_rfl) (fun _ _ _ h => h) (Or.inl ⟨by rfl, ?_⟩) hHeld ?_
    rotate_left
    · (intro w hSw; (try dsimp only at hSw); go_simp; try with_reducible rfl)
    simp only [Act.put, List.setIfInBounds_toArray, List.set_cons_zero, List.set_cons_succ]
    refine take2 (i := 6) (v := ?_) (dst := some 17) rfl rfl (by kernel_rfl) (by kernel_rfl) (by kernel_rfl) (fun _ _ _ h => h) (Or.inl ⟨by rfl, ?_⟩) hHeld ?_
    rotate_left
    · (intro w hSw; (try dsimp only at hSw); go_simp; try with_reducible rfl)
    simp only [Act.put, List.setIfInBounds_toArray, List.set_cons_zero, List.set_cons_succ]
    refine take2 (i := 7) (v := ?_) (dst := some 18) rfl rfl (by kernel_rfl) (by kernel_rfl) (by kernel_rfl) (fun _ _ _ h => h) (Or.inl ⟨by rfl, ?_⟩) hHeld ?_
    rotate_left
    · (intro w hSw; (try dsimp only at hSw); go_simp; try with_reducible rfl)
    simp only [Act.put, List.setIfInBounds_toArray, List.set_cons_zero, List.set_cons_succ]
    refine take2 (i := 8) (v := ?_) (dst := some 19) rfl rfl (by kernel_rfl) (by kernel_rfl) (by kernel_rfl) (fun _ _ _ h => h) (Or.inl ⟨by rfl, ?_⟩) hHeld ?_
    rotate_left
    · (intro w hSw; (try dsimp only at hSw); go_simp; try with_reducible rfl)
    simp only [Act.put, List.setIfInBounds_toArray, List.set_cons_zero, List.set_cons_succ]
    refine take2 (i := 9) (v := ?_) (dst := some 20) rfl rfl (by kernel_rfl) (by kernel_rfl) (by kernel_rfl) (fun _ _ _ h => h) (Or.inl ⟨by rfl, ?_⟩) hHeld ?_
    rotate_left
    · (intro w hSw; (try dsimp only at hSw); go_simp; try with_reducible rfl)
    simp only [Act.put, List.setIfInBounds_toArray, List.set_cons_zero, List.set_cons_succ]
    refine take2 (i := 10) (v := ?_) (dst := some 21) rfl rfl (by kernel_rfl) (by kernel_rfl) (by kernel_rfl) (fun _ _ _ h => h) (Or.inl ⟨by rfl, ?_⟩) hHeld ?_
    rotate_left
    · (intro w hSw; (try dsimp only at hSw); go_simp; try with_reducible rfl)
    simp only [Act.put, List.setIfInBounds_toArray, List.set_cons_zero, List.set_cons_succ]
    refine take2 (i := 11) (v := ?_) (dst := some 22) rfl rfl (by kernel_rfl) (by kernel_rfl) (by kernel_rfl) (fun _ _ _ h => h) (Or.inl ⟨by rfl, ?_⟩) hHeld ?_
    rotate_left
    · (intro w hSw; (try dsimp only at hSw); go_simp; try with_reducible rfl)
    simp only [Act.put, List.setIfInBounds_toArray, List.set_cons_zero, List.set_cons_succ]
    refine take2 (i := 12) (v := ?_) (dst := some 23) rfl rfl (by kernel_rfl) (by kernel_rfl) (by kernel_rfl) (fun _ _ _ h => h) (Or.inl ⟨by rfl, ?_⟩) hHeld ?_
    rotate_left
    · (intro w hSw; (try dsimp only at hSw); go_simp; try with_reducible rfl)
    simp only [Act.put, List.setIfInBounds_toArray, List.set_cons_zero, List.set_cons_succ]
    refine take2 (i := 13) (v := ?_) (dst := some 24) rfl rfl (by kernel_rfl) (by kernel_rfl) (by kernel_rfl) (fun _ _ _ h => h) (Or.inl ⟨by rfl, ?_⟩) hHeld ?_
    rotate_left
    · (intro w hSw; (try dsimp only at hSw); go_simp; try with_reducible rfl)
    simp only [Act.put, List.setIfInBounds_toArray, List.set_cons_zero, List.set_cons_succ]
    refine wpAnyH_ready (rs := [4]) (by kernel_rfl) (by simp) ?_
    refine AllReadyH.cons rfl (fun K hK => ?_) AllReadyH.nil
    go_simp
    refine (CH.out _ ex1).mono ?_
    rintro e w1 ⟨rfl, e1⟩
    refine hK.out _ _ ⟨e1, e1.cell ct1, e1.cell ct2⟩ (fun hHeld2 => ?_)
    clear hK K
    refine take2 (i := 14) (v := ?_) (dst := some 25) rfl rfl (by kernel_rfl) (by kernel_rfl) (by kernel_rfl) (fun _ _ _ h => h) (Or.inl ⟨by rfl, ?_⟩) hHeld2 ?_
    rotate_left
    · (intro w hSw; (try dsimp only at hSw); go_simp; try with_reducible rfl)
    simp only [Act.put, List.setIfInBounds_toArray, List.set_cons_zero, List.set_cons_succ]
    refine take2 (i := 15) (v := ?_) (dst := some 26) rfl rfl (by kernel_rfl) (by kernel_rfl) (by kernel_rfl) (fun _ _ _ h => h) (Or.inl ⟨by rfl, ?_⟩) hHeld2 ?_
    rotate_left
    · (intro w hSw; (try dsimp only at hSw); go_simp; try with_reducible rfl)
    simp only [Act.put, List.setIfInBounds_toArray, List.set_cons_zero, List.set_cons_succ]
    refine take2 (i := 16) (v := undef) (dst := some 27) rfl rfl (by kernel_rfl) (by kernel_rfl) (by kernel_rfl) (fun _ _ _ h => h) (Or.inr ⟨by rfl, rfl⟩) hHeld2 ?_
    simp only [Act.put, List.setIfInBounds_toArray, List.set_cons_zero, List.set_cons_succ]
    refine take2 (i := 17) (v := undef) (dst := some 28) rfl rfl (by kernel_rfl) (by kernel_rfl) (by kernel_rfl) (fun _ _ _ h => h) (Or.inr ⟨by rfl, rfl⟩) hHeld2 ?_
    simp only [Act.put, List.setIfInBounds_toArray, List.set_cons_zero, List.set_cons_succ]
    refine take2 (i := 18) (v := undef) (dst := some 29) rfl rfl (by kernel_rfl) (by kernel_rfl) (by kernel_rfl) (fun _ _ _ h => h) (Or.inr ⟨by rfl, rfl⟩) hHeld2 ?_
    simp only [Act.put, List.setIfInBounds_toArray, List.set_cons_zero, List.set_cons_succ]
    refine take2 (i := 19) (v := undef) (dst := some 30) rfl rfl (by kernel_rfl) (by kernel_rfl) (by kernel_rfl) (fun _ _ _ h => h) (Or.inr ⟨by rfl, rfl⟩) hHeld2 ?_
    simp only [Act.put, List.setIfInBounds_toArray, List.set_cons_zero, List.set_cons_succ]
    refine take2 (i := 20) (v := undef) (dst := some 31) rfl rfl (by kernel_rfl) (by kernel_rfl) (by kernel_rfl) (fun _ _ _ h => h) (Or.inr ⟨by rfl, rfl⟩) hHeld2 ?_
    simp only [Act.put, List.setIfInBounds_toArray, List.set_cons_zero, List.set_cons_succ]
    refine take2 (i := 21) (v := undef) (dst := some 32) rfl rfl (by kernel_rfl) (by kernel_rfl) (by kernel_rfl) (fun _ _ _ h => h) (Or.inr ⟨by rfl, rfl⟩) hHeld2 ?_
    simp only [Act.put, List.setIfInBounds_toArray, List.set_cons_zero, List.set_cons_succ]
    refine take2 (i := 22) (v := undef) (dst := some 33) rfl rfl (by kernel_rfl) (by kernel_rfl) (by kernel_rfl) (fun _ _ _ h => h) (Or.inr ⟨by rfl, rfl⟩) hHeld2 ?_
    simp only [Act.put, List.setIfInBounds_toArray, List.set_cons_zero, List.set_cons_succ]
    refine take2 (i := 23) (v := undef) (dst := some 34) rfl rfl (by kernel_rfl) (by kernel_rfl) (by kernel_rfl) (fun _ _ _ h => h) (Or.inr ⟨by rfl, rfl⟩) hHeld2 ?_
    simp only [Act.put, List.setIfInBounds_toArray, List.set_cons_zero, List.set_cons_succ]
    refine take2 (i := 24) (v := undef) (dst := some 35) rfl rfl (by kernel_rfl) (by kernel_rfl) (by kernel_rfl) (fun _ _ _ h => h) (Or.inr ⟨by rfl, rfl⟩) hHeld2 ?_
    simp only [Act.put, List.setIfInBounds_toArray, List.set_cons_zero, List.set_cons_succ]
    refine take2 (i := 25) (v := undef) (dst := some 36) rfl rfl (by kernel_rfl) (by kernel_rfl) (by kernel_rfl) (fun _ _ _ h => h) (Or.inr ⟨by rfl, rfl⟩) hHeld2 ?_
    simp only [Act.put, List.setIfInBounds_toArray, List.set_cons_zero, List.set_cons_succ]
    refine take2 (i := 26) (v := undef) (dst := some 37) rfl rfl (by kernel_rfl) (by kernel_rfl) (by kernel_rfl) (fun _ _ _ h => h) (Or.inr ⟨by rfl, rfl⟩) hHeld2 ?_
    simp only [Act.put, List.setIfInBounds_toArray, List.set_cons_zero, List.set_cons_succ]
    refine take2 (i := 27) (v := undef) (dst := some 38) rfl rfl (by kernel_rfl) (by kernel_rfl) (by kernel_rfl) (fun _ _ _ h => h) (Or.inr ⟨by rfl, rfl⟩) hHeld2 ?_
    simp only [Act.put, List.setIfInBounds_toArray, List.set_cons_zero, List.set_cons_succ]
    refine take2 (i := 28) (v := undef) (dst := some 39) rfl rfl (by kernel_rfl) (by kernel_rfl) (by kernel_rfl) (fun _ _ _ h => h) (Or.inr ⟨by rfl, rfl⟩) hHeld2 ?_
    simp only [Act.put, List.setIfInBounds_toArray, List.set_cons_zero, List.set_cons_succ]
    refine take2 (i := 29) (v := undef) (dst := some 40) rfl rfl (by kernel_rfl) (by kernel_rfl) (by kernel_rfl) (fun _ _ _ h => h) (Or.inr ⟨by rfl, rfl⟩) hHeld2 ?_
    simp only [Act.put, List.setIfInBounds_toArray, List.set_cons_zero, List.set_cons_succ]
    refine take2 (i := 30) (v := undef) (dst := some 41) rfl rfl (by kernel_rfl) (by kernel_rfl) (by kernel_rfl) (fun _ _ _ h => h) (Or.inr ⟨by rfl, rfl⟩) hHeld2 ?_
    simp only [Act.put, List.setIfInBounds_toArray, List.set_cons_zero, List.set_cons_succ]
    refine take2 (i := 31) (v := undef) (dst := some 42) rfl rfl (by kernel_rfl) (by kernel_rfl) (by kernel_rfl) (fun _ _ _ h => h) (Or.inr ⟨by rfl, rfl⟩) hHeld2 ?_
    simp only [Act.put, List.setIfInBounds_toArray, List.set_cons_zero, List.set_cons_succ]
    refine take2 (i := 32) (v := ?_) (dst := some 43) rfl rfl (by kernel_rfl) (by kernel_rfl) (by kernel_rfl) (fun _ _ _ h => h) (Or.inl ⟨by rfl, ?_⟩) hHeld2 ?_
    rotate_left
    · (intro w hSw; (try dsimp only at hSw); go_simp; try with_reducible rfl)
    simp only [Act.put, List.setIfInBounds_toArray, List.set_cons_zero, List.set_cons_succ]
    refine take2 (i := 33) (v := ?_) (dst := some 10) rfl rfl (by kernel_rfl) (by kernel_rfl) (by kernel_rfl) (fun _ _ _ h => h) (Or.inl ⟨by rfl, ?_⟩) hHeld2 ?_
    rotate_left
    · (intro w hSw; (try dsimp only at hSw); go_simp; try with_reducible rfl)
    simp only [Act.put, List.setIfInBounds_toArray, List.set_cons_zero, List.set_cons_succ]
    refine wpAnyH_done (by kernel_rfl) ?_ _
    clear hw1 hw2
    go_wp2_with fail
    go_ret
    exact ⟨rfl, e1⟩
set_option maxHeartbeats 4000000 in
theorem l14Safe_any (a mb : Option Addr) (c d : Nat) (t : List (List Int)) (mk : List (List Bool)) (k l : Nat) (s : Int) (w : World) (ht : IRows w a t) (hmk : BRows w mb mk) (ok : maskOk t mk = true) (hk : k < t.length) (hl : l < wide t) (hs : inCell s = true) :
    Calls Try.prog 62 #[.slice a t.length c, .slice mb mk.length d, .int .i64 k, .int .i64 l, .int .i64 s] w (Ret (.bool (safeF t.length (wide t) (get 0 t) (get false mk) k l s)) w) := by
  have HT := Lib.hid ht; have HM := Lib.hid hmk
  obtain ⟨h1, h4, m1, m4⟩ := maskOk_lens ok
  have R := (tabOk_rect (maskOk_rect ok).1).1
  have RM := (maskOk_rect ok).2
  have hml : mk.length ≤ 9223372036854775807 := by rw [RM.1]; omega
  have hkm : (k : Int) < (mk.length : Int) := by rw [RM.1]; omega
  obtain ⟨hs0, hs1⟩ := inCell_iff.1 hs
  have hkz : (k : Int) < (t.length : Int) := by omega
  have hlz : (l : Int) < (wide t : Int) := by omega
  obtain ⟨tb, tf, tb2, tf2, tk, rfl, ct1, ct2⟩ := HT.out.atC 0 R hk hl
  obtain ⟨nb, mf, mb2, mf2, mk2, rfl, cm1, cm2⟩ := HM.out.atC false RM hk hl
  have hcl := (tabOk_rect (maskOk_rect ok).1).2.2.2.2.2 k l hk hl
  have hval : safeF t.length (wide t) (get 0 t) (get false mk) k l s = (get false mk k l && (decide (get 0 t k l + s ≤ highV t mk k l) && decide (lowV t mk k l ≤ max 0 (get 0 t k l - s)))) := by
    unfold safeF; rw [highV_at ok hk hl, lowV_at ok hk hl]
  rw [hval]
  have hub : 0 ≤ highV t mk k l ∧ highV t mk k l ≤ 396 := by rw [highV_at ok hk hl]; exact high_bd ok hk hl
  have hvb : 0 ≤ lowV t mk k l ∧ lowV t mk k l ≤ 99 := by rw [lowV_at ok hk hl]; exact low_bd ok hk hl
  have CH : Hid (∀ wx : World, Ext w wx → Calls Try.prog 70 #[.slice (some ⟨tb, tf, none⟩) t.length c, .slice (some ⟨nb, mf, none⟩) mk.length d, .int .i64 k, .int .i64 l] wx (AddOut (highV t mk k l) w)) := fun wx ex => (sBoundHigh_any _ _ c d t mk k l wx (HT.out.ext ex) (HM.out.ext ex) (by omega) hml (by omega) (by omega)).mono fun _ _ hr => AddOut.of hr ex
  have CL : Hid (∀ wx : World, Ext w wx → Calls Try.prog 71 #[.slice (some ⟨tb, tf, none⟩) t.length c, .slice (some ⟨nb, mf, none⟩) mk.length d, .int .i64 k, .int .i64 l] wx (AddOut (lowV t mk k l) w)) := fun wx ex => (sBoundLow_any _ _ c d t mk k l wx (HT.out.ext ex) (HM.out.ext ex) (by omega) hml (by omega) (by omega)).mono fun _ _ hr => AddOut.of hr ex
  obtain ⟨u, hu⟩ : ∃ u, highV t mk k l = u := ⟨_, rfl⟩
  obtain ⟨v, hv⟩ : ∃ v, lowV t mk k l = v := ⟨_, rfl⟩
  obtain ⟨y, hy⟩ : ∃ y, get 0 t k l = y := ⟨_, rfl⟩
  rw [hu] at CH hub ⊢
  rw [hv] at CL hvb ⊢
  rw [hy] at ct2 hcl ⊢
  obtain ⟨q, hq⟩ : ∃ q, y - s = q := ⟨_, rfl⟩
  obtain ⟨hub0, hub1⟩ := hub
  obtain ⟨hvb0, hvb1⟩ := hvb
  obtain ⟨hcl0, hcl1⟩ := hcl
  unfold encI at ct2
  unfold encB at cm2
  clear ht hmk ok R RM hml hs hval hu hv hy
  cases hb : get false mk k l with
  | false =>
    rw [hb] at cm2
    clear hb hq
    go_enter Try.func62, Try.ntmps62
    go_wp2_with fail
    go_ret
    exact ⟨rfl, Ext.refl _⟩
  | true =>
    rw [hb] at cm2
    clear hb
    rw [Bool.true_and]
    by_cases hge : y + s ≤ u
    · have hmx : (0 < y - s ∧ max 0 (y - s) = y - s) ∨ (¬ 0 < y - s ∧ max 0 (y - s) = 0) := by omega
      have hgb : decide (y + s ≤ u) = true := by simpa using hge
      rcases hmx with ⟨g1, g2⟩ | ⟨g1, g2⟩
      all_goals
        rw [g2, hgb, Bool.true_and]
        clear g2 hq
        go_enter Try.func62, Try.ntmps62
        go_wp2_with fail
        refine (CH.out _ (Ext.refl _)).mono ?_
        rintro e w1 ⟨rfl, e1⟩
        go_wp2_with fail
        refine (CL.out _ e1).mono ?_
        rintro e w2 ⟨rfl, e2⟩
        go_wp2_with fail
        go_ret
        exact ⟨ret_bool (by simp), e2⟩
    · have hgb : decide (y + s ≤ u) = false := by simpa using hge
      rw [hgb, Bool.false_and]
      clear hq
      go_enter Try.func62, Try.ntmps62
      go_wp2_with fail
      refine (CH.out _ (Ext.refl _)).mono ?_
      rintro e w1 ⟨rfl, e1⟩
      go_wp2_with fail
      go_ret
      exact ⟨rfl, e1⟩
set_option maxHeartbeats 4000000 in
theorem PatternSafe_any (a mb : Option Addr) (c d : Nat) (t : List (List Int)) (mk : List (List Bool)) (i j s : Int) (w : World) (ht : IRows w a t) (hmk : BRows w mb mk) (hm : t.length ≤ 9223372036854775807) (hm2 : mk.length ≤ 9223372036854775807) :
    Calls Try.prog 52 #[.slice a t.length c, .slice mb mk.length d, .int .i64 i, .int .i64 j, .int .i64 s] w (Ret (.bool (safeV t mk i j s)) w) := by
  have HT := Lib.hid ht; clear ht
  have HM := Lib.hid hmk; clear hmk
  go_enter Try.func52, Try.ntmps52
  go_wp2_with fail
  refine (hasCell_any _ _ _ _ t mk i j _ HT.out HM.out hm hm2).mono ?_
  rintro e w' ⟨rfl, rfl⟩
  cases o1 : hasC t mk i j
  · have HD := Lib.hid (safeV_no (d := s) o1); clear o1
    go_wp2_with fail
    go_ret
    exact ⟨ret_bool HD.out.symm, Ext.refl _⟩
  cases o2 : inCell s
  · have HD := Lib.hid (safeV_no2 (t := t) (mk := mk) (i := i) (j := j) o2)
    have O2 := Lib.hid o2
    clear o1 o2
    go_wp2_with fail
    refine (isCell_any _ _).mono ?_
    rintro e w' ⟨rfl, rfl⟩
    rw [O2.out]
    go_wp2_with fail
    go_ret
    exact ⟨ret_bool HD.out.symm, Ext.refl _⟩
  obtain ⟨k, l, rfl, rfl, hk, hl, ok⟩ := hasC_nat o1
  have RM := Lib.hid (maskOk_rect ok).2
  have hkm : (k : Int) < (mk.length : Int) := by rw [RM.out.1]; omega
  have hlz : (l : Int) < (wide t : Int) := by omega
  obtain ⟨nb, mf, mb2, mf2, mk2, rfl, cm1, cm2⟩ := HM.out.atC false RM.out hk hl
  have hv := safeV_at ok hk hl o2
  unfold encB at cm2
  have OK := Lib.hid ok; have O2 := Lib.hid o2; have HV := Lib.hid hv
  clear o1 o2 ok hv
  cases hb : get false mk k l with
  | false =>
    have hf : safeF t.length (wide t) (get 0 t) (get false mk) k l s = false := by unfold safeF; rw [hb]; rfl
    rw [hb] at cm2
    have HF := Lib.hid (HV.out.trans hf)
    clear hb hf
    go_wp2_with fail
    refine (isCell_any _ _).mono ?_
    rintro e w' ⟨rfl, rfl⟩
    rw [O2.out]
    go_wp2_with fail
    go_ret
    exact ⟨ret_bool HF.out.symm, Ext.refl _⟩
  | true =>
    rw [hb] at cm2
    have HB := Lib.hid hb
    clear hb
    go_wp2_with fail
    refine (isCell_any _ _).mono ?_
    rintro e w' ⟨rfl, rfl⟩
    rw [O2.out]
    go_wp2_with fail
    refine (safe_any _ _ _ _ t mk k l s _ HT.out HM.out OK.out hk hl O2.out HB.out).mono ?_
    rintro e w1 ⟨rfl, e1⟩
    rw [← HV.out]
    go_wp2_with fail
    go_ret
    exact ⟨rfl, e1⟩
end Go.Proofs.Ytnlolgooicgfdaa
