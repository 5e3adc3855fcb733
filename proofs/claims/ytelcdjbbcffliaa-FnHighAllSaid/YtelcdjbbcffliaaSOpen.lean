/- The reference's steps between places. -/
import Derived.Test.YtelcdjbbcffliaaBound0
import Derived.Test.YtelcdjbbcffliaaSpecTab
namespace Go.DC
/-- Whether a step may change a cell. -/
def openB (h : Nat) (b : Nat → Nat → Bool) (up : Bool) (x : Nat → Nat → Int) (u v : Nat) : Bool :=
  !(decide (u < h) == decide (v < h)) && (b (cellR u v) (cellC h u v) && (!(decide (u < h) == up) || decide (0 < x (cellR u v) (cellC h u v))))
theorem openB_iff {h m i j : Nat} {b : Nat → Nat → Bool} {up : Bool} {x : Nat → Nat → Int} {u v : Nat} (hu : u < h + m) (hv : v < h + m) (hvi : v ≠ i) (hown : ¬ (u = i ∧ v = h + j)) : openB h b up x u v = true ↔ Open h m b i j up x u v := by
  unfold openB Open
  by_cases h1 : u < h
  · by_cases h2 : v < h
    · simp [h1, h2]; omega
    · obtain ⟨e1, e2⟩ := cell_row h1 (show h ≤ v by omega)
      rw [e1, e2]
      have h3 : h ≤ v := by omega
      have h4 : ¬ h ≤ u := by omega
      have h5 : ¬ (u = i ∧ v - h = j) := fun e => hown ⟨e.1, by omega⟩
      simp only [h1, h2, h3, h4, hv, h5, decide_true, decide_false, true_and, false_and, or_false, not_false_iff]
      cases up <;> simp
  · by_cases h2 : v < h
    · obtain ⟨e1, e2⟩ := cell_col (show h ≤ u by omega) h2
      rw [e1, e2]
      have h3 : h ≤ u := by omega
      have h5 : ¬ (v = i ∧ u - h = j) := fun e => hvi e.1
      simp only [h1, h2, h3, hu, h5, decide_true, decide_false, true_and, false_and, false_or, not_false_iff]
      cases up <;> simp
    · simp [h1, h2]
end Go.DC
namespace Go.Proofs.Ytelcdjbbcffliaa
open Go.RowKit Go.DC
set_option maxHeartbeats 1000000 in
theorem l13Cell_any (h u v : Nat) (w : World) (_hh : h ≤ 4) (hu8 : u < 8) (hv8 : v < 8) (huv : (u < h ∧ h ≤ v) ∨ (v < h ∧ h ≤ u)) :
    Calls Try.prog 72 #[.int .i64 h, .int .i64 u, .int .i64 v] w fun e w' => e = .returned (.tuple #[.int .i64 (cellR u v : Nat), .int .i64 (cellC h u v : Nat)]) ∧ w = w' := by
  rcases huv with ⟨h1, h2⟩ | ⟨h1, h2⟩
  · obtain ⟨e1, e2⟩ := cell_row h1 h2
    rw [e1, e2]
    have e3 : ((v - h : Nat) : Int) = (v : Int) - (h : Int) := by omega
    rw [e3]
    clear e1 e2 e3
    have hlt : (u : Int) < (v : Int) := by omega
    have hnl : ¬ (v : Int) < (u : Int) := by omega
    go_enter Try.func72, Try.ntmps72
    go_wp2_with fail
    go_ret2
    exact ⟨rfl, rfl⟩
  · obtain ⟨e1, e2⟩ := cell_col h2 h1
    rw [e1, e2]
    have e3 : ((u - h : Nat) : Int) = (u : Int) - (h : Int) := by omega
    rw [e3]
    clear e1 e2 e3
    have hlt : (v : Int) < (u : Int) := by omega
    have hnl : ¬ (u : Int) < (v : Int) := by omega
    go_enter Try.func72, Try.ntmps72
    go_wp2_with fail
    go_ret2
    exact ⟨rfl, rfl⟩
set_option maxHeartbeats 2000000 in
theorem l13Open_any (a mb : Option Addr) (c d h m u v : Nat) (t : List (List Int)) (mk : List (List Bool)) (up : Bool) (w : World) (ht : IRows w a t) (hmk : BRows w mb mk) (hr : Rect t h m) (hrm : Rect mk h m) (h4 : h ≤ 4) (m4 : m ≤ 4) (hu : u < h + m) (hv : v < h + m) :
    Calls Try.prog 78 #[.slice a t.length c, .slice mb mk.length d, .int .i64 u, .int .i64 v, .bool up] w fun e w' => e = .returned (.bool (openB h (get false mk) up (get 0 t) u v)) ∧ w = w' := by
  have HT := Lib.hid ht; clear ht
  have HM := Lib.hid hmk; clear hmk
  have hl : t.length = h := hr.1
  have hml : mk.length = h := hrm.1
  rw [hl, hml]
  have HL := Lib.hid hl; have HML := Lib.hid hml; have R := Lib.hid hr; have RM := Lib.hid hrm
  clear hl hml hr hrm
  by_cases h1 : u < h
  · have b1 : decide ((u : Int) < (h : Int)) = true := by simpa using h1
    by_cases h2 : v < h
    · have b2 : decide ((v : Int) < (h : Int)) = true := by simpa using h2
      have hd : openB h (get false mk) up (get 0 t) u v = false := by unfold openB; simp [h1, h2]
      have HD := Lib.hid hd; clear hd
      have h1z : (u : Int) < (h : Int) := by omega
      have h2z : (v : Int) < (h : Int) := by omega
      go_enter Try.func78, Try.ntmps78
      go_wp2_with fail
      go_ret
      exact ⟨ret_bool HD.out.symm, rfl⟩
    · have hd : openB h (get false mk) up (get 0 t) u v = (get false mk u (v - h) && (!(true == up) || decide (0 < get 0 t u (v - h)))) := by
        obtain ⟨e1, e2⟩ := cell_row h1 (show h ≤ v by omega)
        unfold openB; rw [e1, e2]; simp [h1, h2]
      rw [hd]
      obtain ⟨e1, e2⟩ := cell_row h1 (show h ≤ v by omega)
      have E1 := Lib.hid e1; have E2 := Lib.hid e2
      have h1z : (u : Int) < (h : Int) := by omega
      have h2z : ¬ (v : Int) < (h : Int) := by omega
      obtain ⟨l, hl⟩ : ∃ l, v - h = l := ⟨_, rfl⟩
      rw [hl] at E2 ⊢
      have hlm : l < m := by omega
      obtain ⟨tb, tf, tb2, tf2, tk, rfl, ct1, ct2⟩ := HT.out.atC 0 R.out h1 hlm
      obtain ⟨nb, mf, mb2, mf2, mk2, rfl, cm1, cm2⟩ := HM.out.atC false RM.out h1 hlm
      have hlz : (l : Int) < (m : Int) := by omega
      obtain ⟨y, hy⟩ : ∃ y, get 0 t u l = y := ⟨_, rfl⟩
      obtain ⟨z, hz⟩ : ∃ z, get false mk u l = z := ⟨_, rfl⟩
      rw [hy] at ct2
      rw [hz] at cm2
      rw [hy, hz]
      unfold encI at ct2
      unfold encB at cm2
      clear hd e1 e2 hy hz b1 hl
      cases z <;> cases up
      all_goals
        go_enter Try.func78, Try.ntmps78
        go_wp2_with fail
        refine (l13Cell_any h u v _ h4 (by omega) (by omega) (Or.inl ⟨h1, by omega⟩)).mono ?_
        rintro e w' ⟨rfl, rfl⟩
        rw [E1.out, E2.out]
        go_wp2_with fail
        go_ret
        exact ⟨ret_bool (by simp), rfl⟩
  · have b1 : decide ((u : Int) < (h : Int)) = false := by simpa using h1
    by_cases h2 : v < h
    · have hd : openB h (get false mk) up (get 0 t) u v = (get false mk v (u - h) && (!(false == up) || decide (0 < get 0 t v (u - h)))) := by
        obtain ⟨e1, e2⟩ := cell_col (show h ≤ u by omega) h2
        unfold openB; rw [e1, e2]; simp [h1, h2]
      rw [hd]
      obtain ⟨e1, e2⟩ := cell_col (show h ≤ u by omega) h2
      have E1 := Lib.hid e1; have E2 := Lib.hid e2
      have h1z : ¬ (u : Int) < (h : Int) := by omega
      have h2z : (v : Int) < (h : Int) := by omega
      obtain ⟨l, hl⟩ : ∃ l, u - h = l := ⟨_, rfl⟩
      rw [hl] at E2 ⊢
      have hlm : l < m := by omega
      obtain ⟨tb, tf, tb2, tf2, tk, rfl, ct1, ct2⟩ := HT.out.atC 0 R.out h2 hlm
      obtain ⟨nb, mf, mb2, mf2, mk2, rfl, cm1, cm2⟩ := HM.out.atC false RM.out h2 hlm
      have hlz : (l : Int) < (m : Int) := by omega
      obtain ⟨y, hy⟩ : ∃ y, get 0 t v l = y := ⟨_, rfl⟩
      obtain ⟨z, hz⟩ : ∃ z, get false mk v l = z := ⟨_, rfl⟩
      rw [hy] at ct2
      rw [hz] at cm2
      rw [hy, hz]
      unfold encI at ct2
      unfold encB at cm2
      clear hd e1 e2 hy hz b1 hl
      cases z <;> cases up
      all_goals
        go_enter Try.func78, Try.ntmps78
        go_wp2_with fail
        refine (l13Cell_any h u v _ h4 (by omega) (by omega) (Or.inr ⟨h2, by omega⟩)).mono ?_
        rintro e w' ⟨rfl, rfl⟩
        rw [E1.out, E2.out]
        go_wp2_with fail
        go_ret
        exact ⟨ret_bool (by simp), rfl⟩
    · have hd : openB h (get false mk) up (get 0 t) u v = false := by unfold openB; simp [h1, h2]
      have HD := Lib.hid hd; clear hd
      have h1z : ¬ (u : Int) < (h : Int) := by omega
      have h2z : ¬ (v : Int) < (h : Int) := by omega
      go_enter Try.func78, Try.ntmps78
      go_wp2_with fail
      go_ret
      exact ⟨ret_bool HD.out.symm, rfl⟩
end Go.Proofs.Ytelcdjbbcffliaa
