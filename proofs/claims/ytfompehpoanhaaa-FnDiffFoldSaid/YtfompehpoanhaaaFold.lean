/- The first two rows are added up. -/
import Derived.Test.YtfompehpoanhaaaDel
import Derived.Test.YtfompehpoanhaaaCells
import Derived.Test.YtfompehpoanhaaaTabImpl
namespace Go.Proofs.Ytfompehpoanhaaa
open Go.RowKit Go.DC
def foldG (f : Nat → Nat → Int) (i j : Nat) : Int := if i = 0 then f 0 j + f 1 j else f (i + 1) j
def fold01 (t : List (List Int)) : List (List Int) := tabOf (t.length - 1) (wide t) (foldG (get 0 t))
def foldOk (t : List (List Int)) : Bool := tabOk t && decide (2 ≤ t.length) && tabOk (fold01 t)
def foldT (t : List (List Int)) : List (List Int) := if foldOk t then fold01 t else []
def FoldOut (t : List (List Int)) (w : World) (e : Ending) (w' : World) : Prop :=
  ∃ v vs, e = .returned (.tuple #[v, .bool (foldOk t)]) ∧ OwnI w' w.heap.size v vs (foldT t) ∧ Ext w w'
/-- The first j sums are there. -/
def foldJ (f : Nat → Nat → Int) (j : Nat) : Nat → Nat → Int := fun i l => if i = 0 then (if l < j then f 0 l + f 1 l else f 0 l) else f (i + 1) l
theorem erase_tabOf (h m : Nat) (f : Nat → Nat → Int) (hh : 2 ≤ h) : (tabOf h m f).eraseIdx 1 = tabOf (h - 1) m (foldJ f 0) := by
  have hl : ((tabOf h m f).eraseIdx 1).length = h - 1 := by rw [List.length_eraseIdx_of_lt (by rw [tabOf_length]; omega), tabOf_length]
  apply List.ext_getElem
  · rw [hl, tabOf_length]
  · intro k h1 h2
    rw [hl] at h1
    rw [tabOf_row]
    by_cases e : k < 1
    · rw [List.getElem_eraseIdx_of_lt (h := by rw [hl]; exact h1) e, tabOf_row]
      have : k = 0 := by omega
      subst this
      apply List.map_congr_left
      intro l _
      simp [foldJ]
    · rw [List.getElem_eraseIdx_of_ge (h := by rw [hl]; exact h1) (by omega), tabOf_row]
      apply List.map_congr_left
      intro l _
      unfold foldJ
      rw [if_neg (by omega)]
theorem foldJ_step (f : Nat → Nat → Int) (j : Nat) : upd (foldJ f j) 0 j (foldJ f j 0 j + f 1 j) = foldJ f (j + 1) := by
  funext i l
  unfold upd foldJ
  by_cases e : i = 0 ∧ l = j
  · obtain ⟨rfl, rfl⟩ := e
    simp
  · rw [if_neg e]
    by_cases e0 : i = 0
    · rw [if_pos e0, if_pos e0]
      by_cases el : l < j
      · rw [if_pos el, if_pos (by omega)]
      · rw [if_neg el, if_neg (by omega)]
    · rw [if_neg e0, if_neg e0]
theorem foldJ_all (h m : Nat) (f : Nat → Nat → Int) : tabOf h m (foldJ f m) = tabOf h m (foldG f) := tabOf_congr fun i j _ hj => by
  unfold foldJ foldG
  rw [if_pos hj]
set_option maxHeartbeats 2000000 in
theorem TableFold_any (a : Option Addr) (c : Nat) (t : List (List Int)) (w : World) (ht : IRows w a t) (hm : t.length ≤ 9223372036854775807) :
    Calls Try.prog 32 #[.slice a t.length c, .int .i64 0, .int .i64 1] w (FoldOut t w) := by
  have HT := Lib.hid ht; clear ht
  go_enter Try.func32, Try.ntmps32
  go_wp2_with fail
  refine (TableValid_any _ _ t _ HT.out hm).mono ?_
  rintro e w' ⟨rfl, rfl⟩
  cases o1 : tabOk t
  · have hd : foldOk t = false := by simp [foldOk, o1]
    have HD := Lib.hid hd; clear hd o1
    go_wp2_with fail
    go_ret2
    exact ⟨_, [], by rw [HD.out]; rfl, by unfold foldT; rw [HD.out]; exact own_nil _ _, Ext.refl _⟩
  have O1 := Lib.hid o1; clear o1
  obtain ⟨r, h1, h4, m1, m4, hcl⟩ := tabOk_rect O1.out
  have R := Lib.hid r; have CL := Lib.hid hcl
  clear r hcl
  by_cases h2 : 2 ≤ t.length
  · have hz1 : ¬ ((1 : Int) ≥ (t.length : Int)) := by omega
    have hz2 : ¬ ((t.length : Int) ≤ 1) := by omega
    have hb1 : decide ((t.length : Int) ≤ 1) = false := by simpa using hz2
    have hb2 : decide (t.length ≤ 1) = false := by simp; omega
    go_wp2_with fail
    refine (copyTableI_any _ _ t _ HT.out (by omega) (fun k hk => by rw [R.out.2 k hk]; omega)).mono ?_
    rintro e w1 ⟨v, vs, rfl, own1, e1⟩
    rw [R.out.eq 0] at own1
    obtain ⟨o, co, g, ck, ev, ho, _, _, _, _, _, _, _⟩ := own1.atC (i := 0) (j := 0) (by omega) (by omega)
    subst ev
    have hco : co ≤ 9223372036854775807 := by
      obtain ⟨_, h3⟩ := own1.outer
      rcases h3 with ⟨e, _⟩ | ⟨g', cap, cur, e, _, _, _, hmx, _⟩
      · simp at e
      · simp only [Value.slice.injEq] at e
        have := e.2.2
        unfold maxLen at hmx; omega
    have hdel := Delete1_any own1 (tabOf_length _ _ _) h2 hco
    rw [erase_tabOf _ _ _ h2] at hdel
    have DEL := Lib.hid hdel
    clear hdel own1
    go_wp2_with fail
    refine DEL.out.mono ?_
    rintro e w2 ⟨rfl, own2, g2⟩
    have e2 : Ext w w2 := e1.grownNew g2 (fun k hk => by cases hk; exact ho)
    generalize vs.eraseIdx 1 = us at own2
    have h1t : 1 < t.length := by omega
    obtain ⟨tb, tf, ak, ck1, ea, hc0, _, _, hrow⟩ := HT.out 1 h1t
    subst ea
    rw [R.out.2 1 h1t] at hc0
    have hc1 := e2.cell hc0
    have HR1 := Lib.hid hrow
    clear hrow hc0
    have h1z : (1 : Int) < (t.length : Int) := by omega
    have hl2 : w1.heap.size ≤ w2.heap.size := g2.size
    have o3 : OwnI w2 w.heap.size (.slice (some ⟨o, 0, none⟩) (t.length - 1) co) us (tabOf (t.length - 1) (wide t) (foldJ (get 0 t) 0)) := own2
    clear own2 g2 DEL
    go_wp2_with fail
    go_loopg [40] (wide t) (fun g i wr => ∃ j : Nat, j ≤ wide t ∧ g = wide t - j ∧ i = .int .i64 j ∧ OwnI wr w.heap.size (.slice (some ⟨o, 0, none⟩) (t.length - 1) co) us (tabOf (t.length - 1) (wide t) (foldJ (get 0 t) j)) ∧ Ext w wr)
    case atStart => exact ⟨0, Nat.zero_le _, rfl, rfl, o3, e2⟩
    case round =>
      clear o3
      obtain ⟨j, hj, rfl, rfl, own, hext⟩ := hrel
      by_cases hjt : j < wide t
      · have hjz : (j : Int) < (wide t : Int) := by omega
        have hj1 : j < t[1].length := by rw [R.out.2 1 h1t]; exact hjt
        obtain ⟨rb, rf, rfl, hcr⟩ := (HR1.out.ext hext) j hj1
        rw [← get_cell (d := 0) h1t hj1] at hcr
        obtain ⟨_, _, g', ck', ev, _, co1, hg', hgo, hvs, cg, fg, _⟩ := own.atC (i := 0) (by omega : 0 < t.length - 1) hjt
        cases ev
        have hset := own.setC (j := j) (by omega : 0 < t.length - 1) hvs (foldJ (get 0 t) j 0 j + get 0 t 1 j)
        rw [foldJ_step] at hset
        have b1 := CL.out 1 j h1t hjt
        have b0 : 0 ≤ foldJ (get 0 t) j 0 j ∧ foldJ (get 0 t) j 0 j ≤ 99 := by
          have := CL.out 0 j (by omega) hjt
          simpa [foldJ] using this
        obtain ⟨x, hx⟩ : ∃ x, foldJ (get 0 t) j 0 j = x := ⟨_, rfl⟩
        obtain ⟨y, hy⟩ : ∃ y, get 0 t 1 j = y := ⟨_, rfl⟩
        rw [hx] at cg b0 hset
        rw [hy] at hcr b1 hset
        have hww : IntKind.i64.wrap (x + y) = x + y := IntWalk.i64_in _ (by omega)
        have h0z : (0 : Int) < ((t.length - 1 : Nat) : Int) := by omega
        unfold encI at cg hcr hset
        have HS := Lib.hid hset
        clear hset own hx hy b0 b1
        go_wp2_with fail
        go_roundg (wide t - (j + 1))
        case measure => omega
        case rel => exact ⟨j + 1, by omega, rfl, by go_num, HS.out, hext.setCell (p := ⟨g', j, none⟩) hg' _⟩
      · have hjz : ¬ (j : Int) < (wide t : Int) := by omega
        have hjm : j = wide t := by omega
        have own2 : OwnI wr w.heap.size (.slice (some ⟨o, 0, none⟩) (t.length - 1) co) us (fold01 t) := by
          unfold fold01; rw [← foldJ_all, ← hjm]; subst hjm; exact own
        obtain ⟨a2, c2, ev2, _, r2, _⟩ := own2.rows
        have hfl : (fold01 t).length = t.length - 1 := tabOf_length _ _ _
        rw [hfl] at ev2
        cases ev2
        have tv := TableValid_any _ co (fold01 t) wr r2 (by rw [hfl]; omega)
        rw [hfl] at tv
        have TV := Lib.hid tv; have OW := Lib.hid own2
        have hfo : foldOk t = tabOk (fold01 t) := by simp [foldOk, O1.out, h2]
        have HFO := Lib.hid hfo
        clear tv own2 own r2 hfo hfl hjm
        go_wp2_with fail
        refine TV.out.mono ?_
        rintro e w' ⟨rfl, rfl⟩
        cases o2 : tabOk (fold01 t)
        · have O2 := Lib.hid o2; clear o2
          go_wp2_with fail
          go_ret2
          exact ⟨_, [], by rw [HFO.out, O2.out]; rfl, by unfold foldT; rw [HFO.out, O2.out]; exact own_nil _ _, hext⟩
        · have O2 := Lib.hid o2; clear o2
          go_wp2_with fail
          go_ret2
          exact ⟨_, us, by rw [HFO.out, O2.out]; rfl, by unfold foldT; rw [HFO.out, O2.out]; exact OW.out, hext⟩
  · have hz1 : ((1 : Int) ≥ (t.length : Int)) := by omega
    have hz2 : ((t.length : Int) ≤ 1) := by omega
    have hb2 : decide (t.length ≤ 1) = true := by simp; omega
    have hd : foldOk t = false := by simp [foldOk, h2]
    have HD := Lib.hid hd; clear hd h2
    go_wp2_with fail
    go_ret2
    exact ⟨_, [], by rw [HD.out]; rfl, by unfold foldT; rw [HD.out]; exact own_nil _ _, Ext.refl _⟩
end Go.Proofs.Ytfompehpoanhaaa
