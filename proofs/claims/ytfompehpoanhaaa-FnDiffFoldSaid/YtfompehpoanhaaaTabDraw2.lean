/- Two drawn tables. -/
import Derived.Test.YtfompehpoanhaaaTabDraw
namespace Go.Proofs.Ytfompehpoanhaaa
open Go.RowKit Go.DC
/-- Two drawn tables. -/
def TwoOut (r p : Nat) (w : World) (e : Ending) (w' : World) : Prop :=
  ∃ v1 vs1 s v2 vs2 t, e = .returned (.tuple #[v1, v2]) ∧ OwnI w' w.heap.size v1 vs1 s ∧ OwnI w' w.heap.size v2 vs2 t ∧ s.length ≤ 4 ∧ (∀ x ∈ s, x.length ≤ 4) ∧ t.length ≤ 4 ∧ (∀ x ∈ t, x.length ≤ 4) ∧ (∃ p', p' ≤ p + 60 ∧ Rd w' r p') ∧ Keep r w w'
theorem set_small {s : List (List Int)} {k j : Nat} {z : Int} (hk : k < s.length) (h : ∀ x ∈ s, x.length ≤ 4) : ∀ x ∈ s.set k (s[k].set j z), x.length ≤ 4 := fun x hx => by
  rcases List.mem_or_eq_of_mem_set hx with h1 | h1
  · exact h x h1
  · subst h1; rw [List.length_set]; exact h _ (List.getElem_mem hk)
set_option maxHeartbeats 2000000 in
theorem l92Two_any (r p : Nat) (w : World) (h : Rd w r p) (hp : p ≤ 700000) :
    Calls Try.prog 40 #[.pointer (some ⟨r, 0, none⟩)] w (TwoOut r p w) := by
  have hr := h.lt
  go_enter Try.func40, Try.ntmps40
  go_wp2_with fail
  refine (l92Table_any r p 9 _ h (by omega) (by omega) (by omega)).mono ?_
  rintro e w1 ⟨v1, vs1, t, rfl, own1, ht4, htr, ⟨p1, hp1, R1⟩, K1⟩
  obtain ⟨a1, c1, hv1, _, rows1, _⟩ := own1.rows
  subst hv1
  have O1 := Lib.hid own1; have HT := Lib.hid htr; have RW := Lib.hid rows1
  clear own1 htr rows1
  have hr1 : r < w1.heap.size := R1.lt
  go_wp2_with fail
  refine (l11Copy_any _ _ t _ RW.out (by omega) (fun k hk => by have := HT.out _ (List.getElem_mem hk); omega)).mono ?_
  rintro e w2 ⟨v2, vs2, rfl, own2, e2⟩
  obtain ⟨a2, c2, hv2, _, _, _⟩ := own2.rows
  subst hv2
  have R2 := R1.ext e2
  have K2 : Keep r w1 w2 := Keep.of_ext e2
  generalize hN : t.length = n at own2 ht4 ⊢
  have HN := Lib.hid hN; clear hN
  go_wp2_with fail
  go_loopg [6] n (fun gh i wr => ∃ (k q : Nat) (s : List (List Int)), k ≤ n ∧ gh = n - k ∧ i = .int .i64 k ∧ q ≤ p1 + k * 4 ∧ s.length = n ∧ (∀ x ∈ s, x.length ≤ 4) ∧ OwnI wr w1.heap.size (.slice a2 n c2) vs2 s ∧ Rd wr r q ∧ Keep r w1 wr)
  case atStart => exact ⟨0, p1, t, Nat.zero_le _, rfl, rfl, by simp, HN.out, HT.out, own2, R2, K2⟩
  case round =>
    clear own2 R2 K2
    obtain ⟨k, q, s, hk, rfl, rfl, hq, hsl, hs4, own, R, K⟩ := hrel
    by_cases hlt : k < n
    · have hz : (k : Int) < (n : Int) := by omega
      have hks : k < s.length := by omega
      generalize hM : s[k].length = m
      have hm4 : m ≤ 4 := by rw [← hM]; exact hs4 _ (List.getElem_mem hks)
      have HS := Lib.hid hs4; clear hs4
      go_wp2_with fail
      go_loopg [7] m (fun gh i wi => ∃ (j q' : Nat) (s : List (List Int)), j ≤ m ∧ gh = m - j ∧ i = .int .i64 j ∧ q' ≤ p1 + k * 4 + j ∧ s.length = n ∧ (∃ hks : k < s.length, s[k].length = m) ∧ (∀ x ∈ s, x.length ≤ 4) ∧ OwnI wi w1.heap.size (.slice a2 n c2) vs2 s ∧ Rd wi r q' ∧ Keep r w1 wi)
      case atStart => exact ⟨0, q, s, Nat.zero_le _, rfl, rfl, by omega, hsl, ⟨hks, hM⟩, HS.out, own, R, K⟩
      case round =>
        clear own R K hq HS hM hks hsl
        obtain ⟨j, q', s', hj, rfl, rfl, hq', hsl, ⟨hks, hM⟩, hs4, own, R, K⟩ := hrel
        have HS := Lib.hid hs4; clear hs4
        by_cases hjt : j < m
        · have hjz : (j : Int) < (m : Int) := by omega
          obtain ⟨o, co, b, ck, ev, ho, co1, hb, hbo, hvs, cg, fg, _⟩ := own.at hks (by rw [hM]; exact hjt)
          rw [hM] at co1 hvs
          cases ev
          have hbr : b ≠ r := by omega
          have hor : o ≠ r := by omega
          have OW := Lib.hid own; clear own
          unfold encI at cg
          generalize s'[k][j] = x at cg
          go_wp2_with fail
          go_region_with (go_at_call 65; refine (pick_any r q' 4 _ R.drew (by omega) (by omega)).mono ?_; rintro e w6 ⟨y, hy0, hy1, rfl, R6, k6⟩; have d1 := k6.cell (p := ⟨o, k, none⟩) hor co1; have d2 := k6.cell (p := ⟨b, j, none⟩) hbr cg; have d3 := (k6.frozen (p := ⟨b, j, none⟩) hbr cg).trans fg)
          all_goals go_wp2_with fail
          all_goals
            go_roundg (m - (j + 1))
            case measure => omega
            case rel => exact ⟨j + 1, q' + 1, _, by omega, rfl, by go_num, by omega, (by simp), ⟨by rw [List.length_set]; exact hks, by rw [List.getElem_set_self, List.length_set]; exact hM⟩, set_small hks HS.out, ((OW.out.ext ((Ext.refl _).drew)).keep k6 hr1).set (j := j) hks hvs _, R6.setOther ⟨b, j, none⟩ (by show r < b; omega) _, (K.drew.trans k6).setNew (p := ⟨b, j, none⟩) (by show w1.heap.size ≤ b; omega) _⟩
        · have hjz : ¬ (j : Int) < (m : Int) := by omega
          obtain ⟨ao, co, eo, _, rowso, _⟩ := own.rows
          obtain ⟨bo, offo, ako, cko, ea, hco, hmo, _, _⟩ := rowso k hks
          clear rowso
          have ea2 := (Value.slice.inj eo).1
          rw [← ea2] at ea
          rw [hM] at hco hmo
          subst ea
          clear eo ea2
          have HSL := Lib.hid hsl; clear hsl
          have OWN := Lib.hid own; clear own
          clear hM
          go_wp2_with fail
          go_roundg (n - (k + 1))
          case measure => omega
          case rel => exact ⟨k + 1, q', s', by omega, rfl, by go_num, by omega, HSL.out, HS.out, OWN.out, R, K⟩
    · have hz : ¬ (k : Int) < (n : Int) := by omega
      have HS := Lib.hid hs4; clear hs4
      go_wp2_with fail
      refine (pick_any r q 12 _ R (by omega) (by omega)).mono ?_
      rintro e w6 ⟨y, hy0, hy1, rfl, R6, k6⟩
      have K6 := K.trans k6
      have own6 := own.keep k6 hr1
      have hw1 : w.heap.size ≤ w1.heap.size := K1.size
      by_cases y0 : y = 0
      · subst y0
        go_wp2_with fail
        refine (l92Table_any r (q + 1) 9 _ R6 (by omega) (by omega) (by omega)).mono ?_
        rintro e w7 ⟨v7, vs7, t7, rfl, own7, ht7, htr7, ⟨p7, hp7, R7⟩, K7⟩
        go_wp2_with fail
        go_ret2
        exact ⟨_, vs2, s, _, vs7, t7, rfl, (own6.keep K7 hr1).base hw1, own7.base (Nat.le_trans hw1 K6.size), by omega, HS.out, ht7, htr7, ⟨p7, by omega, R7⟩, (K1.trans K6).trans K7⟩
      · have y0b : (y == 0) = false := by simpa using y0
        go_wp2_with fail
        go_ret2
        exact ⟨_, vs1, t, _, vs2, s, rfl, (by have := O1.out.keep K6 hr; rw [HN.out] at this; exact this), own6.base hw1, by have := HN.out; omega, HT.out, by omega, HS.out, ⟨q + 1, by omega, R6⟩, K1.trans K6⟩
end Go.Proofs.Ytfompehpoanhaaa
