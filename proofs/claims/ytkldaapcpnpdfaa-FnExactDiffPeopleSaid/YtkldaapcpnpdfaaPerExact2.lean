/- Copies and comparisons of lists of persons. -/
import Derived.Test.YtkldaapcpnpdfaaPerExact
namespace Go.Proofs.Ytkldaapcpnpdfaa
open Go.RowKit Go.DC
set_option maxHeartbeats 1000000 in
theorem eqPersonS_yes (a1 a2 : Option Addr) (c1 c2 : Nat) (ps : List Per) (w : World) (hp : Pers w a1 ps) (hq : Pers w a2 ps) (hm : ps.length ≤ 1048576) :
    Calls Try.prog 19 #[.slice a1 ps.length c1, .slice a2 ps.length c2] w (Ret (.bool true) w) := by
  have HP := Lib.hid hp; clear hp
  have HQ := Lib.hid hq; clear hq
  go_enter Try.func19, Try.ntmps19
  go_wp2
  go_loopg [5] ps.length (fun g i wr => ∃ k : Nat, k ≤ ps.length ∧ g = ps.length - k ∧ i = .int .i64 k ∧ Ext w wr)
  case atStart => exact ⟨0, Nat.zero_le _, rfl, rfl, Ext.refl _⟩
  case round =>
    obtain ⟨k, hk, rfl, rfl, hext⟩ := hrel
    by_cases hlt : k < ps.length
    · obtain ⟨b, off, rfl, h0, h1, h2, h3⟩ := (HP.out.ext hext) k hlt
      obtain ⟨b', off', rfl, g0, g1, g2, g3⟩ := (HQ.out.ext hext) k hlt
      have hz : (k : Int) < (ps.length : Int) := by omega
      go_wp2
      go_still_tail 8, (by kernel_rfl)
      change wpList _ _ _ _ _ wr.drew
      obtain ⟨w2, hw2⟩ : ∃ w2, wr.drew = w2 := ⟨_, rfl⟩
      have e2 : Ext w w2 := hw2 ▸ hext.drew
      rw [hw2]
      clear hw2
      go_wp2_with (go_at_call 36; refine (eqPerson_yes ps[k] _).mono ?_; rintro e w' ⟨rfl, hb⟩)
      go_roundg (ps.length - (k + 1))
      case measure => omega
      case rel => exact ⟨k + 1, by omega, rfl, by go_num, e2.trans hb⟩
    · have hz : ¬ (k : Int) < (ps.length : Int) := by omega
      go_wp2
      go_ret
      exact ⟨rfl, hext⟩
/-- The cells of a list of persons. -/
def perCell (ps : List Per) (i : Nat) : Value :=
  match ps[i / 4]? with
  | some p => if i % 4 = 0 then .int .i64 p.area else if i % 4 = 1 then .int .i64 p.job else if i % 4 = 2 then .int .i64 p.sex else .int .i64 p.pay
  | none => .int .i64 0

theorem perCell_at {ps : List Per} {k : Nat} (h : k < ps.length) : perCell ps (k * 4) = .int .i64 ps[k].area ∧ perCell ps (k * 4 + 1) = .int .i64 ps[k].job ∧ perCell ps (k * 4 + 2) = .int .i64 ps[k].sex ∧ perCell ps (k * 4 + 3) = .int .i64 ps[k].pay := by
  have e0 : k * 4 / 4 = k := by omega
  have e1 : (k * 4 + 1) / 4 = k := by omega
  have e2 : (k * 4 + 2) / 4 = k := by omega
  have e3 : (k * 4 + 3) / 4 = k := by omega
  have m1 : (k * 4 + 1) % 4 = 1 := by omega
  have m2 : (k * 4 + 2) % 4 = 2 := by omega
  have m3 : (k * 4 + 3) % 4 = 3 := by omega
  simp [perCell, e0, e1, e2, e3, m1, m2, m3, List.getElem?_eq_getElem h]

theorem pers_of_row {w : World} {b : Nat} {t : TypeId} {ps : List Per} (h : w.rowIs b t (ps.length * 4) (perCell ps)) : Pers w (some ⟨b, 0, none⟩) ps := fun k hk => by
  obtain ⟨p0, p1, p2, p3⟩ := perCell_at hk
  have h0 := h.cell (i := k * 4) (by omega)
  have h1 := h.cell (i := k * 4 + 1) (by omega)
  have h2 := h.cell (i := k * 4 + 2) (by omega)
  have h3 := h.cell (i := k * 4 + 3) (by omega)
  rw [p0] at h0; rw [p1] at h1; rw [p2] at h2; rw [p3] at h3
  exact ⟨b, 0, rfl, by simpa using h0, by simpa using h1, by simpa using h2, by simpa using h3⟩
theorem Try.dcInfoPer : (Try.prog.info? 36).map (fun i => (i.zero, i.size, i.bytes)) = some (some (.agg #[.int .i64 0, .int .i64 0, .int .i64 0, .int .i64 0]), 4, 32) := by kernel_rfl

theorem madePer (n : Nat) : ∀ i, i < n * 4 → (madeCells #[.int .i64 0, .int .i64 0, .int .i64 0, .int .i64 0] (n * 4))[i]? = some (.int .i64 0) := fun i hi => by
  have : i % 4 < 4 := by omega
  unfold madeCells
  simp [hi]
  rcases (by omega : i % 4 = 0 ∨ i % 4 = 1 ∨ i % 4 = 2 ∨ i % 4 = 3) with h | h | h | h <;> simp [h]

theorem run_make_per (n : Nat) (hn : n ≤ 1048576) (w : World) :
    (Instr.makeSlice 23 (.int .i64 n) (.int .i64 n)).run Try.prog w = .ok (.slice (some ⟨w.heap.size, 0, none⟩) n n) (w.alloc (.cells (madeCells #[.int .i64 0, .int .i64 0, .int .i64 0, .int .i64 0] (n * 4)) 36)) := by
  obtain ⟨i, hi, hzz⟩ := Option.map_eq_some_iff.1 Try.dcInfoPer
  simp only [Prod.mk.injEq] at hzz
  obtain ⟨hz, hs, hb⟩ := hzz
  have h := run_make (P := Try.prog) w 23 36 i _ Try.underlying23 hi hz .i64 .i64 n n (by omega) (Int.le_refl _) (by rw [hb]; omega) (by omega)
  simp only [Int.toNat_natCast, hs] at h
  exact h

set_option maxHeartbeats 1000000 in
theorem toPersonS_any (a : Option Addr) (c : Nat) (ps : List Per) (w : World) (hp : Pers w a ps) (hm : ps.length ≤ 1048576) :
    Calls Try.prog 17 #[.slice a ps.length c] w fun e w' => e = .returned (.slice (some ⟨w.heap.size, 0, none⟩) ps.length ps.length) ∧ Pers w' (some ⟨w.heap.size, 0, none⟩) ps ∧ Ext w w' := by
  have HP := Lib.hid hp; clear hp
  have hmk := run_make_per ps.length hm
  go_enter Try.func17, Try.ntmps17
  go_wp2
  clear hmk
  go_loopg [4] ps.length (fun g i wr => ∃ k : Nat, k ≤ ps.length ∧ g = ps.length - k ∧ i = .int .i64 k ∧ wr.rowIs w.heap.size 36 (ps.length * 4) (fun i => if i < k * 4 then perCell ps i else .int .i64 0) ∧ Ext w wr)
  case atStart => exact ⟨0, Nat.zero_le _, rfl, rfl, ⟨_, World.alloc_heap_new _ _, size_madeCells _ _, fun i hi => by simpa using madePer ps.length i hi⟩, (Ext.refl _).alloc _⟩
  case round =>
    obtain ⟨k, hk, rfl, rfl, hrow, hext⟩ := hrel
    by_cases hlt : k < ps.length
    · obtain ⟨b, off, rfl, h0, h1, h2, h3⟩ := (HP.out.ext hext) k hlt
      have hz : (k : Int) < (ps.length : Int) := by omega
      go_wp2_with fail
      refine (toPerson_any ps[k] _).mono ?_
      rintro e w' ⟨rfl, hb⟩
      unfold Per.val
      have hrow' := hrow.of_block (hb.block _ hrow.lt)
      have q0 := hrow'.cell (i := k * 4) (by omega)
      have q1 := hrow'.cell (i := k * 4 + 1) (by omega)
      have q2 := hrow'.cell (i := k * 4 + 2) (by omega)
      have q3 := hrow'.cell (i := k * 4 + 3) (by omega)
      have f0 := hrow'.frozen (k * 4)
      have f1 := hrow'.frozen (k * 4 + 1)
      have f2 := hrow'.frozen (k * 4 + 2)
      have f3 := hrow'.frozen (k * 4 + 3)
      have hext' := hext.trans hb
      clear hrow hb hext h0 h1 h2 h3
      rw [if_neg (by omega)] at q0 q1 q2 q3
      go_wp2
      go_roundg (ps.length - (k + 1))
      case measure => omega
      case rel =>
        refine ⟨k + 1, by omega, rfl, by go_num, ?_, ?_⟩
        · refine ((((hrow'.set (k * 4) _).set (k * 4 + 1) _).set (k * 4 + 2) _).set (k * 4 + 3) _).congr (fun i hi => ?_)
          obtain ⟨p0, p1, p2, p3⟩ := perCell_at hlt
          by_cases e3 : i = k * 4 + 3
          · subst e3; rw [if_pos rfl, if_pos (by omega), p3]
          rw [if_neg e3]
          by_cases e2 : i = k * 4 + 2
          · subst e2; rw [if_pos rfl, if_pos (by omega), p2]
          rw [if_neg e2]
          by_cases e1 : i = k * 4 + 1
          · subst e1; rw [if_pos rfl, if_pos (by omega), p1]
          rw [if_neg e1]
          by_cases e0 : i = k * 4
          · subst e0; rw [if_pos rfl, if_pos (by omega), p0]
          rw [if_neg e0]
          by_cases hlt' : i < k * 4
          · rw [if_pos hlt', if_pos (by omega)]
          · rw [if_neg hlt', if_neg (by omega)]
        · exact (((hext'.setCell (Nat.le_refl _) _).setCell (Nat.le_refl _) _).setCell (Nat.le_refl _) _).setCell (Nat.le_refl _) _
    · have hz : ¬ (k : Int) < (ps.length : Int) := by omega
      go_wp2
      go_ret
      exact ⟨rfl, pers_of_row (hrow.congr fun i hi => by rw [if_pos (by omega)]), hext⟩
end Go.Proofs.Ytkldaapcpnpdfaa
