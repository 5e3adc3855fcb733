/- New tables, copies, comparisons. -/
import Derived.Test.YtelcdjbbcffliaaTabImpl
namespace Go.Proofs.Ytelcdjbbcffliaa
open Go.RowKit Go.DC
abbrev OwnI := @OwnT Int encI 3 28
abbrev OwnB := @OwnT Bool encB 4 53
theorem Try.dcInfoInt : (Try.prog.info? 3).map (fun i => (i.zero, i.size, i.bytes)) = some (some (.int .i64 0), 1, 8) := by kernel_rfl
theorem Try.dcInfoInts : (Try.prog.info? 28).map (fun i => (i.zero, i.size, i.bytes)) = some (some (.slice none 0 0), 1, 24) := by kernel_rfl

theorem own_made (w : World) (m B : Nat) (hB : B ≤ w.heap.size) (hm : m ≤ 9223372036854775807) :
    (w.alloc (.cells (madeCells #[.int .i64 0] m) 3)).ownsRow B 3 1 (.slice (some ⟨w.heap.size, 0, none⟩) m m) (List.replicate m (0 : Int)).length ((List.replicate m (0 : Int)).map encI) := by
  have := World.ownsRow_lit (base := B) (e := 3) (size := 1) w (madeCells #[.int .i64 0] m) m hB (by unfold maxLen; omega) (by simp [size_madeCells])
  rw [toList_madeCells_one] at this
  simpa using this

abbrev NewI := @NewTab Int encI 3 28

theorem set_fill {α : Type} {n k : Nat} (x : α) (y : α) (h : k < n) : (List.replicate k x ++ List.replicate (n - k) y).set k x = List.replicate (k + 1) x ++ List.replicate (n - (k + 1)) y := by
  apply List.ext_getElem
  · simp; omega
  · intro i h1 h2
    simp only [List.getElem_set, List.getElem_append, List.getElem_replicate, List.length_replicate]
    repeat' split
    all_goals first | rfl | omega

set_option maxHeartbeats 1000000 in
theorem emptyTable_any (h m : Nat) (w : World) (hh : h ≤ 8) (hm : m ≤ 8) :
    Calls Try.prog 57 #[.int .i64 h, .int .i64 m] w (NewI (List.replicate h (List.replicate m 0)) w) := by
  have hmk := run_make_row' (P := Try.prog) 23 28 (.slice none 0 0) 24 Try.underlying23 Try.dcInfoInts rfl .i64 .i64 h (by omega) (by omega)
  go_enter Try.func57, Try.ntmps57
  go_wp2_with fail
  clear hmk
  go_loopg [11] h (fun g i wr => ∃ (k : Nat) (vs : List Value), k ≤ h ∧ g = h - k ∧ i = .int .i64 k ∧ OwnI wr w.heap.size (.slice (some ⟨w.heap.size, 0, none⟩) h h) vs (List.replicate k (List.replicate m 0) ++ List.replicate (h - k) []) ∧ Ext w wr)
  case atStart => exact ⟨0, _, Nat.zero_le _, rfl, rfl, by simpa using OwnT.made (enc := encI) (te := 3) (ts := 28) w h (Nat.le_refl _) (by omega), (Ext.refl _).alloc _⟩
  case round =>
    obtain ⟨k, vs, hk, rfl, rfl, own, hext⟩ := hrel
    by_cases hlt : k < h
    · have hz : (k : Int) < (h : Int) := by omega
      have hlen : k < (List.replicate k (List.replicate m (0 : Int)) ++ List.replicate (h - k) []).length := by simp; omega
      have hmk := run_make_row' (P := Try.prog) 28 3 (.int .i64 0) 8 Try.underlying28 Try.dcInfoInt rfl .i64 .i64 m (by omega) (by omega)
      have hsz := hext.size
      have own1 := own.ext ((Ext.refl wr).alloc (.cells (madeCells #[.int .i64 0] m) 3))
      have hsl : w.heap.size < wr.heap.size := (own.outer_lt rfl).2
      obtain ⟨c1, hc1, _, hf1⟩ := own1.cellAt hlen
      have hset := own1.setRow (u := .slice (some ⟨wr.heap.size, 0, none⟩) m m) (zs := List.replicate m 0) hlen (own_made wr m w.heap.size hsz (by omega)) (fun b hb => by simp [Value.ownBlock] at hb; omega)
        (fun l hl _ b hb => by
          simp [Value.ownBlock] at hb
          intro hh
          have := (own.inner_lt hl hh).2
          omega)
      rw [set_fill _ _ hlt, World.setCell_alloc_past _ _ _ _ hsl] at hset
      have HS := Lib.hid hset; clear hset own own1
      go_wp2_with fail
      go_roundg (h - (k + 1))
      case measure => omega
      case rel => exact ⟨k + 1, _, by omega, rfl, by go_num, HS.out, (hext.setCell (p := ⟨w.heap.size, k, none⟩) (Nat.le_refl _) _).alloc _⟩
    · have hz : ¬ (k : Int) < (h : Int) := by omega
      go_wp2_with fail
      go_ret
      have hkh : k = h := by omega
      subst hkh
      exact ⟨_, vs, rfl, by simpa using own, hext⟩
end Go.Proofs.Ytelcdjbbcffliaa
