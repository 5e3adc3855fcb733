/- slices.Repeat of one number. -/
import Derived.Test.YtelcdjbbcffliaaTabImpl2
import Derived.Laws.CopyOwn
namespace Go.Proofs.Ytelcdjbbcffliaa
open Go.RowKit Go.DC
set_option maxHeartbeats 1000000 in
theorem Mul64_any (n : Nat) (hn : n ≤ 8) (w : World) :
    Calls Try.prog 81 #[.int .u64 1, .int .u64 n] w fun e w' => e = .returned (.tuple #[.int .u64 0, .int .u64 n]) ∧ w' = w := by
  rcases (by omega : n = 0 ∨ n = 1 ∨ n = 2 ∨ n = 3 ∨ n = 4 ∨ n = 5 ∨ n = 6 ∨ n = 7 ∨ n = 8) with e | e | e | e | e | e | e | e | e
  all_goals
    subst e
    go_enter Try.func81, Try.ntmps81
    go_wp2
    go_ret2
    exact ⟨rfl, rfl⟩
set_option maxHeartbeats 1000000 in
theorem Mul_any (n : Nat) (hn : n ≤ 8) (w : World) :
    Calls Try.prog 79 #[.int .u64 1, .int .u64 n] w fun e w' => e = .returned (.tuple #[.int .u64 0, .int .u64 n]) ∧ w' = w := by
  go_enter Try.func79, Try.ntmps79
  go_wp2_with (go_at_call 81; refine (Mul64_any n hn _).mono ?_; rintro e w' ⟨rfl, hw⟩; rw [hw])
  go_ret2
  exact ⟨rfl, rfl⟩
/-- The first k numbers are z. -/
def reps (z : Int) (n k : Nat) : List Value := List.replicate k (.int .i64 z) ++ List.replicate (n - k) (.int .i64 0)
theorem reps_len (z : Int) {n k : Nat} (h : k ≤ n) : (reps z n k).length = n := by simp [reps]; omega
theorem reps_at (z : Int) {n k j : Nat} (h : j < k) : (reps z n k)[j]? = some (.int .i64 z) := by
  unfold reps
  rw [List.getElem?_append_left (by simpa using h)]
  simp [h]
theorem reps_splice (z : Int) {n k m : Nat} (_h : k + m ≤ n) : splice (reps z n k) k (List.replicate m (.int .i64 z)) = reps z n (k + m) := by
  unfold splice reps
  rw [List.take_left' (by simp), List.drop_append, ← List.append_assoc, List.replicate_append_replicate]
  simp
  omega
theorem src_one {w : World} {b g : Nat} {z : Int} {o : Obj} (hb : w.cell? ⟨b, 0, none⟩ = some (.int .i64 z)) : 0 < [Value.int .i64 z].length → some (⟨g, 0, none⟩ : Addr) = some ⟨g, 0, none⟩ ∧ ∃ ad, some (⟨b, 0, none⟩ : Addr) = some ad ∧ ∀ j v, [Value.int .i64 z][j]? = some v → (w.alloc o).cell? (ad.add j) = some v := fun _ =>
  ⟨rfl, _, rfl, fun j v hj => by
    cases j with
    | zero => simp at hj; subst hj; rw [add_none]; exact ((Ext.refl w).alloc _).cell hb
    | succ j => simp at hj⟩
theorem src_reps {W : World} {g n k m : Nat} {z : Int} {T : TypeId} (hmk : m ≤ k) (hW : W.heap[g]? = some (.cells (reps z n k).toArray T (0, 0))) : 0 < (List.replicate m (Value.int .i64 z)).length → some (⟨g, k, none⟩ : Addr) = some ⟨g, k, none⟩ ∧ ∃ ad, some (⟨g, 0, none⟩ : Addr) = some ad ∧ ∀ j v, (List.replicate m (Value.int .i64 z))[j]? = some v → W.cell? (ad.add j) = some v := fun _ =>
  ⟨rfl, _, rfl, fun j v hj => by
    have hjm : j < m := by
      have := (List.getElem?_eq_some_iff.1 hj).1
      simpa using this
    rw [List.getElem?_replicate, if_pos hjm] at hj
    cases hj
    rw [add_none, Nat.zero_add, cell_of_row W g j _ _ (0, 0) hW]
    have := reps_at z (n := n) (show j < k by omega)
    simpa using this⟩
set_option maxRecDepth 10000 in
set_option maxHeartbeats 2000000 in
theorem Repeat_any (b : Nat) (z : Int) (n : Nat) (w : World) (hb : w.cell? ⟨b, 0, none⟩ = some (.int .i64 z)) (hn0 : 1 ≤ n) (hn : n ≤ 8) :
    Calls Try.prog 77 #[.slice (some ⟨b, 0, none⟩) 1 1, .int .i64 n] w (NewRow encI 3 (List.replicate n z) w) := by
  have hmk := run_make_row' (P := Try.prog) 28 3 (.int .i64 0) 8 Try.underlying28 Try.dcInfoInt rfl .i64 .i64 n (by omega) (by omega)
  have hwn : IntKind.u64.wrap (n : Int) = (n : Int) := by rw [IntKind.wrap_u64]; omega
  have hwi : IntKind.i64.wrap (n : Int) = (n : Int) := IntWalk.i64_in _ (by omega)
  have hw1 : IntKind.u64.wrap 1 = 1 := by decide +kernel
  have hnm : ¬ (9223372036854775807 : Int) < (n : Int) := by omega
  have hnb : decide ((9223372036854775807 : Int) < (n : Int)) = false := by simpa using hnm
  have hnb2 : decide (9223372036854775807 < n) = false := by simp; omega
  have hmul := fun w => Mul_any n hn w
  have HM := Lib.hid hmul; clear hmul
  have hblt : b < w.heap.size := World.block_lt_of_cell? _ _ hb
  have hinfo : (Try.prog.info? 3).map (·.size) = some 1 := by kernel_rfl
  have hg0 : (w.alloc (.cells (madeCells #[.int .i64 0] n) 3)).heap[w.heap.size]? = some (.cells (reps z n 0).toArray 3 (0, 0)) := by
    rw [heap_alloc_new]
    have : madeCells #[.int .i64 0] n = (reps z n 0).toArray := by
      apply Array.ext'
      rw [toList_madeCells_one]; simp [reps]
    rw [this]
  have hbel : Below w.heap.size w (w.alloc (.cells (madeCells #[.int .i64 0] n) 3)) := (Ext.refl w).alloc _
  have hfit : 0 + [Value.int .i64 z].length ≤ (reps z n 0).length := by rw [reps_len z (Nat.zero_le _)]; simpa using hn0
  have hlen : [Value.int .i64 z].length = Nat.min 1 n := (Nat.min_eq_left hn0).symm
  have HG0 := Lib.hid hg0; have HB := Lib.hid hbel; have HF := Lib.hid hfit; have HLN := Lib.hid hlen
  clear hg0 hbel hfit hlen
  go_enter Try.func77, Try.ntmps77
  go_wp2_with (first
    | (go_at_call 79; refine (HM.out _).mono ?_; rintro e w' ⟨rfl, hw⟩; rw [hw])
    | (refine wpList_copy_splice rfl (.tmp 31) (.tmp 32) 28 28 rfl 3 Try.underlying28 hinfo _ _ _ _ _ _ rfl rfl w.heap.size 0 (reps z n 0) 3 HG0.out [.int .i64 z] HLN.out (src_one hb) HF.out (by simp [Value.oneCell']) w.heap.size w HB.out (Nat.le_refl _) ?_; intro w2 hg2 hb2))
  have hg3 : w2.heap[w.heap.size]? = some (.cells (reps z n 1).toArray 3 (0, 0)) := by
    have := hg2.out
    rw [show [Value.int .i64 z] = List.replicate 1 (.int .i64 z) from rfl, reps_splice z (by omega)] at this
    exact this
  clear hg2 HG0 HB HF HLN hmk
  go_loopg [8] (n - 1) (fun g i wr => ∃ k : Nat, 1 ≤ k ∧ k ≤ n ∧ g = n - k ∧ i = .int .i64 k ∧ wr.heap[w.heap.size]? = some (.cells (reps z n k).toArray 3 (0, 0)) ∧ Ext w wr)
  case atStart => exact ⟨1, Nat.le_refl _, hn0, rfl, rfl, hg3, hb2⟩
  case round =>
    clear hg3 hb2
    obtain ⟨k, hk1, hk, rfl, rfl, hg, hext⟩ := hrel
    by_cases hlt : k < n
    · have hz : (k : Int) < (n : Int) := by omega
      obtain ⟨m, hm⟩ : ∃ m, Nat.min k (n - k) = m := ⟨_, rfl⟩
      have hm1 : 1 ≤ m ∧ m ≤ k ∧ k + m ≤ n := by
        have : m = k ∨ m = n - k := by
          rw [← hm]
          rcases Nat.le_total k (n - k) with h | h
          · left; exact Nat.min_eq_left h
          · right; exact Nat.min_eq_right h
        have h1 : m ≤ k := by rw [← hm]; exact Nat.min_le_left _ _
        have h2 : m ≤ n - k := by rw [← hm]; exact Nat.min_le_right _ _
        omega
      obtain ⟨hm1, hmk, hmn⟩ := hm1
      have hlen : (List.replicate m (Value.int .i64 z)).length = Nat.min k (n - k) := by rw [List.length_replicate, hm]
      have hgd : wr.drew.heap[w.heap.size]? = some (.cells (reps z n k).toArray 3 (0, 0)) := hg
      have hbel : Below w.heap.size w wr.drew := hext.drew
      have hfit : k + (List.replicate m (Value.int .i64 z)).length ≤ (reps z n k).length := by rw [reps_len z hk, List.length_replicate]; exact hmn
      have h1 : ∀ v ∈ List.replicate m (Value.int .i64 z), v.oneCell' = true := fun v hv => by rw [List.eq_of_mem_replicate hv]; rfl
      have HG := Lib.hid hgd; have HB := Lib.hid hbel; have HF := Lib.hid hfit; have HL := Lib.hid hlen; have H1 := Lib.hid h1
      have hnk : ¬ n = k := by omega
      have hkn : (k : Int) ≤ (n : Int) := by omega
      have hmi : ((List.replicate m (Value.int .i64 z)).length : Int) = m := by simp
      clear hgd hbel hfit hlen h1 hg hm hext
      go_wp2_with fail
      go_region_law (refine step_copy_splice rfl (.tmp 41) (.tmp 44) 28 28 rfl 3 Try.underlying28 hinfo (some ⟨w.heap.size, k, none⟩) (some ⟨w.heap.size, 0, none⟩) (n - k) (n - k) k n (by simp [Act.eval, Act.put]) (by simp [Act.eval, Act.put]) w.heap.size k (reps z n k) 3 HG.out (List.replicate m (.int .i64 z)) HL.out (src_reps hmk HG.out) HF.out H1.out w.heap.size w HB.out (Nat.le_refl _) ?_; intro w3 hg3 hb3; have hg4 : Hid (w3.heap[w.heap.size]? = some (.cells (reps z n (k + m)).toArray 3 (0, 0))) := (by have := hg3.out; rw [reps_splice z hmn] at this; exact this))
      all_goals
        go_wp2_with fail
        go_roundg (n - (k + m))
        case measure => omega
        case rel => exact ⟨k + m, by omega, hmn, rfl, by rw [IntWalk.i64_in _ (by omega)]; simp, hg4.out, hb3⟩
    · have hz : ¬ (k : Int) < (n : Int) := by omega
      have hkn : k = n := by omega
      subst hkn
      have own : wr.ownsRow w.heap.size 3 1 (.slice (some ⟨w.heap.size, 0, none⟩) k k) (List.replicate k z).length ((List.replicate k z).map encI) := by
        refine ⟨by simp, .inr ⟨w.heap.size, k, _, by simp, Nat.le_refl _, hg, by simp, by unfold maxLen; omega, by simp [reps], ?_⟩⟩
        simp [reps]
      have OW := Lib.hid own
      clear own hg
      go_wp2_with fail
      go_ret
      exact ⟨_, rfl, OW.out, hext⟩
end Go.Proofs.Ytelcdjbbcffliaa
