/- Drawn tables and masks. -/
import Derived.Test.YtkldaapcpnpdfaaReader
import Derived.Test.YtkldaapcpnpdfaaTabSpecI
import Derived.Test.YtkldaapcpnpdfaaTabFun
namespace Go.Proofs.Ytkldaapcpnpdfaa
open Go.RowKit Go.DC
set_option maxHeartbeats 1000000 in
theorem l11Blank_any (h m : Nat) (w : World) (hh : h ≤ 8) (hm : m ≤ 8) :
    Calls Try.prog 39 #[.int .i64 h, .int .i64 m] w (NewTab encI 3 55 (List.replicate h (List.replicate m 0)) w) := by
  have hmk := run_make_row' (P := Try.prog) 55 3 (.int .i64 0) 8 Try.underlying55 Try.dcElemI rfl .i64 .i64 m (by omega) (by omega)
  go_enter Try.func39, Try.ntmps39
  go_wp2_with fail
  go_loopg [5, 6] h (fun g v i wr => ∃ (k : Nat) (vs : List Value), k ≤ h ∧ g = h - k ∧ i = .int .i64 k ∧ OwnI wr w.heap.size v vs (List.replicate k (List.replicate m 0)) ∧ Ext w wr)
  case atStart => exact ⟨0, [], Nat.zero_le _, rfl, rfl, by simpa using ownT_empty (enc := encI) (te := 3) (ts := 55) w (Nat.le_refl _), (Ext.refl _).alloc _⟩
  case round =>
    obtain ⟨k, vs, hk, rfl, rfl, own, hext⟩ := hrel
    by_cases hlt : k < h
    · have hz : (k : Int) < (h : Int) := by omega
      have hsz := hext.size
      obtain ⟨av, cv, hv, _, _⟩ := own.rows
      rw [List.length_replicate] at hv
      subst hv
      have x1 := ((Ext.refl wr).alloc (.cells (madeCells #[.int .i64 0] m) 3))
      have x2 := x1.alloc (.cells #[.slice (some ⟨wr.heap.size, 0, none⟩) m m] 55)
      have own2 := own.ext x2
      have hu2 : ((wr.alloc (.cells (madeCells #[.int .i64 0] m) 3)).alloc (.cells #[.slice (some ⟨wr.heap.size, 0, none⟩) m m] 55)).ownsRow w.heap.size 3 1 (.slice (some ⟨wr.heap.size, 0, none⟩) m m) (List.replicate m (0 : Int)).length ((List.replicate m (0 : Int)).map encI) :=
        owns_ext (by
          have := World.ownsRow_lit (base := w.heap.size) (e := 3) (size := 1) wr (madeCells #[.int .i64 0] m) m hsz (by unfold maxLen; omega) (by simp [size_madeCells])
          rw [toList_madeCells_one] at this
          simpa using this) ((Ext.refl _).alloc _)
      have hne : ∀ b, (Value.slice (some (⟨wr.heap.size, 0, none⟩ : Addr)) m m).ownBlock = some b → (Value.slice av k cv).ownBlock ≠ some b := fun b hb h => by
        have h2 := (own.outer_lt h).2
        simp [Value.ownBlock] at hb
        omega
      have hap : ∀ l (_ : l < vs.length), ∀ b, (Value.slice (some (⟨wr.heap.size, 0, none⟩ : Addr)) m m).ownBlock = some b → vs[l].ownBlock ≠ some b := fun l hl b hb h => by
        have h2 := (own.inner_lt hl h).2
        simp [Value.ownBlock] at hb
        omega
      have hcell : ((wr.alloc (.cells (madeCells #[.int .i64 0] m) 3)).alloc (.cells #[.slice (some ⟨wr.heap.size, 0, none⟩) m m] 55)).cell? ⟨wr.heap.size + 1, 0, none⟩ = some (.slice (some ⟨wr.heap.size, 0, none⟩) m m) := by simp [go_sem]
      have hB : w.heap.size ≤ ((wr.alloc (.cells (madeCells #[.int .i64 0] m) 3)).alloc (.cells #[.slice (some ⟨wr.heap.size, 0, none⟩) m m] 55)).heap.size := by simp; omega
      have hlt2 : (List.replicate k (List.replicate m (0 : Int))).length ≤ 10000000 := by simp; omega
      have hat : ∀ k', (Value.slice av k cv).ownBlock = some k' → w.heap.size ≤ k' := fun k' hk' => (own.outer_lt hk').1
      have O2 := Lib.hid own2; have U2 := Lib.hid hu2; have NE := Lib.hid hne; have AP := Lib.hid hap; have HC := Lib.hid hcell; have HA := Lib.hid hat
      clear own2 hu2 hne hap hcell hat own
      go_wp2_with (at_builtin; refine wpList_pushI rfl (.tmp 13) (.tmp 16) rfl w.heap.size _ vs (List.replicate k (List.replicate m 0)) rfl O2.out (wr.heap.size + 1) rfl _ rfl HC.out (List.replicate m 0) U2.out NE.out AP.out hlt2 hB ?_; intro v' w2 own3 hg2 _)
      have hext2 : Ext w w2 := (hext.trans x2).grownNew hg2 HA.out
      rw [show List.replicate k (List.replicate m (0 : Int)) ++ [List.replicate m 0] = List.replicate (k + 1) (List.replicate m 0) by rw [List.replicate_succ']] at own3
      clear hg2 O2 U2 NE AP HC
      go_wp2_with fail
      go_roundg (h - (k + 1))
      case measure => omega
      case rel => exact ⟨k + 1, _, by omega, rfl, by go_num, own3, hext2⟩
    · have hz : ¬ (k : Int) < (h : Int) := by omega
      go_wp2_with fail
      go_ret
      have hkh : k = h := by omega
      subst hkh
      exact ⟨_, vs, rfl, own, hext⟩
end Go.Proofs.Ytkldaapcpnpdfaa
