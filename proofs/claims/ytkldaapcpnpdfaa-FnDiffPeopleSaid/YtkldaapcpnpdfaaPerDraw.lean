/- Drawn persons and lists of persons: some persons, the reader further on, all else as it was. -/
import Derived.Test.YtkldaapcpnpdfaaTabDraw
import Derived.Test.YtkldaapcpnpdfaaPeople
import Derived.Test.YtkldaapcpnpdfaaOwn
namespace Go.Proofs.Ytkldaapcpnpdfaa
open Go.RowKit Go.DC
/-- A drawn person. -/
def PerOut (r p : Nat) (w : World) (e : Ending) (w' : World) : Prop :=
  ∃ q : Per, e = .returned q.val ∧ Rd w' r (p + 5) ∧ Keep r w w'

set_option maxHeartbeats 1000000 in
theorem l91Person_any (r p : Nat) (w : World) (h : Rd w r p) (hr : r < w.heap.size) (hp : p ≤ 900000) :
    Calls Try.prog 37 #[.pointer (some ⟨r, 0, none⟩)] w (PerOut r p w) := by
  go_enter Try.func37, Try.ntmps37
  go_wp2_with fail
  refine (pick_any r p 4 _ (h.ext ((Ext.refl _).alloc _)) (by omega) (by omega)).mono ?_
  rintro e w1 ⟨x1, _, _, rfl, R1, k1⟩
  go_wp2_with fail
  refine (pick_any r (p + 1) 3 _ R1 (by omega) (by omega)).mono ?_
  rintro e w2 ⟨x2, _, _, rfl, R2, k2⟩
  go_wp2_with fail
  refine (pick_any r (p + 1 + 1) 2 _ R2 (by omega) (by omega)).mono ?_
  rintro e w3 ⟨x3, _, _, rfl, R3, k3⟩
  go_wp2_with fail
  refine (pick_any r (p + 1 + 1 + 1) 10 _ R3 (by omega) (by omega)).mono ?_
  rintro e w4 ⟨x4, _, _, rfl, R4, k4⟩
  go_wp2_with fail
  refine (pick_any r (p + 1 + 1 + 1 + 1) 100 _ R4 (by omega) (by omega)).mono ?_
  rintro e w5 ⟨x5, _, _, rfl, R5, k5⟩
  have K := (((k1.trans k2).trans k3).trans k4).trans k5
  have hne : w.heap.size ≠ r := by omega
  have hx : 0 ≤ x4 * 100 + x5 ∧ x4 * 100 + x5 ≤ 1100 := by omega
  have hrow : w5.rowIs w.heap.size 36 4 (fun _ => .int .i64 0) :=
    (World.rowIs_alloc w #[.int .i64 0, .int .i64 0, .int .i64 0, .int .i64 0] 36 (fun _ => .int .i64 0) (fun i hi => by
      rcases (by simp at hi; omega : i = 0 ∨ i = 1 ∨ i = 2 ∨ i = 3) with e | e | e | e <;> subst e <;> rfl)).of_block (K.block _ (by simp) hne)
  have c0 := hrow.cell (i := 0) (by omega)
  have c1 := hrow.cell (i := 1) (by omega)
  have c2 := hrow.cell (i := 2) (by omega)
  have c3 := hrow.cell (i := 3) (by omega)
  have f0 := hrow.frozen 0
  have f1 := hrow.frozen 1
  have f2 := hrow.frozen 2
  have f3 := hrow.frozen 3
  have HR := Lib.hid ((((hrow.set 0 (.int .i64 x1)).set 1 (.int .i64 x2)).set 2 (.int .i64 x3)).set 3 (.int .i64 (x4 * 100 + x5))); clear hrow
  have K0 := ((Keep.refl r w).alloc (.cells #[.int .i64 0, .int .i64 0, .int .i64 0, .int .i64 0] 36)).trans K
  have HK := (((K0.setNew (p := ⟨w.heap.size, 0, none⟩) (Nat.le_refl _) (.int .i64 x1)).setNew (p := ⟨w.heap.size, 1, none⟩) (Nat.le_refl _) (.int .i64 x2)).setNew (p := ⟨w.heap.size, 2, none⟩) (Nat.le_refl _) (.int .i64 x3)).setNew (p := ⟨w.heap.size, 3, none⟩) (Nat.le_refl _) (.int .i64 (x4 * 100 + x5))
  have HD := (((R5.setOther ⟨w.heap.size, 0, none⟩ hr (.int .i64 x1)).setOther ⟨w.heap.size, 1, none⟩ hr (.int .i64 x2)).setOther ⟨w.heap.size, 2, none⟩ hr (.int .i64 x3)).setOther ⟨w.heap.size, 3, none⟩ hr (.int .i64 (x4 * 100 + x5))
  clear k1 k2 k3 k4 k5 R1 R2 R3 R4 R5 K K0
  go_wp2
  obtain ⟨W, hW⟩ : ∃ W, (((w5.setCell ⟨w.heap.size, 0, none⟩ (.int .i64 x1)).setCell ⟨w.heap.size, 1, none⟩ (.int .i64 x2)).setCell ⟨w.heap.size, 2, none⟩ (.int .i64 x3)).setCell ⟨w.heap.size, 3, none⟩ (.int .i64 (x4 * 100 + x5)) = W := ⟨_, rfl⟩
  have hr4 := HR.out
  rw [hW] at hr4 HK HD ⊢
  have d0 := hr4.cell (i := 0) (by omega)
  have d1 := hr4.cell (i := 1) (by omega)
  have d2 := hr4.cell (i := 2) (by omega)
  have d3 := hr4.cell (i := 3) (by omega)
  simp only [Nat.reduceEqDiff, if_false, if_true] at d0 d1 d2 d3
  clear hW c0 c1 c2 c3 f0 f1 f2 f3
  exact bodyPost_ret (v := .agg #[.int .i64 x1, .int .i64 x2, .int .i64 x3, .int .i64 (x4 * 100 + x5)]) (by simp [results, Try.results37, go_sem, d0, d1, d2, d3]) rfl ⟨⟨x1, x2, x3, x4 * 100 + x5⟩, rfl, HD, HK⟩
end Go.Proofs.Ytkldaapcpnpdfaa
