/- A region that draws its order, by what holds of the operations that are done. -/
import Derived.Test.YtkldaapcpnpdfaaRegInv
namespace Go.DC
open Go.RowKit
/-- Is it done? -/
def done (l : Array Bool) (k : Nat) : Bool := l.getD k false
theorem done_set {l : Array Bool} {i : Nat} (hi : i < l.size) (k : Nat) : done (l.setIfInBounds i true) k = (decide (k = i) || done l k) := by
  unfold done
  by_cases e : i = k
  · subst e
    simp [Array.getD_eq_getD_getElem?, hi]
  · have e2 : ¬ k = i := fun h => e h.symm
    rw [getD_set_ne _ e]
    simp [e2]
theorem done_of {l : Array Bool} {k : Nat} (h : k < l.size) : l.getD k true = done l k := by
  unfold done
  simp [Array.getD, h]
theorem done_none (n k : Nat) : done (Array.replicate n false) k = false := by
  unfold done
  simp only [Array.getD_eq_getD_getElem?, Array.getElem?_replicate]
  split <;> rfl
section
variable {P : Program} {md : Region.Mode} {ops : Array Oper} {Q : Exit → Act → World → Prop}
/-- Does an operation wait for another? -/
def depB (md : Region.Mode) (ops : Array Oper) (i j : Nat) : Bool := ((ops[i]?).map fun o => o.after.any fun e => Region.binds md e && e.on == j).getD false
theorem dep_ready {i j : Nat} {l : Array Bool} (h : i ∈ Region.ready md ops l) (hd : depB md ops i j = true) : done l j = true := by
  obtain ⟨_, o, ho, ha⟩ := mem_ready.1 h
  unfold depB at hd
  rw [ho] at hd
  simp only [Option.map_some, Option.getD_some, Array.any_eq_true, Bool.and_eq_true, beq_iff_eq] at hd
  obtain ⟨k, hk, hb, hj⟩ := hd
  rw [← hj]
  exact ha _ (Array.getElem_mem hk) hb
theorem wpAny_inv2 {J : Array Bool → Act → World → Prop} (hf : fwdB md ops = true)
    (hstep : ∀ i l a w, l.size = ops.size → i < ops.size → done l i = false → (∀ j, depB md ops i j = true → done l j = true) → (∀ k j, depB md ops k j = true → done l k = true → done l j = true) → J l a w → wpOp P ops Q i (J (l.setIfInBounds i true)) a w)
    (hend : ∀ l a w, (∀ k, k < ops.size → done l k = true) → J l a w → Q .normal a w)
    (a : Act) (w : World) (h0 : J (Array.replicate ops.size false) a w) : wpAny P md ops Q ops.size (Array.replicate ops.size false) a w := by
  refine wpAny_inv (I := fun l a w => l.size = ops.size ∧ (∀ k j, depB md ops k j = true → done l k = true → done l j = true) ∧ J l a w) hf ?_ ?_ _ _ _ _ (by simp) ?_ ⟨by simp, fun k j _ h => ?_, h0⟩
  · rintro i l a w hs hi hr ⟨_, hc, hJ⟩
    have hfr : done l i = false := by
      have := (mem_ready.1 hr).1
      rwa [done_of (by omega)] at this
    have hd : ∀ j, depB md ops i j = true → done l j = true := fun j hj => dep_ready hr hj
    refine wpOp_mono (fun a' w' h' => ⟨by simpa using hs, fun k j hkj hk => ?_, h'⟩) (hstep i l a w hs hi hfr hd hc hJ)
    rw [done_set (by omega)] at hk ⊢
    by_cases e : k = i
    · subst e
      rw [hd j hkj]; simp
    · have : done l k = true := by simpa [e] using hk
      rw [hc k j hkj this]; simp
  · rintro l a w hall ⟨hs, _, hJ⟩
    exact hend l a w (fun k hk => by rw [← done_of (by omega)]; exact hall k hk) hJ
  · unfold left
    exact Nat.le_trans (List.length_filter_le _ _) (by simp)
  · rw [done_none] at h; cases h
end
end Go.DC
