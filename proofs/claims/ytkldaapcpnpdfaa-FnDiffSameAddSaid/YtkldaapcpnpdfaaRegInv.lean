/- A region that draws its order, by what holds whatever has been done. -/
import Derived.Test.YtkldaapcpnpdfaaOwn
import Derived.Orders
namespace Go.DC
open Go.RowKit
section
variable {P : Program} {md : Region.Mode} {ops : Array Oper} {Q : Exit → Act → World → Prop}
/-- No operation waits for a later one. -/
def fwdB (md : Region.Mode) (ops : Array Oper) : Bool := (List.range ops.size).all fun i => ((ops[i]?).map fun o => o.after.all fun e => !Region.binds md e || decide (e.on < i)).getD true
theorem fwd_spec (h : fwdB md ops = true) {i : Nat} {o : Oper} (hi : ops[i]? = some o) : ∀ e ∈ o.after, Region.binds md e = true → e.on < i := fun e he hb => by
  have hlt : i < ops.size := (Array.getElem?_eq_some_iff.1 hi).1
  have := List.all_eq_true.1 h i (List.mem_range.2 hlt)
  rw [hi] at this
  simp only [Option.map_some, Option.getD_some, Array.all_eq_true_iff_forall_mem] at this
  have := this e he
  simpa [hb] using this
/-- How many operations are left. -/
def left (listed : Array Bool) (n : Nat) : Nat := ((List.range n).filter fun k => !listed.getD k true).length
theorem left_zero {listed : Array Bool} {n : Nat} (h : left listed n = 0) : ∀ k, k < n → listed.getD k true = true := fun k hk => by
  have := List.length_eq_zero_iff.1 h
  have h2 : k ∉ (List.range n).filter fun k => !listed.getD k true := by rw [this]; simp
  rw [List.mem_filter] at h2
  have h3 : ¬ (!listed.getD k true) = true := fun e => h2 ⟨List.mem_range.2 hk, e⟩
  simpa using h3
theorem left_set {listed : Array Bool} {n i : Nat} (_hs : listed.size = n) (hi : i < n) (hf : listed.getD i true = false) : left (listed.setIfInBounds i true) n + 1 = left listed n := by
  have key : ∀ (m : Nat), m ≤ n → ((List.range m).filter fun k => !(listed.setIfInBounds i true).getD k true).length + (if i < m then 1 else 0) = ((List.range m).filter fun k => !listed.getD k true).length := fun m => by
    induction m with
    | zero => intro _; simp
    | succ m ih =>
      intro hm
      have h1 := ih (by omega)
      rw [List.range_succ, List.filter_append, List.filter_append, List.length_append, List.length_append]
      by_cases e : i = m
      · subst e
        have e1 : (listed.setIfInBounds i true).getD i true = true := by
          rw [Array.getD_eq_getD_getElem?, Array.getElem?_setIfInBounds, if_pos rfl]; split <;> rfl
        rw [if_neg (by omega)] at h1
        rw [if_pos (by omega)]
        simp [e1, hf, List.filter] at h1 ⊢
        omega
      · have e1 : (listed.setIfInBounds i true).getD m true = listed.getD m true := by
          rw [Array.getD_eq_getD_getElem?, Array.getD_eq_getD_getElem?, Array.getElem?_setIfInBounds, if_neg e]
        have e2 : (if i < m + 1 then 1 else 0) = (if i < m then 1 else 0) := by split <;> split <;> omega
        rw [e2]
        simp only [List.filter, e1]
        omega
  have := key n (Nat.le_refl _)
  rw [if_pos hi] at this
  exact this
theorem ready_none (hf : fwdB md ops = true) {listed : Array Bool} (h : Region.ready md ops listed = []) (hs : listed.size = ops.size) : ∀ k, k < ops.size → listed.getD k true = true := fun k => by
  induction k using Nat.strongRecOn with
  | _ k ih =>
    intro hk
    cases hl : listed.getD k true with
    | true => rfl
    | false =>
      exfalso
      have ho : ops[k]? = some ops[k] := Array.getElem?_eq_getElem hk
      have : k ∈ Region.ready md ops listed := by
        unfold Region.ready
        rw [List.mem_filter]
        refine ⟨List.mem_range.2 hk, ?_⟩
        rw [hl, ho]
        simp only [Bool.not_false, Bool.true_and, Option.map_some, Option.getD_some, Array.all_eq_true_iff_forall_mem]
        intro e he
        cases hb : Region.binds md e with
        | false => rfl
        | true =>
          have h1 := fwd_spec hf ho e he hb
          have h2 := ih e.on h1 (by omega)
          have : listed.getD e.on false = true := by
            simp only [Array.getD] at h2 ⊢
            rw [dif_pos (by omega)] at h2 ⊢; exact h2
          rw [this]; rfl
      rw [h] at this
      cases this
/-- What one operation keeps, whatever has been done ahead of it, all orders keep. -/
theorem wpAny_inv {I : Array Bool → Act → World → Prop} (hf : fwdB md ops = true)
    (hstep : ∀ i listed a w, listed.size = ops.size → i < ops.size → i ∈ Region.ready md ops listed → I listed a w → wpOp P ops Q i (I (listed.setIfInBounds i true)) a w)
    (hend : ∀ listed a w, (∀ k, k < ops.size → listed.getD k true = true) → I listed a w → Q .normal a w) :
    ∀ (fuel : Nat) (listed : Array Bool) (a : Act) (w : World), listed.size = ops.size → left listed ops.size ≤ fuel → I listed a w → wpAny P md ops Q fuel listed a w
  | 0, listed, a, w, hs, hl, hI => by
    have hall := left_zero (Nat.le_zero.1 hl)
    refine ⟨?_, hend listed a w hall hI⟩
    unfold Region.ready
    rw [List.filter_eq_nil_iff]
    intro k hk
    rw [hall k (List.mem_range.1 hk)]
    simp
  | fuel + 1, listed, a, w, hs, hl, hI => by
    refine ⟨fun h => hend listed a w (ready_none hf h hs) hI, fun i hi => ?_⟩
    have hi2 := (List.mem_filter.1 hi)
    have hin : i < ops.size := List.mem_range.1 hi2.1
    have hfl : listed.getD i true = false := by
      have := hi2.2
      simp only [Bool.and_eq_true, Bool.not_eq_true'] at this
      exact this.1
    refine wpOp_mono (fun a' w' h' => ?_) (hstep i listed a w hs hin hi hI)
    exact wpAny_inv hf hstep hend fuel _ a' w' (by simpa using hs) (by have := left_set hs hin hfl; omega) h'
end
end Go.DC
