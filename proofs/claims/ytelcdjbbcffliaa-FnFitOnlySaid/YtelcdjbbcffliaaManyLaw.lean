/- Masks are counted. -/
import Derived.Test.YtelcdjbbcffliaaSafeLaw
import Derived.Test.YtelcdjbbcffliaaSmall
namespace Go.Proofs.Ytelcdjbbcffliaa
open Go.RowKit Go.DC
theorem manyT_tab (h m : Nat) (b : Nat → Nat → Bool) : (manyT (tabOf h m b) : Int) = manyN h m b := by
  have hr : ∀ (m i : Nat), (cntRow ((List.range m).map (b i)) : Int) = sumN m (one b i) := fun m i => by
    induction m with
    | zero => rfl
    | succ m ih =>
      rw [List.range_succ, List.map_append]
      unfold cntRow at ih ⊢
      rw [List.filter_append, List.length_append, sumN, ← ih, show List.map (b i) [m] = [b i m] from rfl]
      unfold one
      cases b i m <;> simp
  induction h with
  | zero => rfl
  | succ h ih =>
    have e : tabOf (h + 1) m b = tabOf h m b ++ [(List.range m).map fun j => b h j] := by
      unfold tabOf
      rw [List.range_succ, List.map_append]; rfl
    rw [e]
    unfold manyT manyN at ih ⊢
    rw [List.map_append, List.sum_append, sumN, ← ih, ← hr]
    simp
end Go.Proofs.Ytelcdjbbcffliaa
