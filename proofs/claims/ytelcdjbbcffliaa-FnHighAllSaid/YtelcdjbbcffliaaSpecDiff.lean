/- The reference's difference of two tables. -/
import Derived.Test.YtelcdjbbcffliaaSpecTab
namespace Go.Proofs.Ytelcdjbbcffliaa
open Go.RowKit Go.DC
theorem shape_iff {s t : List (List Int)} (h1 : tabOk s = true) (h2 : tabOk t = true) : shape s = shape t ↔ s.length = t.length ∧ wide s = wide t := by
  obtain ⟨r1, a1, _, _, _, _⟩ := tabOk_rect h1
  obtain ⟨r2, b1, _, _, _, _⟩ := tabOk_rect h2
  constructor
  · intro e
    have r := shape_rect h1 e
    refine ⟨shape_len e, ?_⟩
    have := r.2 0 (by omega)
    rw [r2.2 0 (by omega)] at this
    exact this.symm
  · rintro ⟨e1, e2⟩
    exact shape_eq e1 (fun k h1' h2' => by rw [r1.2 k h1', r2.2 k h2', e2])
end Go.Proofs.Ytelcdjbbcffliaa
