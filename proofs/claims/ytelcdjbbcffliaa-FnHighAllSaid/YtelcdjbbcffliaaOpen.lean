/- How the arguments of a law are opened: from 'it can be read as data' to cells. -/
import Derived.Test.YtelcdjbbcffliaaBase
import Derived.ProofKit
import Derived.OpenShut
import Derived.Deep.Slices
import Derived.Deep.Fields
import Derived.ChangeSame
namespace Go.DC
open Go.RowKit Go.ChangeShapes Go.WideShapes Go.Deep

/-- A slice whose k-th element lies at its place and holds 'f k'. -/
def Cells1 (w : World) (a : Option Addr) (n : Nat) (f : Nat → Value) : Prop :=
  ∀ k, k < n → ∃ b off, a = some ⟨b, off, none⟩ ∧ w.cell? ⟨b, off + k, none⟩ = some (f k)

theorem Cells1.ext {w w' : World} {a : Option Addr} {n : Nat} {f : Nat → Value} (h : Cells1 w a n f) (e : Ext w w') : Cells1 w' a n f := fun k hk => by
  obtain ⟨b, off, ha, h0⟩ := h k hk
  exact ⟨b, off, ha, e.cell h0⟩

/-- A slice of bytes. -/
def Bytes (w : World) (a : Option Addr) (zs : List Int) : Prop := Cells1 w a zs.length (fun k => .int .u8 (zs.getD k 0)) ∧ ∀ z ∈ zs, 0 ≤ z ∧ z ≤ 255
theorem Bytes.ext {w w' : World} {a : Option Addr} {zs : List Int} (h : Bytes w a zs) (e : Ext w w') : Bytes w' a zs := ⟨h.1.ext e, h.2⟩

theorem addr_add {w : World} {x : Addr} {i : Nat} {v : Value} (h : w.cell? (x.add i) = some v) (hx : x.spot = none) : w.cell? ⟨x.block, x.off + i, none⟩ = some v := by
  obtain ⟨b, off, spot⟩ := x
  simp only at hx; subst hx
  unfold Addr.add at h
  split at h
  · rename_i e; subst e; simpa using h
  · exact h
theorem addr_spot {w : World} {x : Addr} {v : Value} (h : w.cell? (x.add 0) = some v) : x.spot = none := by
  have := World.cell?_spot h
  simpa [Addr.add] using this

section
variable {H : Type} {enc : TypeId × Value → H} {P : Program} {w : World} {base : Nat} {held : Bool}

theorem open_bytes {t e : TypeId} {a : Option Addr} {n c : Nat} {d : DataW H} {p : List MemPlace} (ht : P.underlying t = some (.slice e)) (he : P.underlying e = some (.int .u8)) (hc : P.cellsOf e = 1)
    (h : DataW.Trod enc P w base (fun _ => true) held t (.slice a n c) d p) : ∃ zs : List Int, zs.length = n ∧ n ≤ 9223372036854775807 ∧ n ≤ c ∧ Bytes w a zs := by
  obtain ⟨fuel, hf⟩ := h
  rcases open_ints ht he hc hf with ⟨hcs, _⟩ | ⟨x, l, c', zs, hcs, _, hl, hm, hz, _, hcell, hwz⟩
  · simp [Value.cells] at hcs
    obtain ⟨rfl, rfl, rfl⟩ := hcs
    exact ⟨[], rfl, by omega, by omega, fun k hk => absurd hk (by simp), fun z hz => by simp at hz⟩
  · simp [Value.cells] at hcs
    obtain ⟨rfl, rfl, rfl⟩ := hcs
    simp only [if_true] at hz
    have hlen : (zs.take n).length = n := by rw [List.length_take]; omega
    refine ⟨zs.take n, hlen, by unfold maxLen at hm; omega, hl, ?_, fun z hz => ?_⟩
    · intro k hk
      rw [hlen] at hk
      have h0 := hcell 0 (by omega)
      have hs := addr_spot h0
      refine ⟨x.block, x.off, by obtain ⟨b, o, s⟩ := x; simp only at hs; subst hs; rfl, ?_⟩
      rw [addr_add (hcell k (by omega)) hs]
      congr 2
      simp only [List.getD_eq_getElem?_getD, List.getElem?_take]
      rw [if_pos hk]
    · have := bounds_u8 (hwz z (List.mem_of_mem_take hz))
      omega

end
end Go.DC
