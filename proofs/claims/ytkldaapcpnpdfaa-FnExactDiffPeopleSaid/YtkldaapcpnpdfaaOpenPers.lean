/- A list of persons among a law's arguments, opened. -/
import Derived.Test.YtkldaapcpnpdfaaOwn
import Derived.Test.YtkldaapcpnpdfaaPeople
namespace Go.Proofs.Ytkldaapcpnpdfaa
open Go.RowKit Go.DC Go.ChangeShapes Go.WideShapes Go.Deep
section
variable {H : Type} {enc : TypeId × Value → H} {P : Program} {w : World} {base : Nat} {held : Bool}

theorem open_pers {t e q : TypeId} {f0 f1 f2 f3 : Field} {a : Option Addr} {n c : Nat} {d : DataW H} {p : List MemPlace} (ht : P.underlying t = some (.slice e)) (he : P.underlying e = some (.struct #[f0, f1, f2, f3]))
    (hq : P.underlying q = some (.int .i64)) (hone : oneCellFields P #[f0, f1, f2, f3] = true) (h0 : f0.type = q) (h1 : f1.type = q) (h2 : f2.type = q) (h3 : f3.type = q) (hC : P.cellsOf e = 4)
    (h : DataW.Trod enc P w base (fun _ => true) held t (.slice a n c) d p) : ∃ ps : List Per, ps.length = n ∧ n ≤ 9223372036854775807 ∧ Pers w a ps := by
  obtain ⟨fuel, hf⟩ := h
  rcases open_slice ht hf with ⟨hcs, _⟩ | ⟨x, l, c', m, n', D, Pl, hcs, _, hl, hm, hmm, _, hi⟩
  · simp [Value.cells] at hcs
    obtain ⟨rfl, rfl, rfl⟩ := hcs
    exact ⟨[], rfl, by omega, fun k hk => absurd hk (by simp)⟩
  · simp [Value.cells] at hcs
    obtain ⟨rfl, rfl, rfl⟩ := hcs
    simp only [if_true] at hmm
    subst hmm
    have each : ∀ i, i < n → ∃ p : Per, w.cell? (x.add (i * 4)) = some (.int .i64 p.area) ∧ w.cell? (x.add (i * 4 + 1)) = some (.int .i64 p.job) ∧ w.cell? (x.add (i * 4 + 2)) = some (.int .i64 p.sex) ∧ w.cell? (x.add (i * 4 + 3)) = some (.int .i64 p.pay) := fun i hin => by
      obtain ⟨cs', hc, ht'⟩ := hi i (by omega)
      rw [hC] at hc
      obtain ⟨ys, n'', hn', hy, hlen, hyl, hfl⟩ := DataW.trod_struct he ht'
      obtain ⟨_, hcl, hat⟩ := World.cells?_some hc
      have fld : ∀ (j : Nat) (f : Field), (#[f0, f1, f2, f3] : Array Field)[j]? = some f → f.type = q → j < 4 → ∃ z, w.cell? (x.add (i * 4 + j)) = some (.int .i64 z) := fun j f hj hft hj4 => by
        obtain ⟨ho, hk⟩ := hone_of hone j f hj
        have hcell := hat j hj4
        have h1 := hfl j f hj
        rw [ho, hk] at h1
        have hone' : (cs'.drop j).take 1 = [cs'[j]'(by omega)] := by
          rw [List.drop_eq_getElem_cons (by omega)]
          rfl
        rw [hone', hft] at h1
        have hys : ys[j]? = some (ys[j]'(by rw [hyl]; simpa using hj4)) := List.getElem?_eq_getElem _
        obtain ⟨z, hz, _, _⟩ := DataW.trod_int hq (h1.trans hys)
        refine ⟨z, ?_⟩
        rw [← Go.Deep.add_add, hcell, List.getElem?_eq_getElem (by omega)]
        simp only [List.cons.injEq, and_true] at hz
        rw [hz]
      obtain ⟨z0, e0⟩ := fld 0 f0 rfl h0 (by omega)
      obtain ⟨z1, e1⟩ := fld 1 f1 rfl h1 (by omega)
      obtain ⟨z2, e2⟩ := fld 2 f2 rfl h2 (by omega)
      obtain ⟨z3, e3⟩ := fld 3 f3 rfl h3 (by omega)
      exact ⟨⟨z0, z1, z2, z3⟩, by simpa using e0, e1, e2, e3⟩
    have : Inhabited Per := ⟨⟨0, 0, 0, 0⟩⟩
    obtain ⟨F, hF⟩ := choose_lt each
    refine ⟨(List.range n).map F, by simp, by unfold maxLen at hm; omega, fun k hk => ?_⟩
    have hkn : k < n := by simpa using hk
    have hs : x.spot = none := addr_spot (by simpa using (hF 0 (by omega)).1)
    obtain ⟨q0, q1, q2, q3⟩ := hF k hkn
    refine ⟨x.block, x.off, by obtain ⟨b, o, s⟩ := x; simp only at hs; subst hs; rfl, ?_, ?_, ?_, ?_⟩
    · simpa using addr_add q0 hs
    · simpa [Nat.add_assoc] using addr_add q1 hs
    · simpa [Nat.add_assoc] using addr_add q2 hs
    · simpa [Nat.add_assoc] using addr_add q3 hs
end
end Go.Proofs.Ytkldaapcpnpdfaa
