/- Tables and masks among a law's arguments, opened. -/
import Derived.Test.YtelcdjbbcffliaaOwn
import Derived.Test.YtelcdjbbcffliaaTabImpl
namespace Go.Proofs.Ytelcdjbbcffliaa
open Go.RowKit Go.DC Go.ChangeShapes Go.WideShapes Go.Deep
section
variable {H : Type} {enc : TypeId × Value → H} {P : Program} {w : World} {base : Nat} {held : Bool}

theorem int_wf {n : Int} (h : (Lit.int .i64 n).wf = true) : -9223372036854775808 ≤ n ∧ n ≤ 9223372036854775807 := by
  unfold Lit.wf at h
  simp only [Bool.and_eq_true, decide_eq_true_eq] at h
  have h1 : IntKind.min .i64 = -9223372036854775808 := by decide +kernel
  have h2 : IntKind.max .i64 = 9223372036854775807 := by decide +kernel
  rw [h1, h2] at h
  exact h

theorem open_row {α : Type} [Inhabited α] (encf : α → Value) {e q : TypeId} (he : P.underlying e = some (.slice q)) (cq : P.cellsOf q = 1)
    (hel : ∀ (n : Nat) (v : Value) (x : DataW H × List MemPlace), DataW.trod enc P w base (fun _ => true) held n q [v] = some x → ∃ z : α, v = encf z)
    {n : Nat} {v : Value} {x : DataW H × List MemPlace} (h : DataW.trod enc P w base (fun _ => true) held n e [v] = some x) :
    ∃ (a : Option Addr) (c : Nat) (zs : List α), v = .slice a zs.length c ∧ zs.length ≤ c ∧ (a = none → c = 0) ∧ zs.length ≤ 9223372036854775807 ∧ TRow encf w a zs := by
  rcases open_slice1 he cq h with ⟨hv, _⟩ | ⟨a, len, cap, m, n', V, D, Pl, hv, _, hl, hm, hmm, _, hx⟩
  · have hv' : v = .slice none 0 0 := by simpa using hv
    exact ⟨none, 0, [], hv', Nat.le_refl _, fun _ => rfl, by simp, fun k hk => by simp at hk⟩
  · have hv' : v = .slice (some a) len cap := by simpa using hv
    simp only [if_true] at hmm
    subst hmm
    have each : ∀ j, j < len → ∃ z : α, w.cell? (a.add j) = some (encf z) := fun j hj => by
      obtain ⟨h1, h2⟩ := hx j (by omega)
      obtain ⟨z, hz⟩ := hel _ _ _ h2
      exact ⟨z, by rw [h1, hz]⟩
    obtain ⟨F, hF⟩ := choose_lt each
    refine ⟨some a, m, (List.range len).map F, by simpa using hv', by simpa using hl, (fun h => by cases h), by simp; unfold maxLen at hm; omega, fun k hk => ?_⟩
    have hk' : k < len := by simpa using hk
    have hs : a.spot = none := addr_spot (hF 0 (by omega))
    refine ⟨a.block, a.off, by obtain ⟨b, o, s⟩ := a; simp only at hs; subst hs; rfl, ?_⟩
    rw [addr_add (hF k hk') hs]
    simp

theorem open_rows {α : Type} [Inhabited α] (encf : α → Value) {t e q : TypeId} {a : Option Addr} {n c : Nat} {d : DataW H} {p : List MemPlace} (ht : P.underlying t = some (.slice e)) (he : P.underlying e = some (.slice q)) (ce : P.cellsOf e = 1) (cq : P.cellsOf q = 1)
    (hel : ∀ (n : Nat) (v : Value) (x : DataW H × List MemPlace), DataW.trod enc P w base (fun _ => true) held n q [v] = some x → ∃ z : α, v = encf z)
    (h : DataW.Trod enc P w base (fun _ => true) held t (.slice a n c) d p) :
    ∃ T : List (List α), T.length = n ∧ (T.length ≤ 9223372036854775807 ∧ ∀ k (h : k < T.length), T[k].length ≤ 9223372036854775807) ∧ TRows encf w a T := by
  obtain ⟨fuel, hf⟩ := h
  rcases open_slice1 ht ce hf with ⟨hcs, _⟩ | ⟨x, l, c', m, n', V, D, Pl, hcs, _, hl, hm, hmm, _, hx⟩
  · simp [Value.cells] at hcs
    obtain ⟨rfl, rfl, rfl⟩ := hcs
    exact ⟨[], rfl, ⟨by simp, fun k hk => by simp at hk⟩, fun k hk => by simp at hk⟩
  · simp [Value.cells] at hcs
    obtain ⟨rfl, rfl, rfl⟩ := hcs
    simp only [if_true] at hmm
    subst hmm
    have each : ∀ i, i < n → ∃ y : (Option Addr × Nat) × List α, w.cell? (x.add i) = some (.slice y.1.1 y.2.length y.1.2) ∧ y.2.length ≤ y.1.2 ∧ (y.1.1 = none → y.1.2 = 0) ∧ y.2.length ≤ 9223372036854775807 ∧ TRow encf w y.1.1 y.2 := fun i hi => by
      obtain ⟨h1, h2⟩ := hx i (by omega)
      obtain ⟨a', c', zs, e1, e2, e3, e4, e5⟩ := open_row encf he cq hel h2
      exact ⟨((a', c'), zs), by rw [h1, e1], e2, e3, e4, e5⟩
    have : Inhabited ((Option Addr × Nat) × List α) := ⟨((none, 0), [])⟩
    obtain ⟨F, hF⟩ := choose_lt each
    refine ⟨(List.range n).map fun i => (F i).2, by simp, ⟨by simp; unfold maxLen at hm; omega, fun k hk => ?_⟩, fun k hk => ?_⟩
    · have hk' : k < n := by simpa using hk
      simpa using (hF k hk').2.2.2.1
    · have hk' : k < n := by simpa using hk
      obtain ⟨f1, f2, f3, f4, f5⟩ := hF k hk'
      have hs : x.spot = none := addr_spot (hF 0 (by omega)).1
      refine ⟨x.block, x.off, (F k).1.1, (F k).1.2, by obtain ⟨b, o, s⟩ := x; simp only at hs; subst hs; rfl, ?_, by simpa using f2, f3, by simpa using f5⟩
      rw [addr_add f1 hs]
      simp

theorem open_irows {t e q : TypeId} {a : Option Addr} {n c : Nat} {d : DataW H} {p : List MemPlace} (ht : P.underlying t = some (.slice e)) (he : P.underlying e = some (.slice q)) (hq : P.underlying q = some (.int .i64)) (ce : P.cellsOf e = 1) (cq : P.cellsOf q = 1)
    (h : DataW.Trod enc P w base (fun _ => true) held t (.slice a n c) d p) :
    ∃ T : List (List Int), T.length = n ∧ (T.length ≤ 9223372036854775807 ∧ ∀ k (h : k < T.length), T[k].length ≤ 9223372036854775807) ∧ IRows w a T :=
  open_rows encI ht he ce cq (fun n v x hx => by obtain ⟨z, hz, _⟩ := DataW.trod_int hq hx; exact ⟨z, by simpa using hz⟩) h
theorem open_brows {t e q : TypeId} {a : Option Addr} {n c : Nat} {d : DataW H} {p : List MemPlace} (ht : P.underlying t = some (.slice e)) (he : P.underlying e = some (.slice q)) (hq : P.underlying q = some .bool) (ce : P.cellsOf e = 1) (cq : P.cellsOf q = 1)
    (h : DataW.Trod enc P w base (fun _ => true) held t (.slice a n c) d p) :
    ∃ T : List (List Bool), T.length = n ∧ (T.length ≤ 9223372036854775807 ∧ ∀ k (h : k < T.length), T[k].length ≤ 9223372036854775807) ∧ BRows w a T :=
  open_rows encB ht he ce cq (fun n v x hx => by obtain ⟨z, hz, _⟩ := DataW.trod_bool hq hx; exact ⟨z, by simpa using hz⟩) h
end
end Go.Proofs.Ytelcdjbbcffliaa
