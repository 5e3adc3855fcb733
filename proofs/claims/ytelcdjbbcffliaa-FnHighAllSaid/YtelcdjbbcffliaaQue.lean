/- A queue: a slice of one's own that is appended to behind and cut off ahead. -/
import Derived.Test.YtelcdjbbcffliaaTabImpl2
import Derived.Deep.AppendSrc
namespace Go.DC
open Go.RowKit
/-- The slice (g, off), c long, holds xs at its head. -/
structure Que (I : TypeId) (w : World) (B g off c : Nat) (xs : List Value) : Prop where
  ge : B ≤ g
  le : xs.length ≤ c
  row : ∃ cur, w.heap[g]? = some (.cells cur I (0, 0)) ∧ (0 < c → off + c ≤ cur.size) ∧ ∀ k u, xs[k]? = some u → cur[off + k]? = some u
section
variable {I : TypeId} {w w' : World} {B g off c : Nat} {xs : List Value}
theorem Que.cell (h : Que I w B g off c xs) {k : Nat} {u : Value} (hu : xs[k]? = some u) : w.cell? ⟨g, off + k, none⟩ = some u := by
  obtain ⟨cur, hg, _, hx⟩ := h.row
  rw [cell_of_row w g (off + k) cur I (0, 0) hg]
  exact hx k u hu
theorem Que.ext (h : Que I w B g off c xs) (e : Ext w w') : Que I w' B g off c xs := by
  obtain ⟨cur, hg, h1, h2⟩ := h.row
  exact ⟨h.ge, h.le, cur, (e.block g (Array.getElem?_eq_some_iff.1 hg).1).trans hg, h1, h2⟩
theorem Que.lt (h : Que I w B g off c xs) : g < w.heap.size := by
  obtain ⟨cur, hg, _⟩ := h.row
  exact (Array.getElem?_eq_some_iff.1 hg).1
theorem Que.other (h : Que I w B g off c xs) (p : Addr) (hp : p.block ≠ g) (u : Value) : Que I (w.setCell p u) B g off c xs := by
  obtain ⟨cur, hg, h1, h2⟩ := h.row
  exact ⟨h.ge, h.le, cur, (Below.heap_setCell w p u g (fun e => hp e.symm)).trans hg, h1, h2⟩
theorem Que.tail {x : Value} (h : Que I w B g off c (x :: xs)) : Que I w B g (if c = 1 then off else off + 1) (c - 1) xs := by
  obtain ⟨cur, hg, h1, h2⟩ := h.row
  have hl := h.le
  rw [List.length_cons] at hl
  refine ⟨h.ge, by omega, cur, hg, fun h0 => ?_, fun k u hu => ?_⟩
  · rw [if_neg (by omega)]; have := h1 (by omega); omega
  · have hk := (List.getElem?_eq_some_iff.1 hu).1
    rw [if_neg (by omega), show off + 1 + k = off + (k + 1) by omega]
    exact h2 (k + 1) u (by simpa using hu)
theorem Que.lit (w : World) (u : Value) (hB : B ≤ w.heap.size) : Que I (w.alloc (.cells #[u] I)) B w.heap.size 0 1 [u] :=
  ⟨hB, Nat.le_refl _, #[u], heap_alloc_new w _, fun _ => by simp, fun k v hk => by
    cases k with
    | zero => simpa using hk
    | succ k => simp at hk⟩
/-- append of one. -/
theorem run_append_que {P : Program} {t ty : TypeId} {i : TypeInfo} {z : Value} (ht : P.underlying t = some (.slice I)) (hi : P.info? I = some i) (hz : i.zero = some z) (hs1 : i.size = 1) (hby : i.bytes = 8) (hzc : z.cells.size = 1)
    (h : Que I w B g off c xs) (hB : B ≤ w.heap.size) (hn : xs.length ≤ 1000) (g1 : Nat) (x : Value) (hx : w.cell? ⟨g1, 0, none⟩ = some x) (h1 : x.oneCell' = true) :
    ∃ g' off' c' w', (Builtin.append_ #[t, t] ty #[.slice (some ⟨g, off, none⟩) xs.length c, .slice (some ⟨g1, 0, none⟩) 1 1]).run P w = .ok (.slice (some ⟨g', off', none⟩) (xs.length + 1) c') w' ∧ Que I w' B g' off' c' (xs ++ [x]) ∧ w.grownBy w' (some g) ∧ (g' = g ∨ g' = w.heap.size) := by
  obtain ⟨cur, hg, hroom, hcur⟩ := h.row
  have src : Src P i.size t (.slice (some ⟨g1, 0, none⟩) 1 1) 1 [x] w := Src.ofSlice w ht ⟨g1, 0, none⟩ 1 1 [x] (by rw [hs1]; rfl) (fun j u hu => by
    cases j with
    | zero => simp at hu; subst hu; rw [add_none]; exact hx
    | succ j => simp at hu) (fun u hu => by rw [List.mem_singleton.1 hu]; exact h1)
  have hle := h.le
  by_cases hr : xs.length + 1 ≤ c
  · have hsz := hroom (by omega)
    have hc : ∀ j, j < [x].length → (w.cell? ⟨g, off + xs.length * i.size + j, none⟩).isSome = true := fun j hj => by
      have : j = 0 := by simpa using hj
      subst this
      rw [hs1, Nat.mul_one, Nat.add_zero, cell_of_row w g (off + xs.length) cur I (0, 0) hg, Array.getElem?_eq_getElem (by omega)]; rfl
    have hf : ∀ j, j < [x].length → w.frozen? ⟨g, off + xs.length * i.size + j, none⟩ = false := fun j _ => by simp [World.frozen?, hg]
    refine ⟨g, off, c, _, run_append_room_src w t t ty I i ht hi g off xs.length c _ 1 [x] src hr hc hf, ?_, ?_, .inl rfl⟩
    · have e : w.setCells g (off + xs.length * i.size) [x] = w.setCell ⟨g, off + xs.length, none⟩ x := by rw [hs1, Nat.mul_one]; rfl
      rw [e]
      refine ⟨h.ge, by simpa using hr, cur.setIfInBounds (off + xs.length) x, ?_, fun _ => by simpa using hsz, fun k u hu => ?_⟩
      · exact heap_setCell_same w g (off + xs.length) cur I x hg
      · rw [Array.getElem?_setIfInBounds]
        by_cases hk : k < xs.length
        · rw [if_neg (by omega)]
          rw [List.getElem?_append_left hk] at hu
          exact hcur k u hu
        · have hk2 : k = xs.length := by
            have := (List.getElem?_eq_some_iff.1 hu).1
            simp at this; omega
          subst hk2
          rw [if_pos rfl, if_pos (by omega)]
          simpa using hu
    · have e : w.setCells g (off + xs.length * i.size) [x] = w.setCell ⟨g, off + xs.length, none⟩ x := by rw [hs1, Nat.mul_one]; rfl
      rw [e]
      exact grown_setCell w ⟨g, off + xs.length, none⟩ x
  · have hcl : c = xs.length := by omega
    have hold : (Builtin.firstCells i.size xs.length (.slice (some ⟨g, off, none⟩) xs.length c)).run P w.drew = .ok xs.toArray w.drew := by
      refine run_firstCells_some w.drew i.size xs.length ⟨g, off, none⟩ xs.length c xs (by rw [hs1, Nat.mul_one]) (fun j u hu => ?_)
      rw [add_none]
      exact h.cell hu
    have hcap : Builtin.nextslicecap (xs.length + 1) c * i.bytes ≤ 281474976710656 := by
      rw [hby]
      have := nextslicecap_le (need := xs.length + 1) (old := c) (by omega)
      omega
    refine ⟨w.heap.size, 0, _, _, run_append_grow_src w t t ty I i z ht hi hz (some ⟨g, off, none⟩) xs.length c xs hold _ 1 [x] src (by omega) (by omega) hcap, ?_, ?_, .inr rfl⟩
    · have hge := grownCap_ge w (xs.length + 1) c I
      refine ⟨hB, by simpa using hge, _, heap_alloc_new w.drew _, fun _ => ?_, fun k u hu => ?_⟩
      · simp only [Array.size_append, List.size_toArray, size_zeroCells, hzc, List.length_append, List.length_singleton]
        omega
      · have hk := (List.getElem?_eq_some_iff.1 hu).1
        rw [Nat.zero_add, Array.getElem?_append_left (by simpa using hk)]
        simpa using hu
    · exact ⟨rfl, rfl, rfl, by simp, fun k hk _ => heap_alloc_old w.drew _ hk⟩
end
end Go.DC
namespace Go.Proofs.Ytelcdjbbcffliaa
open Go.RowKit Go.DC
abbrev QueI := Que 3
theorem one_cellI (w : World) (z : Int) : (w.alloc (.cells #[.int .i64 z] 3)).cell? ⟨w.heap.size, 0, none⟩ = some (.int .i64 z) := by simp [go_sem]
theorem wpList_que {w : World} {ops : Array Oper} {rest : List Oper} {o : Oper} {a : Act} {Q : Exit → Act → World → Prop} (hgd : o.guard = none) (s x : Operand)
    (ho : o.op = .call { callee := .builtin .append, args := #[s, x], argTypes := #[28, 28] })
    (B g off c n : Nat) (xs : List Value) (hn : n = xs.length) (hs : a.eval s = .slice (some ⟨g, off, none⟩) n c) (h : QueI w B g off c xs) (hB : B ≤ w.heap.size) (hl : xs.length ≤ 1000) (g1 : Nat) (hx : a.eval x = .slice (some ⟨g1, 0, none⟩) 1 1) (u : Value) (hu : w.cell? ⟨g1, 0, none⟩ = some u) (h1 : u.oneCell' = true)
    (hK : ∀ g' off' c' w', QueI w' B g' off' c' (xs ++ [u]) → w.grownBy w' (some g) → (g' = g ∨ g' = w.heap.size) → wpList Try.prog ops Q rest (a.put o.dst (.slice (some ⟨g', off', none⟩) (n + 1) c')) w') : wpList Try.prog ops Q (o :: rest) a w := by
  obtain ⟨i0, hi, hz0, hz1, hz2⟩ := info_parts Try.dcInfoInt
  subst hn
  refine wpList_plain hgd fun K hk => ?_
  obtain ⟨g', off', c', w', hr, h2, h3, h4⟩ := run_append_que (P := Try.prog) (ty := o.type) Try.underlying28 hi hz0 hz1 hz2 rfl h hB hl g1 u hu h1
  unfold Oper.wp execOp
  simp only [ho, resolve, invoke, builtin, Sem.run_bind, Sem.run_pure, Result.andThen_ok, List.map_toArray, List.map_cons, List.map_nil, hs, hx, hr]
  exact hk _ _ (hK g' off' c' w' h2 h3 h4)
end Go.Proofs.Ytelcdjbbcffliaa
