/- A queue: a slice of one's own that is appended to behind and cut off ahead. -/
import Derived.Test.YtelcdjbbcffliaaTabImpl
import Derived.Deep.AppendSrc
import Derived.Laws.CopyOwn
import Derived.Test.YtelcdjbbcffliaaSums
import Derived.Test.YtelcdjbbcffliaaFlow
/- A queue: a slice of one's own that is appended to behind and cut off ahead. -/
namespace Go.DC
open Go.RowKit
/-- The slice (g, off), c long, holds xs at its head. -/
structure Que (I : TypeId) (w : World) (B g off c : Nat) (xs : List Value) : Prop where
  ge : B ≤ g
  le : xs.length ≤ c
  row : ∃ cur, w.heap[g]? = some (.cells cur I (0, 0)) ∧ (0 < c → off + c ≤ cur.size) ∧ ∀ k u, xs[k]? = some u → cur[off + k]? = some u
section
variable {I : TypeId} {w w' : World} {B g off c : Nat} {xs : List Value}
theorem Que.cell (h : Que I w B g off c xs) {k : Nat} {u : Value} (hu : xs[k]? = some u) : w.cell? ⟨g, off + k, none⟩ = some u := by
  obtain ⟨cur, hg, _, hx⟩ := h.row
  rw [cell_of_row w g (off + k) cur I (0, 0) hg]
  exact hx k u hu
theorem Que.ext (h : Que I w B g off c xs) (e : Ext w w') : Que I w' B g off c xs := by
  obtain ⟨cur, hg, h1, h2⟩ := h.row
  exact ⟨h.ge, h.le, cur, (e.block g (Array.getElem?_eq_some_iff.1 hg).1).trans hg, h1, h2⟩
theorem Que.lt (h : Que I w B g off c xs) : g < w.heap.size := by
  obtain ⟨cur, hg, _⟩ := h.row
  exact (Array.getElem?_eq_some_iff.1 hg).1
theorem Que.other (h : Que I w B g off c xs) (p : Addr) (hp : p.block ≠ g) (u : Value) : Que I (w.setCell p u) B g off c xs := by
  obtain ⟨cur, hg, h1, h2⟩ := h.row
  exact ⟨h.ge, h.le, cur, (Below.heap_setCell w p u g (fun e => hp e.symm)).trans hg, h1, h2⟩
theorem Que.tail {x : Value} (h : Que I w B g off c (x :: xs)) : Que I w B g (if c = 1 then off else off + 1) (c - 1) xs := by
  obtain ⟨cur, hg, h1, h2⟩ := h.row
  have hl := h.le
  rw [List.length_cons] at hl
  refine ⟨h.ge, by omega, cur, hg, fun h0 => ?_, fun k u hu => ?_⟩
  · rw [if_neg (by omega)]; have := h1 (by omega); omega
  · have hk := (List.getElem?_eq_some_iff.1 hu).1
    rw [if_neg (by omega), show off + 1 + k = off + (k + 1) by omega]
    exact h2 (k + 1) u (by simpa using hu)
theorem Que.lit (w : World) (u : Value) (hB : B ≤ w.heap.size) : Que I (w.alloc (.cells #[u] I)) B w.heap.size 0 1 [u] :=
  ⟨hB, Nat.le_refl _, #[u], heap_alloc_new w _, fun _ => by simp, fun k v hk => by
    cases k with
    | zero => simpa using hk
    | succ k => simp at hk⟩
/-- append of one. -/
theorem run_append_que {P : Program} {t ty : TypeId} {i : TypeInfo} {z : Value} (ht : P.underlying t = some (.slice I)) (hi : P.info? I = some i) (hz : i.zero = some z) (hs1 : i.size = 1) (hby : i.bytes = 8) (hzc : z.cells.size = 1)
    (h : Que I w B g off c xs) (hB : B ≤ w.heap.size) (hn : xs.length ≤ 1000) (g1 : Nat) (x : Value) (hx : w.cell? ⟨g1, 0, none⟩ = some x) (h1 : x.oneCell' = true) :
    ∃ g' off' c' w', (Builtin.append_ #[t, t] ty #[.slice (some ⟨g, off, none⟩) xs.length c, .slice (some ⟨g1, 0, none⟩) 1 1]).run P w = .ok (.slice (some ⟨g', off', none⟩) (xs.length + 1) c') w' ∧ Que I w' B g' off' c' (xs ++ [x]) ∧ w.grownBy w' (some g) ∧ (g' = g ∨ g' = w.heap.size) := by
  obtain ⟨cur, hg, hroom, hcur⟩ := h.row
  have src : Src P i.size t (.slice (some ⟨g1, 0, none⟩) 1 1) 1 [x] w := Src.ofSlice w ht ⟨g1, 0, none⟩ 1 1 [x] (by rw [hs1]; rfl) (fun j u hu => by
    cases j with
    | zero => simp at hu; subst hu; rw [add_none]; exact hx
    | succ j => simp at hu) (fun u hu => by rw [List.mem_singleton.1 hu]; exact h1)
  have hle := h.le
  by_cases hr : xs.length + 1 ≤ c
  · have hsz := hroom (by omega)
    have hc : ∀ j, j < [x].length → (w.cell? ⟨g, off + xs.length * i.size + j, none⟩).isSome = true := fun j hj => by
      have : j = 0 := by simpa using hj
      subst this
      rw [hs1, Nat.mul_one, Nat.add_zero, cell_of_row w g (off + xs.length) cur I (0, 0) hg, Array.getElem?_eq_getElem (by omega)]; rfl
    have hf : ∀ j, j < [x].length → w.frozen? ⟨g, off + xs.length * i.size + j, none⟩ = false := fun j _ => by simp [World.frozen?, hg]
    refine ⟨g, off, c, _, run_append_room_src w t t ty I i ht hi g off xs.length c _ 1 [x] src hr hc hf, ?_, ?_, .inl rfl⟩
    · have e : w.setCells g (off + xs.length * i.size) [x] = w.setCell ⟨g, off + xs.length, none⟩ x := by rw [hs1, Nat.mul_one]; rfl
      rw [e]
      refine ⟨h.ge, by simpa using hr, cur.setIfInBounds (off + xs.length) x, ?_, fun _ => by simpa using hsz, fun k u hu => ?_⟩
      · exact heap_setCell_same w g (off + xs.length) cur I x hg
      · rw [Array.getElem?_setIfInBounds]
        by_cases hk : k < xs.length
        · rw [if_neg (by omega)]
          rw [List.getElem?_append_left hk] at hu
          exact hcur k u hu
        · have hk2 : k = xs.length := by
            have := (List.getElem?_eq_some_iff.1 hu).1
            simp at this; omega
          subst hk2
          rw [if_pos rfl, if_pos (by omega)]
          simpa using hu
    · have e : w.setCells g (off + xs.length * i.size) [x] = w.setCell ⟨g, off + xs.length, none⟩ x := by rw [hs1, Nat.mul_one]; rfl
      rw [e]
      exact grown_setCell w ⟨g, off + xs.length, none⟩ x
  · have hcl : c = xs.length := by omega
    have hold : (Builtin.firstCells i.size xs.length (.slice (some ⟨g, off, none⟩) xs.length c)).run P w.drew = .ok xs.toArray w.drew := by
      refine run_firstCells_some w.drew i.size xs.length ⟨g, off, none⟩ xs.length c xs (by rw [hs1, Nat.mul_one]) (fun j u hu => ?_)
      rw [add_none]
      exact h.cell hu
    have hcap : Builtin.nextslicecap (xs.length + 1) c * i.bytes ≤ 281474976710656 := by
      rw [hby]
      have := nextslicecap_le (need := xs.length + 1) (old := c) (by omega)
      omega
    refine ⟨w.heap.size, 0, _, _, run_append_grow_src w t t ty I i z ht hi hz (some ⟨g, off, none⟩) xs.length c xs hold _ 1 [x] src (by omega) (by omega) hcap, ?_, ?_, .inr rfl⟩
    · have hge := grownCap_ge w (xs.length + 1) c I
      refine ⟨hB, by simpa using hge, _, heap_alloc_new w.drew _, fun _ => ?_, fun k u hu => ?_⟩
      · simp only [Array.size_append, List.size_toArray, size_zeroCells, hzc, List.length_append, List.length_singleton]
        omega
      · have hk := (List.getElem?_eq_some_iff.1 hu).1
        rw [Nat.zero_add, Array.getElem?_append_left (by simpa using hk)]
        simpa using hu
    · exact ⟨rfl, rfl, rfl, by simp, fun k hk _ => heap_alloc_old w.drew _ hk⟩
end
end Go.DC
namespace Go.Proofs.Ytelcdjbbcffliaa
open Go.RowKit Go.DC
abbrev QueI := Que 3
theorem one_cellI (w : World) (z : Int) : (w.alloc (.cells #[.int .i64 z] 3)).cell? ⟨w.heap.size, 0, none⟩ = some (.int .i64 z) := by simp [go_sem]
theorem wpList_que {w : World} {ops : Array Oper} {rest : List Oper} {o : Oper} {a : Act} {Q : Exit → Act → World → Prop} (hgd : o.guard = none) (s x : Operand)
    (ho : o.op = .call { callee := .builtin .append, args := #[s, x], argTypes := #[28, 28] })
    (B g off c n : Nat) (xs : List Value) (hn : n = xs.length) (hs : a.eval s = .slice (some ⟨g, off, none⟩) n c) (h : QueI w B g off c xs) (hB : B ≤ w.heap.size) (hl : xs.length ≤ 1000) (g1 : Nat) (hx : a.eval x = .slice (some ⟨g1, 0, none⟩) 1 1) (u : Value) (hu : w.cell? ⟨g1, 0, none⟩ = some u) (h1 : u.oneCell' = true)
    (hK : ∀ g' off' c' w', QueI w' B g' off' c' (xs ++ [u]) → w.grownBy w' (some g) → (g' = g ∨ g' = w.heap.size) → wpList Try.prog ops Q rest (a.put o.dst (.slice (some ⟨g', off', none⟩) (n + 1) c')) w') : wpList Try.prog ops Q (o :: rest) a w := by
  obtain ⟨i0, hi, hz0, hz1, hz2⟩ := info_parts Try.dcInfoInt
  subst hn
  refine wpList_plain hgd fun K hk => ?_
  obtain ⟨g', off', c', w', hr, h2, h3, h4⟩ := run_append_que (P := Try.prog) (ty := o.type) Try.underlying28 hi hz0 hz1 hz2 rfl h hB hl g1 u hu h1
  unfold Oper.wp execOp
  simp only [ho, resolve, invoke, builtin, Sem.run_bind, Sem.run_pure, Result.andThen_ok, List.map_toArray, List.map_cons, List.map_nil, hs, hx, hr]
  exact hk _ _ (hK g' off' c' w' h2 h3 h4)
end Go.Proofs.Ytelcdjbbcffliaa

/- slices.Repeat of one number. -/
namespace Go.Proofs.Ytelcdjbbcffliaa
open Go.RowKit Go.DC
set_option maxHeartbeats 1000000 in
theorem Mul64_any (n : Nat) (hn : n ≤ 8) (w : World) :
    Calls Try.prog 81 #[.int .u64 1, .int .u64 n] w fun e w' => e = .returned (.tuple #[.int .u64 0, .int .u64 n]) ∧ w' = w := by
  rcases (by omega : n = 0 ∨ n = 1 ∨ n = 2 ∨ n = 3 ∨ n = 4 ∨ n = 5 ∨ n = 6 ∨ n = 7 ∨ n = 8) with e | e | e | e | e | e | e | e | e
  all_goals
    subst e
    go_enter Try.func81, Try.ntmps81
    go_wp2
    go_ret2
    exact ⟨rfl, rfl⟩
set_option maxHeartbeats 1000000 in
theorem Mul_any (n : Nat) (hn : n ≤ 8) (w : World) :
    Calls Try.prog 79 #[.int .u64 1, .int .u64 n] w fun e w' => e = .returned (.tuple #[.int .u64 0, .int .u64 n]) ∧ w' = w := by
  go_enter Try.func79, Try.ntmps79
  go_wp2_with (go_at_call 81; refine (Mul64_any n hn _).mono ?_; rintro e w' ⟨rfl, hw⟩; rw [hw])
  go_ret2
  exact ⟨rfl, rfl⟩
/-- The first k numbers are z. -/
def reps (z : Int) (n k : Nat) : List Value := List.replicate k (.int .i64 z) ++ List.replicate (n - k) (.int .i64 0)
theorem reps_len (z : Int) {n k : Nat} (h : k ≤ n) : (reps z n k).length = n := by simp [reps]; omega
theorem reps_at (z : Int) {n k j : Nat} (h : j < k) : (reps z n k)[j]? = some (.int .i64 z) := by
  unfold reps
  rw [List.getElem?_append_left (by simpa using h)]
  simp [h]
theorem reps_splice (z : Int) {n k m : Nat} (_h : k + m ≤ n) : splice (reps z n k) k (List.replicate m (.int .i64 z)) = reps z n (k + m) := by
  unfold splice reps
  rw [List.take_left' (by simp), List.drop_append, ← List.append_assoc, List.replicate_append_replicate]
  simp
  omega
theorem src_one {w : World} {b g : Nat} {z : Int} {o : Obj} (hb : w.cell? ⟨b, 0, none⟩ = some (.int .i64 z)) : 0 < [Value.int .i64 z].length → some (⟨g, 0, none⟩ : Addr) = some ⟨g, 0, none⟩ ∧ ∃ ad, some (⟨b, 0, none⟩ : Addr) = some ad ∧ ∀ j v, [Value.int .i64 z][j]? = some v → (w.alloc o).cell? (ad.add j) = some v := fun _ =>
  ⟨rfl, _, rfl, fun j v hj => by
    cases j with
    | zero => simp at hj; subst hj; rw [add_none]; exact ((Ext.refl w).alloc _).cell hb
    | succ j => simp at hj⟩
theorem src_reps {W : World} {g n k m : Nat} {z : Int} {T : TypeId} (hmk : m ≤ k) (hW : W.heap[g]? = some (.cells (reps z n k).toArray T (0, 0))) : 0 < (List.replicate m (Value.int .i64 z)).length → some (⟨g, k, none⟩ : Addr) = some ⟨g, k, none⟩ ∧ ∃ ad, some (⟨g, 0, none⟩ : Addr) = some ad ∧ ∀ j v, (List.replicate m (Value.int .i64 z))[j]? = some v → W.cell? (ad.add j) = some v := fun _ =>
  ⟨rfl, _, rfl, fun j v hj => by
    have hjm : j < m := by
      have := (List.getElem?_eq_some_iff.1 hj).1
      simpa using this
    rw [List.getElem?_replicate, if_pos hjm] at hj
    cases hj
    rw [add_none, Nat.zero_add, cell_of_row W g j _ _ (0, 0) hW]
    have := reps_at z (n := n) (show j < k by omega)
    simpa using this⟩
set_option maxRecDepth 10000 in
set_option maxHeartbeats 2000000 in
theorem Repeat_any (b : Nat) (z : Int) (n : Nat) (w : World) (hb : w.cell? ⟨b, 0, none⟩ = some (.int .i64 z)) (hn0 : 1 ≤ n) (hn : n ≤ 8) :
    Calls Try.prog 77 #[.slice (some ⟨b, 0, none⟩) 1 1, .int .i64 n] w (NewRow encI 3 (List.replicate n z) w) := by
  have hmk := run_make_row' (P := Try.prog) 28 3 (.int .i64 0) 8 Try.underlying28 Try.dcInfoInt rfl .i64 .i64 n (by omega) (by omega)
  have hwn : IntKind.u64.wrap (n : Int) = (n : Int) := by rw [IntKind.wrap_u64]; omega
  have hwi : IntKind.i64.wrap (n : Int) = (n : Int) := IntWalk.i64_in _ (by omega)
  have hw1 : IntKind.u64.wrap 1 = 1 := by decide +kernel
  have hnm : ¬ (9223372036854775807 : Int) < (n : Int) := by omega
  have hnb : decide ((9223372036854775807 : Int) < (n : Int)) = false := by simpa using hnm
  have hnb2 : decide (9223372036854775807 < n) = false := by simp; omega
  have hmul := fun w => Mul_any n hn w
  have HM := Lib.hid hmul; clear hmul
  have hblt : b < w.heap.size := World.block_lt_of_cell? _ _ hb
  have hinfo : (Try.prog.info? 3).map (·.size) = some 1 := by kernel_rfl
  have hg0 : (w.alloc (.cells (madeCells #[.int .i64 0] n) 3)).heap[w.heap.size]? = some (.cells (reps z n 0).toArray 3 (0, 0)) := by
    rw [heap_alloc_new]
    have : madeCells #[.int .i64 0] n = (reps z n 0).toArray := by
      apply Array.ext'
      rw [toList_madeCells_one]; simp [reps]
    rw [this]
  have hbel : Below w.heap.size w (w.alloc (.cells (madeCells #[.int .i64 0] n) 3)) := (Ext.refl w).alloc _
  have hfit : 0 + [Value.int .i64 z].length ≤ (reps z n 0).length := by rw [reps_len z (Nat.zero_le _)]; simpa using hn0
  have hlen : [Value.int .i64 z].length = Nat.min 1 n := (Nat.min_eq_left hn0).symm
  have HG0 := Lib.hid hg0; have HB := Lib.hid hbel; have HF := Lib.hid hfit; have HLN := Lib.hid hlen
  clear hg0 hbel hfit hlen
  go_enter Try.func77, Try.ntmps77
  go_wp2_with (first
    | (go_at_call 79; refine (HM.out _).mono ?_; rintro e w' ⟨rfl, hw⟩; rw [hw])
    | (refine wpList_copy_splice rfl (.tmp 31) (.tmp 32) 28 28 rfl 3 Try.underlying28 hinfo _ _ _ _ _ _ rfl rfl w.heap.size 0 (reps z n 0) 3 HG0.out [.int .i64 z] HLN.out (src_one hb) HF.out (by simp [Value.oneCell']) w.heap.size w HB.out (Nat.le_refl _) ?_; intro w2 hg2 hb2))
  have hg3 : w2.heap[w.heap.size]? = some (.cells (reps z n 1).toArray 3 (0, 0)) := by
    have := hg2.out
    rw [show [Value.int .i64 z] = List.replicate 1 (.int .i64 z) from rfl, reps_splice z (by omega)] at this
    exact this
  clear hg2 HG0 HB HF HLN hmk
  go_loopg [8] (n - 1) (fun g i wr => ∃ k : Nat, 1 ≤ k ∧ k ≤ n ∧ g = n - k ∧ i = .int .i64 k ∧ wr.heap[w.heap.size]? = some (.cells (reps z n k).toArray 3 (0, 0)) ∧ Ext w wr)
  case atStart => exact ⟨1, Nat.le_refl _, hn0, rfl, rfl, hg3, hb2⟩
  case round =>
    clear hg3 hb2
    obtain ⟨k, hk1, hk, rfl, rfl, hg, hext⟩ := hrel
    by_cases hlt : k < n
    · have hz : (k : Int) < (n : Int) := by omega
      obtain ⟨m, hm⟩ : ∃ m, Nat.min k (n - k) = m := ⟨_, rfl⟩
      have hm1 : 1 ≤ m ∧ m ≤ k ∧ k + m ≤ n := by
        have : m = k ∨ m = n - k := by
          rw [← hm]
          rcases Nat.le_total k (n - k) with h | h
          · left; exact Nat.min_eq_left h
          · right; exact Nat.min_eq_right h
        have h1 : m ≤ k := by rw [← hm]; exact Nat.min_le_left _ _
        have h2 : m ≤ n - k := by rw [← hm]; exact Nat.min_le_right _ _
        omega
      obtain ⟨hm1, hmk, hmn⟩ := hm1
      have hlen : (List.replicate m (Value.int .i64 z)).length = Nat.min k (n - k) := by rw [List.length_replicate, hm]
      have hgd : wr.drew.heap[w.heap.size]? = some (.cells (reps z n k).toArray 3 (0, 0)) := hg
      have hbel : Below w.heap.size w wr.drew := hext.drew
      have hfit : k + (List.replicate m (Value.int .i64 z)).length ≤ (reps z n k).length := by rw [reps_len z hk, List.length_replicate]; exact hmn
      have h1 : ∀ v ∈ List.replicate m (Value.int .i64 z), v.oneCell' = true := fun v hv => by rw [List.eq_of_mem_replicate hv]; rfl
      have HG := Lib.hid hgd; have HB := Lib.hid hbel; have HF := Lib.hid hfit; have HL := Lib.hid hlen; have H1 := Lib.hid h1
      have hnk : ¬ n = k := by omega
      have hkn : (k : Int) ≤ (n : Int) := by omega
      have hmi : ((List.replicate m (Value.int .i64 z)).length : Int) = m := by simp
      clear hgd hbel hfit hlen h1 hg hm hext
      go_wp2_with fail
      go_region_law (refine step_copy_splice rfl (.tmp 41) (.tmp 44) 28 28 rfl 3 Try.underlying28 hinfo (some ⟨w.heap.size, k, none⟩) (some ⟨w.heap.size, 0, none⟩) (n - k) (n - k) k n (by simp [Act.eval, Act.put]) (by simp [Act.eval, Act.put]) w.heap.size k (reps z n k) 3 HG.out (List.replicate m (.int .i64 z)) HL.out (src_reps hmk HG.out) HF.out H1.out w.heap.size w HB.out (Nat.le_refl _) ?_; intro w3 hg3 hb3; have hg4 : Hid (w3.heap[w.heap.size]? = some (.cells (reps z n (k + m)).toArray 3 (0, 0))) := (by have := hg3.out; rw [reps_splice z hmn] at this; exact this))
      all_goals
        go_wp2_with fail
        go_roundg (n - (k + m))
        case measure => omega
        case rel => exact ⟨k + m, by omega, hmn, rfl, by rw [IntWalk.i64_in _ (by omega)]; simp, hg4.out, hb3⟩
    · have hz : ¬ (k : Int) < (n : Int) := by omega
      have hkn : k = n := by omega
      subst hkn
      have own : wr.ownsRow w.heap.size 3 1 (.slice (some ⟨w.heap.size, 0, none⟩) k k) (List.replicate k z).length ((List.replicate k z).map encI) := by
        refine ⟨by simp, .inr ⟨w.heap.size, k, _, by simp, Nat.le_refl _, hg, by simp, by unfold maxLen; omega, by simp [reps], ?_⟩⟩
        simp [reps]
      have OW := Lib.hid own
      clear own hg
      go_wp2_with fail
      go_ret
      exact ⟨_, rfl, OW.out, hext⟩
end Go.Proofs.Ytelcdjbbcffliaa

/- What is reached from a place, breadth first. -/
namespace Go.DC
/-- The places that were reached, and whence. -/
structure Bfs (N i : Nat) (E : Nat → Nat → Prop) (P : Nat → Int) (q : List Nat) : Prop where
  way : Way N i E (fun p => (P p).toNat) q
  mem : ∀ p, p < N → (0 ≤ P p ↔ p ∈ q)
  bd : ∀ p, p < N → -1 ≤ P p ∧ P p < N
def par0 (i : Nat) : Nat → Int := fun p => if p = i then (i : Int) else -1
def parPut (P : Nat → Int) (v u : Nat) : Nat → Int := fun p => if p = v then (u : Int) else P p
theorem Bfs.start {N i : Nat} (E : Nat → Nat → Prop) (hi : i < N) : Bfs N i E (par0 i) [i] := by
  refine ⟨⟨rfl, fun u hu => by rw [List.mem_singleton.1 hu]; exact hi, by simp, fun s hs h0 => ?_⟩, fun p _ => ?_, fun p _ => ?_⟩
  · have : s < 1 := hs
    omega
  · unfold par0
    by_cases e : p = i
    · simp [e]
    · simp [e]
  · unfold par0
    split <;> omega
theorem Bfs.push {N i u v : Nat} {E : Nat → Nat → Prop} {P : Nat → Int} {q : List Nat} (h : Bfs N i E P q) (hu : u ∈ q) (hv : v < N) (hn : v ∉ q) (hE : E u v) : Bfs N i E (parPut P v u) (q ++ [v]) := by
  have w := h.way
  have hl1 : [v].length = 1 := rfl
  refine ⟨⟨?_, fun a ha => ?_, ?_, fun s hs h0 => ?_⟩, fun p hp => ?_, fun p hp => ?_⟩
  · have hz := w.zero
    rw [List.getElem?_append_left (List.getElem?_eq_some_iff.1 hz).1]; exact hz
  · rcases List.mem_append.1 ha with h' | h'
    · exact w.lt a h'
    · rw [List.mem_singleton.1 h']; exact hv
  · rw [List.nodup_append]; exact ⟨w.nodup, by simp, fun a ha c hc e => by rw [List.mem_singleton.1 hc] at e; exact hn (e ▸ ha)⟩
  · by_cases e : s < q.length
    · obtain ⟨t, ht, hts, hp, hE'⟩ := w.from_ s e h0
      refine ⟨t, by rw [List.length_append]; omega, hts, ?_, ?_⟩
      · rw [List.getElem_append_left e, List.getElem_append_left ht]
        have : ¬ q[s] = v := fun x => hn (x ▸ List.getElem_mem e)
        unfold parPut
        rw [if_neg this]; exact hp
      · rw [List.getElem_append_left e, List.getElem_append_left ht]; exact hE'
    · have es : s = q.length := by rw [List.length_append] at hs; omega
      subst es
      obtain ⟨t, ht, et⟩ := List.getElem_of_mem hu
      refine ⟨t, by rw [List.length_append]; omega, ht, ?_, ?_⟩
      · simp [List.getElem_append_left ht, et, parPut]
      · simp [List.getElem_append_left ht, et, hE]
  · unfold parPut
    by_cases e : p = v
    · subst e; simp
    · rw [if_neg e, h.mem p hp]; simp [e]
  · unfold parPut
    split
    · have := w.lt u hu; omega
    · exact h.bd p hp
theorem Bfs.len {N i : Nat} {E : Nat → Nat → Prop} {P : Nat → Int} {q : List Nat} (h : Bfs N i E P q) : q.length ≤ N := nodup_len h.way.nodup h.way.lt
end Go.DC
namespace Go.Proofs.Ytelcdjbbcffliaa
open Go.RowKit Go.DC
def encN (n : Nat) : Value := .int .i64 (n : Int)
/-- What a search hands back. -/
def ReachOut (N i : Nat) (E : Nat → Nat → Prop) (w : World) (e : Ending) (w' : World) : Prop :=
  ∃ v P q, e = .returned v ∧ w'.ownsRow w.heap.size 3 1 v N (rowOf N P) ∧ Bfs N i E P q ∧ Closed N E q ∧ Ext w w'
set_option maxRecDepth 10000 in
set_option maxHeartbeats 4000000 in
theorem reach_any (ar : Option Addr) (cr N i : Nat) (R : Nat → Nat → Int) (w : World) (ht : IRows w ar (tabOf N N R)) (hN : N ≤ 8) (hi : i < N) :
    Calls Try.prog 69 #[.slice ar N cr, .int .i64 i] w (ReachOut N i (fun u v => 0 < R u v) w) := by
  have HT := Lib.hid ht; clear ht
  have hiz : (i : Int) < (N : Int) := by omega
  have hone : (w.alloc (.cells #[.int .i64 (-1)] 3)).cell? ⟨w.heap.size, 0, none⟩ = some (.int .i64 (-1)) := one_cellI w (-1)
  go_enter Try.func69, Try.ntmps69
  go_wp2_with fail
  refine (Repeat_any w.heap.size (-1) N _ hone (by omega) hN).mono ?_
  rintro e w1 ⟨v, rfl, own, e1⟩
  have own1 : w1.ownsRow (w.heap.size + 1) 3 1 v N (rowOf N fun _ => -1) := by
    have hz : (w.alloc (.cells #[.int .i64 (-1)] 3)).heap.size = w.heap.size + 1 := by simp
    rw [hz] at own
    rw [List.length_replicate] at own
    have : (List.replicate N (-1 : Int)).map encI = rowOf N fun _ => -1 := by
      apply List.ext_getElem
      · simp [rowOf]
      · intro k h1 h2; simp [rowOf]
    rw [this] at own; exact own
  obtain ⟨ap, cp, hv, _, hxp⟩ := owns_cells own1
  obtain ⟨pb, hap, hpb, hc0, hf0⟩ := hxp i _ (rowOf_at _ hi)
  subst hap
  subst hv
  have E1 : Ext w w1 := ((Ext.refl w).alloc _).trans e1
  have hst := (World.ownsRow.stored own1 i (encI i)).1
  rw [rowOf_set _ (par0 i) _ (fun k _ => by unfold par0; rfl)] at hst
  have E2 : Ext w (w1.setCell ⟨pb, i, none⟩ (encI i)) := E1.setCell (p := ⟨pb, i, none⟩) (by show w.heap.size ≤ pb; omega) _
  have hplt : pb < w1.heap.size := World.block_lt_of_cell? _ _ hc0
  have OW := Lib.hid hst
  unfold encI at hc0 OW E2
  clear own own1 hxp hst
  have hq0 : QueI ((w1.setCell ⟨pb, i, none⟩ (.int .i64 i)).alloc (.cells #[.int .i64 i] 3)) w1.heap.size w1.heap.size 0 1 (([i].drop 0).map encN) := by
    have := Que.lit (I := 3) (B := w1.heap.size) (w1.setCell ⟨pb, i, none⟩ (.int .i64 i)) (.int .i64 i) (by simp)
    simpa [encN] using this
  have hx0 : Ext (w1.setCell ⟨pb, i, none⟩ (.int .i64 i)) ((w1.setCell ⟨pb, i, none⟩ (.int .i64 i)).alloc (.cells #[.int .i64 i] 3)) := (Ext.refl _).alloc _
  have ho0 := owns_ext OW.out hx0
  have hE0 := E2.trans hx0
  have Q0 := Lib.hid hq0; have O0 := Lib.hid ho0; have X0 := Lib.hid hE0
  clear hq0 ho0 hE0 hx0 OW E2 E1
  have hws : w.heap.size ≤ w1.heap.size := by omega
  have hpbw : w.heap.size ≤ pb := by omega
  go_wp2_with fail
  go_loopg [6] N (fun g s wr => ∃ (d : Nat) (q : List Nat) (P : Nat → Int) (qg qo qc : Nat), d ≤ q.length ∧ g = N - d ∧ s = .slice (some ⟨qg, qo, none⟩) (q.length - d) qc ∧ QueI wr w1.heap.size qg qo qc ((q.drop d).map encN)
    ∧ wr.ownsRow (w.heap.size + 1) 3 1 (.slice (some ⟨pb, 0, none⟩) N cp) N (rowOf N P) ∧ Bfs N i (fun u v => 0 < R u v) P q ∧ (∀ s (hs : s < q.length), s < d → ∀ v, v < N → 0 < R q[s] v → v ∈ q) ∧ Ext w wr)
  case atStart => exact ⟨0, [i], par0 i, w1.heap.size, 0, 1, Nat.zero_le _, rfl, rfl, Q0.out, O0.out, Bfs.start _ hi, fun s _ h => absurd h (by omega), X0.out⟩
  case round =>
    clear Q0 O0 X0
    obtain ⟨d, q, P, qg, qo, qc, hd, rfl, rfl, hq, own, bfs, hcl, hext⟩ := hrel
    have hqN := bfs.len
    by_cases hlt : d < q.length
    · have hz : (0 : Int) < ((q.length - d : Nat) : Int) := by omega
      have hz3 : 0 < q.length - d := by omega
      have hzd : decide (0 < q.length - d) = true := by simpa using hz3
      obtain ⟨u, hu⟩ : ∃ u, q[d] = u := ⟨_, rfl⟩
      have huN : u < N := by rw [← hu]; exact bfs.way.lt _ (List.getElem_mem hlt)
      have huz : (u : Int) < (N : Int) := by omega
      have hq0 : ((q.drop d).map encN)[0]? = some (encN u) := by simp [List.getElem?_drop, List.getElem?_eq_getElem hlt, hu]
      have hcq := hq.cell hq0
      obtain ⟨tb, tf, ak, ck, ea, hck0, _, _, hrow⟩ := HT.out u (by rw [tabOf_length]; exact huN)
      subst ea
      rw [tabOf_rowlen] at hck0
      have hck := hext.cell hck0
      have HROW := Lib.hid hrow; have HU := Lib.hid hu; have HCL := Lib.hid hcl; have BF := Lib.hid bfs; have QU := Lib.hid hq; have OW := Lib.hid own; have HX := Lib.hid hext
      have hu9 : q[d]? = some u := by rw [List.getElem?_eq_getElem hlt, hu]
      have HU9 := Lib.hid hu9
      unfold encN at hcq
      simp only [Nat.add_zero] at hcq
      clear hrow hu hcl bfs hq own hext hck0 hq0 hu9
      go_wp2_with fail
      go_loopg [6, 31] N (fun g s t wi => ∃ (j : Nat) (q : List Nat) (P : Nat → Int) (qg qo qc : Nat), j ≤ N ∧ g = N - j ∧ t = .int .i64 j ∧ s = .slice (some ⟨qg, qo, none⟩) (q.length - d) qc ∧ Hid (q[d]? = some u) ∧ QueI wi w1.heap.size qg qo qc ((q.drop d).map encN)
        ∧ wi.ownsRow (w.heap.size + 1) 3 1 (.slice (some ⟨pb, 0, none⟩) N cp) N (rowOf N P) ∧ Bfs N i (fun u v => 0 < R u v) P q ∧ (∀ s (hs : s < q.length), s < d → ∀ v, v < N → 0 < R q[s] v → v ∈ q) ∧ (∀ v, v < j → 0 < R u v → v ∈ q) ∧ Ext w wi)
      case atStart => exact ⟨0, q, P, qg, qo, qc, Nat.zero_le _, rfl, rfl, rfl, HU9.out, QU.out, OW.out, BF.out, HCL.out, fun v h => absurd h (by omega), HX.out⟩
      case round =>
        clear HCL BF QU OW HX HU9 HU hcq hz hz3 hzd hqN hd hlt
        clear hck
        obtain ⟨j, q, P, qg, qo, qc, hj, rfl, rfl, rfl, hu9, hq, own, bfs, hcl, hcj, hext⟩ := hrel
        have hqN := bfs.len
        have hlt : d < q.length := (List.getElem?_eq_some_iff.1 hu9.out).1
        have hq0 : ((q.drop d).map encN)[0]? = some (encN u) := by
          rw [List.getElem?_map, List.getElem?_drop, Nat.add_zero, hu9.out]; rfl
        have hcq := hq.cell hq0
        unfold encN at hcq
        simp only [Nat.add_zero] at hcq
        have hqle := hq.le
        have hnl : ((q.drop d).map encN).length = q.length - d := by simp
        rw [hnl] at hqle
        have hz : (0 : Int) < ((q.length - d : Nat) : Int) := by omega
        by_cases hjt : j < N
        · have hjz : (j : Int) < (N : Int) := by omega
          obtain ⟨rb, rf, rfl, hcr⟩ := (HROW.out.ext hext) j (by rw [tabOf_rowlen]; exact hjt)
          rw [tabOf_cell] at hcr
          have hcp := World.ownsRow.cellAt own j (by simpa using hjt)
          rw [rowOf_at _ hjt] at hcp
          have hfp := World.ownsRow.frozenAt own j
          have hbd := bfs.bd j hjt
          have hmem := bfs.mem j hjt
          have hst := (World.ownsRow.stored own j (encI u)).1
          rw [rowOf_set _ (parPut P j u) _ (fun k _ => by unfold parPut; rfl)] at hst
          obtain ⟨x, hx⟩ : ∃ x, R u j = x := ⟨_, rfl⟩
          obtain ⟨y, hy⟩ : ∃ y, P j = y := ⟨_, rfl⟩
          rw [hx] at hcr
          rw [hy] at hcp hbd hmem
          unfold encI at hcr hcp hst
          have HX1 := Lib.hid hx; have HY1 := Lib.hid hy; have HM := Lib.hid hmem
          have QU := Lib.hid hq; have OW := Lib.hid own; have BF := Lib.hid bfs; have HCL := Lib.hid hcl; have HCJ := Lib.hid hcj; have HEX := Lib.hid hext; have HST := Lib.hid hst
          have hqgb := hq.ge
          have hqpb : pb ≠ qg := by omega
          clear hx hy hmem hq own bfs hcl hcj hext hst hnl hq0
          by_cases hx0 : 0 < x
          · by_cases hy0 : y < 0
            · have hnq : j ∉ q := fun h => by have := HM.out.2 h; omega
              have huq : u ∈ q := List.mem_of_getElem? hu9.out
              have bfs' := BF.out.push huq hjt hnq (by show 0 < R u j; rw [HX1.out]; exact hx0)
              have hq2 : QueI ((wr.setCell ⟨pb, j, none⟩ (.int .i64 u)).alloc (.cells #[.int .i64 j] 3)) w1.heap.size qg qo qc ((q.drop d).map encN) := (QU.out.other ⟨pb, j, none⟩ hqpb _).ext ((Ext.refl _).alloc _)
              have hcell : ((wr.setCell ⟨pb, j, none⟩ (.int .i64 u)).alloc (.cells #[.int .i64 j] 3)).cell? ⟨wr.heap.size, 0, none⟩ = some (.int .i64 j) := by
                have := one_cellI (wr.setCell ⟨pb, j, none⟩ (.int .i64 u)) j
                simpa using this
              have own2 := owns_ext HST.out ((Ext.refl _).alloc (.cells #[.int .i64 j] 3))
              have hsz0 := HEX.out.size
              have hlt1 : w1.heap.size ≤ wr.heap.size := Nat.le_of_lt (Nat.lt_of_le_of_lt hqgb QU.out.lt)
              have hB : w1.heap.size ≤ ((wr.setCell ⟨pb, j, none⟩ (.int .i64 u)).alloc (.cells #[.int .i64 j] 3)).heap.size := by simp; omega
              have hln : q.length - d = ((q.drop d).map encN).length := by simp
              have hl1 : ((q.drop d).map encN).length ≤ 1000 := by simp; omega
              have hxs : (q.drop d).map encN ++ [.int .i64 j] = ((q ++ [j]).drop d).map encN := by
                rw [List.drop_append_of_le_length (by omega), List.map_append]; rfl
              have hln2 : q.length - d + 1 = (q ++ [j]).length - d := by rw [List.length_append]; have : [j].length = 1 := rfl; omega
              have ext2 : Ext w ((wr.setCell ⟨pb, j, none⟩ (.int .i64 u)).alloc (.cells #[.int .i64 j] 3)) := (HEX.out.setCell (p := ⟨pb, j, none⟩) hpbw _).alloc _
              have hqgw : w.heap.size ≤ qg := by omega
              have Q2 := Lib.hid hq2; have CE := Lib.hid hcell; have O2 := Lib.hid own2; have LN := Lib.hid hln; have L1 := Lib.hid hl1; have XS := Lib.hid hxs; have LN2 := Lib.hid hln2; have X2 := Lib.hid ext2; have BF2 := Lib.hid bfs'; have HBB := Lib.hid hB
              clear hq2 hcell own2 hln hl1 hxs hln2 ext2 bfs' hB HST
              go_wp2_with (at_builtin; refine wpList_que rfl (.tmp 51) (.tmp 53) rfl w1.heap.size qg qo qc (q.length - d) _ LN.out rfl Q2.out HBB.out L1.out wr.heap.size rfl _ CE.out rfl ?_; intro g' o' c' w2 hq3 hg3 _)
              have own3 : w2.ownsRow (w.heap.size + 1) 3 1 (.slice (some ⟨pb, 0, none⟩) N cp) N (rowOf N (parPut P j u)) := O2.out.kept hg3 (.inr (by simp [Value.ownBlock]; exact hqpb))
              have ext3 : Ext w w2 := X2.out.grownNew hg3 (fun k hk => by cases hk; exact hqgw)
              rw [XS.out] at hq3
              have Q3 := Lib.hid hq3; have O3 := Lib.hid own3; have X3 := Lib.hid ext3
              clear hq3 hg3 own3 ext3
              go_wp2_with fail
              go_roundg (N - (j + 1))
              case measure => omega
              case rel => exact ⟨j + 1, q ++ [j], parPut P j u, g', o', c', by omega, rfl, by go_num, by rw [LN2.out], by show (q ++ [j])[d]? = some u; rw [List.getElem?_append_left hlt]; exact hu9.out, Q3.out, O3.out, BF2.out, fun s hs hsd v hv hE => by
                have hs2 : s < q.length := by omega
                rw [List.getElem_append_left hs2] at hE
                exact List.mem_append_left _ (HCL.out s hs2 hsd v hv hE), fun v hv hE => by
                by_cases e : v = j
                · subst e; simp
                · exact List.mem_append_left _ (HCJ.out v (by omega) hE), X3.out⟩
            · have hy0b : decide (y < 0) = false := by simpa using hy0
              go_wp2_with fail
              go_roundg (N - (j + 1))
              case measure => omega
              case rel => exact ⟨j + 1, q, P, qg, qo, qc, by omega, rfl, by go_num, rfl, hu9, QU.out, OW.out, BF.out, HCL.out, fun v hv hE => by
                by_cases e : v = j
                · subst e; exact HM.out.1 (by omega)
                · exact HCJ.out v (by omega) hE, HEX.out⟩
          · have hx0b : decide (0 < x) = false := by simpa using hx0
            go_wp2_with fail
            go_roundg (N - (j + 1))
            case measure => omega
            case rel => exact ⟨j + 1, q, P, qg, qo, qc, by omega, rfl, by go_num, rfl, hu9, QU.out, OW.out, BF.out, HCL.out, fun v hv hE => by
              by_cases e : v = j
              · subst e; rw [HX1.out] at hE; omega
              · exact HCJ.out v (by omega) hE, HEX.out⟩
        · have hjz : ¬ (j : Int) < (N : Int) := by omega
          have hn1 : (1 : Int) ≤ ((q.length - d : Nat) : Int) := by omega
          have hdrop : (q.drop d).map encN = encN u :: (q.drop (d + 1)).map encN := by
            have e := List.drop_eq_getElem_cons hlt
            have e2 : q[d] = u := by have := hu9.out; rw [List.getElem?_eq_getElem hlt] at this; exact Option.some.inj this
            rw [e, List.map_cons, e2]
          rw [hdrop] at hq
          have htl := hq.tail
          have hl2 : q.length - d - 1 = q.length - (d + 1) := by omega
          have TL := Lib.hid htl; have OW := Lib.hid own; have BF := Lib.hid bfs; have HCL := Lib.hid hcl; have HCJ := Lib.hid hcj; have HEX := Lib.hid hext; have L2 := Lib.hid hl2
          have hlt' := Lib.hid hlt
          have hcl2 : ∀ s (hs : s < q.length), s < d + 1 → ∀ v, v < N → 0 < R q[s] v → v ∈ q := fun s hs hsd v hv hE => by
            by_cases e : s = d
            · subst e
              have e2 : q[s] = u := by have := hu9.out; rw [List.getElem?_eq_getElem hs] at this; exact Option.some.inj this
              exact hcj v (by omega) (e2 ▸ hE)
            · exact hcl s hs (by omega) v hv hE
          have HCL2 := Lib.hid hcl2
          clear hq htl own bfs hcl hcj hext hl2 hdrop hq0 hnl hcl2
          by_cases hc1 : qc = 1
          · subst hc1
            have hz0 : q.length - (d + 1) = 0 := by omega
            have HZ0 := Lib.hid hz0; clear hz0
            go_wp2_with fail
            go_roundg (N - (d + 1))
            case measure => omega
            case rel => exact ⟨d + 1, q, P, qg, qo, 0, by omega, rfl, by rw [HZ0.out], by simpa using TL.out, OW.out, BF.out, HCL2.out, HEX.out⟩
          · have hc2 : ¬ 1 = qc := fun e => hc1 e.symm
            go_wp2_with fail
            go_roundg (N - (d + 1))
            case measure => omega
            case rel => exact ⟨d + 1, q, P, qg, qo + 1, qc - 1, by omega, rfl, by rw [L2.out], by have := TL.out; rw [if_neg hc1] at this; exact this, OW.out, BF.out, HCL2.out, HEX.out⟩
    · have hz : ¬ (0 : Int) < ((q.length - d : Nat) : Int) := by omega
      have hzb : decide ((0 : Int) < ((q.length - d : Nat) : Int)) = false := by simpa using hz
      have hdl : q.length - d = 0 := by omega
      have OW := Lib.hid own; have BF := Lib.hid bfs; have HCL := Lib.hid hcl; have HEX := Lib.hid hext
      rw [hdl]
      clear own bfs hcl hext hq hz hzb
      go_wp2_with fail
      go_ret
      exact ⟨_, P, q, rfl, owns_base OW.out (by omega), BF.out, fun a ha v hv hE => by
        obtain ⟨s, hs, es⟩ := List.getElem_of_mem ha
        exact HCL.out s hs (by omega) v hv (by rw [es]; exact hE), HEX.out⟩
end Go.Proofs.Ytelcdjbbcffliaa

/- The room that is left between places, as the program keeps it. Plain laws, no conditions. -/
namespace Go.DC
def hid (b : Nat → Nat → Bool) (i j k l : Nat) : Bool := b k l && !(decide (k = i) && decide (l = j))
theorem hid_iff {b : Nat → Nat → Bool} {i j k l : Nat} : hid b i j k l = true ↔ b k l = true ∧ ¬ (k = i ∧ l = j) := by
  unfold hid
  rw [Bool.and_eq_true, Bool.not_eq_true', Bool.and_eq_false_iff, decide_eq_false_iff_not, decide_eq_false_iff_not]
  constructor
  · rintro ⟨h1, h2⟩
    exact ⟨h1, fun e => by rcases h2 with h2 | h2 <;> simp_all⟩
  · rintro ⟨h1, h2⟩
    refine ⟨h1, ?_⟩
    by_cases e : k = i
    · exact .inr (fun e2 => h2 ⟨e, e2⟩)
    · exact .inl e
/-- From a row to a column, and back. -/
def rc (f : Nat → Nat → Int) (up : Bool) (x : Nat → Nat → Int) (k l : Nat) : Int := if up then x k l else 3168 + f k l - x k l
def cr (f : Nat → Nat → Int) (up : Bool) (x : Nat → Nat → Int) (k l : Nat) : Int := if up then 3168 + f k l - x k l else x k l
def roomG (h : Nat) (f : Nat → Nat → Int) (b : Nat → Nat → Bool) (i j : Nat) (up : Bool) (x : Nat → Nat → Int) (u v : Nat) : Int :=
  if u < h then (if h ≤ v then (if hid b i j u (v - h) then rc f up x u (v - h) else 0) else 0)
  else (if v < h then (if hid b i j v (u - h) then cr f up x v (u - h) else 0) else 0)
section
variable {h m : Nat} {f : Nat → Nat → Int} {b : Nat → Nat → Bool} {i j : Nat} {up : Bool} {x X : Nat → Nat → Int}
theorem roomG_rc {u v : Nat} (hu : u < h) (hv : h ≤ v) (hh : hid b i j u (v - h) = true) : roomG h f b i j up x u v = rc f up x u (v - h) := by
  unfold roomG; rw [if_pos hu, if_pos hv, if_pos hh]
theorem roomG_cr {u v : Nat} (hu : h ≤ u) (hv : v < h) (hh : hid b i j v (u - h) = true) : roomG h f b i j up x u v = cr f up x v (u - h) := by
  unfold roomG; rw [if_neg (by omega), if_pos hv, if_pos hh]
/-- Sums are small. -/
def Small (h m : Nat) (f : Nat → Nat → Int) : Prop := (∀ k, k < h → sumN m (f k) ≤ 396) ∧ (∀ l, l < m → sumN h (fun k => f k l) ≤ 396) ∧ ∀ k l, k < h → l < m → 0 ≤ f k l ∧ f k l ≤ 99
theorem Near.other (hs : Small h m f) (hx : Near h m f b i j x) {k l : Nat} (hk : k < h) (hl : l < m) (hne : ¬ (k = i ∧ l = j)) : 0 ≤ x k l ∧ x k l ≤ 396 := by
  refine ⟨hx.pos k l hk hl hne, ?_⟩
  rcases hx.le_other hk hl hne with h1 | h1
  · have := hs.1 k hk; omega
  · have := hs.2.1 l hl; omega
theorem room_open (hs : Small h m f) (hx : Near h m f b i j x) {u v : Nat} (hu : u < h + m) (hv : v < h + m) : 0 < roomG h f b i j up x u v ↔ Open h m b i j up x u v := by
  unfold roomG Open
  by_cases h1 : u < h
  · rw [if_pos h1]
    by_cases h2 : h ≤ v
    · rw [if_pos h2]
      by_cases h3 : hid b i j u (v - h) = true
      · rw [if_pos h3]
        obtain ⟨h4, h5⟩ := hid_iff.1 h3
        have ho := hx.other hs h1 (show v - h < m by omega) h5
        have hf := hs.2.2 u (v - h) h1 (by omega)
        unfold rc
        cases up with
        | true => constructor
                  · intro hp; exact .inl ⟨h1, h2, hv, h4, h5, fun _ => by simpa using hp⟩
                  · rintro (⟨_, _, _, _, _, hp⟩ | ⟨hc, _⟩)
                    · simpa using hp rfl
                    · omega
        | false => constructor
                   · intro hp; exact .inl ⟨h1, h2, hv, h4, h5, fun e => by cases e⟩
                   · intro _; simp; omega
      · rw [if_neg h3]
        constructor
        · intro hp; omega
        · rintro (⟨_, _, _, h4, h5, _⟩ | ⟨hc, _⟩)
          · exact absurd (hid_iff.2 ⟨h4, h5⟩) h3
          · omega
    · rw [if_neg h2]
      constructor
      · intro hp; omega
      · rintro (⟨_, hc, _⟩ | ⟨hc, _⟩) <;> omega
  · rw [if_neg h1]
    by_cases h2 : v < h
    · rw [if_pos h2]
      by_cases h3 : hid b i j v (u - h) = true
      · rw [if_pos h3]
        obtain ⟨h4, h5⟩ := hid_iff.1 h3
        have ho := hx.other hs h2 (show u - h < m by omega) h5
        have hf := hs.2.2 v (u - h) h2 (by omega)
        unfold cr
        cases up with
        | true => constructor
                  · intro hp; exact .inr ⟨by omega, hu, h2, h4, h5, fun e => by cases e⟩
                  · intro _; simp; omega
        | false => constructor
                   · intro hp; exact .inr ⟨by omega, hu, h2, h4, h5, fun _ => by simpa using hp⟩
                   · rintro (⟨hc, _⟩ | ⟨_, _, _, _, _, hp⟩)
                     · omega
                     · simpa using hp rfl
      · rw [if_neg h3]
        constructor
        · intro hp; omega
        · rintro (⟨hc, _⟩ | ⟨_, _, _, h4, h5, _⟩)
          · omega
          · exact absurd (hid_iff.2 ⟨h4, h5⟩) h3
    · rw [if_neg h2]
      constructor
      · intro hp; omega
      · rintro (⟨hc, _⟩ | ⟨_, _, hc, _⟩) <;> omega
/-- A search over the room is one over open steps. -/
theorem Bfs.open {P : Nat → Int} {q : List Nat} (hs : Small h m f) (hx : Near h m f b i j x) (w : Bfs (h + m) i (fun u v => 0 < roomG h f b i j up x u v) P q) : Bfs (h + m) i (Open h m b i j up x) P q :=
  ⟨⟨w.way.zero, w.way.lt, w.way.nodup, fun s hs' h0 => by
    obtain ⟨t, ht, hts, hp, hE⟩ := w.way.from_ s hs' h0
    exact ⟨t, ht, hts, hp, (room_open hs hx (w.way.lt _ (List.getElem_mem ht)) (w.way.lt _ (List.getElem_mem hs'))).1 hE⟩⟩, w.mem, w.bd⟩
theorem Closed.open {q : List Nat} (hs : Small h m f) (hx : Near h m f b i j x) (hq : ∀ u ∈ q, u < h + m) (c : Closed (h + m) (fun u v => 0 < roomG h f b i j up x u v) q) : Closed (h + m) (Open h m b i j up x) q :=
  fun u hu v hv hE => c u hu v hv ((room_open hs hx (hq u hu) hv).2 hE)
/-- The cell (i, j) itself has no room. -/
theorem roomG_own (z : Int) : roomG h f b i j up (upd x i j z) = roomG h f b i j up x := by
  funext u v
  unfold roomG
  have key : ∀ k l, hid b i j k l = true → upd x i j z k l = x k l := fun k l hh => by
    obtain ⟨_, hne⟩ := hid_iff.1 hh
    unfold upd; rw [if_neg hne]
  by_cases h1 : u < h
  · rw [if_pos h1, if_pos h1]
    split
    · split
      · rename_i hh; unfold rc; rw [key _ _ hh]
      · rfl
    · rfl
  · rw [if_neg h1, if_neg h1]
    split
    · split
      · rename_i hh; unfold cr; rw [key _ _ hh]
      · rfl
    · rfl
theorem rc_upd {k l r c : Nat} {z : Int} (hne : ¬ (k = r ∧ l = c)) : rc f up (upd X r c z) k l = rc f up X k l := by
  unfold rc upd; rw [if_neg hne]
theorem cr_upd {k l r c : Nat} {z : Int} (hne : ¬ (k = r ∧ l = c)) : cr f up (upd X r c z) k l = cr f up X k l := by
  unfold cr upd; rw [if_neg hne]
theorem rc_upd_at {r c : Nat} {z : Int} : rc f up (upd X r c z) r c = if up then z else 3168 + f r c - z := by unfold rc upd; simp
theorem cr_upd_at {r c : Nat} {z : Int} : cr f up (upd X r c z) r c = if up then 3168 + f r c - z else z := by unfold cr upd; simp
theorem upd_at (g : Nat → Nat → Int) (u v : Nat) (z : Int) : upd g u v z u v = z := by unfold upd; simp
theorem upd_ne {g : Nat → Nat → Int} {u v u' v' : Nat} {z : Int} (hne : ¬ (u' = u ∧ v' = v)) : upd g u v z u' v' = g u' v' := by unfold upd; rw [if_neg hne]
/-- The room between two other places is as it was. -/
theorem roomG_upd {u' v' r c : Nat} {z : Int} (h1 : ¬ (u' = r ∧ v' = h + c)) (h2 : ¬ (u' = h + c ∧ v' = r)) (_hr : r < h) : roomG h f b i j up (upd X r c z) u' v' = roomG h f b i j up X u' v' := by
  unfold roomG
  by_cases q1 : u' < h
  · rw [if_pos q1, if_pos q1]
    by_cases q2 : h ≤ v'
    · rw [if_pos q2, if_pos q2, rc_upd (fun e => h1 ⟨e.1, by omega⟩)]
    · rw [if_neg q2, if_neg q2]
  · rw [if_neg q1, if_neg q1]
    by_cases q2 : v' < h
    · rw [if_pos q2, if_pos q2, cr_upd (fun e => h2 ⟨by omega, e.1⟩)]
    · rw [if_neg q2, if_neg q2]
/-- d is the change of the cell (i, j), e that of the room. -/
def sgn (up : Bool) (e : Int) : Int := if up then e else -e
theorem room_step {y : Nat → Nat → Int} {u v : Nat} (hE : Open h m b i j up y u v) (e : Int) :
    upd (upd (roomG h f b i j up X) u v (roomG h f b i j up X u v - e)) v u (roomG h f b i j up X v u + e) = roomG h f b i j up (upd X (cellR u v) (cellC h u v) (X (cellR u v) (cellC h u v) + (if u < h then -(sgn up e) else sgn up e))) := by
  funext u' v'
  rcases hE with ⟨hu, hv, hvm, hb, hne, _⟩ | ⟨hu, hum, hv, hb, hne, _⟩
  · obtain ⟨e1, e2⟩ := cell_row hu hv
    have hh : hid b i j u (v - h) = true := hid_iff.2 ⟨hb, hne⟩
    have hvh : h + (v - h) = v := by omega
    rw [e1, e2, if_pos hu]
    by_cases q1 : u' = v ∧ v' = u
    · obtain ⟨rfl, rfl⟩ := q1
      rw [upd_at, roomG_cr hv hu hh, roomG_cr hv hu hh, cr_upd_at]
      unfold cr sgn
      cases up <;> simp <;> omega
    · rw [upd_ne q1]
      by_cases q2 : u' = u ∧ v' = v
      · obtain ⟨rfl, rfl⟩ := q2
        rw [upd_at, roomG_rc hu hv hh, roomG_rc hu hv hh, rc_upd_at]
        unfold rc sgn
        cases up <;> simp <;> omega
      · rw [upd_ne q2, roomG_upd (by rw [hvh]; exact q2) (by rw [hvh]; exact q1) hu]
  · obtain ⟨e1, e2⟩ := cell_col hu hv
    have hh : hid b i j v (u - h) = true := hid_iff.2 ⟨hb, hne⟩
    have hvh : h + (u - h) = u := by omega
    rw [e1, e2, if_neg (by omega : ¬ u < h)]
    by_cases q1 : u' = v ∧ v' = u
    · obtain ⟨rfl, rfl⟩ := q1
      rw [upd_at, roomG_rc hv hu hh, roomG_rc hv hu hh, rc_upd_at]
      unfold rc sgn
      cases up <;> simp <;> omega
    · rw [upd_ne q1]
      by_cases q2 : u' = u ∧ v' = v
      · obtain ⟨rfl, rfl⟩ := q2
        rw [upd_at, roomG_cr hu hv hh, roomG_cr hu hv hh, cr_upd_at]
        unfold cr sgn
        cases up <;> simp <;> omega
      · rw [upd_ne q2, roomG_upd (by rw [hvh]; exact q1) (by rw [hvh]; exact q2) hv]
/-- Where the cell of a step is as it was, so is its room. -/
theorem room_old {y : Nat → Nat → Int} {u v : Nat} (hE : Open h m b i j up y u v) (ho : X (cellR u v) (cellC h u v) = x (cellR u v) (cellC h u v)) : roomG h f b i j up X u v = roomG h f b i j up x u v ∧ roomG h f b i j up X v u = roomG h f b i j up x v u := by
  rcases hE with ⟨hu, hv, hvm, hb, hne, _⟩ | ⟨hu, hum, hv, hb, hne, _⟩
  · obtain ⟨e1, e2⟩ := cell_row hu hv
    have hh : hid b i j u (v - h) = true := hid_iff.2 ⟨hb, hne⟩
    rw [e1, e2] at ho
    rw [roomG_rc hu hv hh, roomG_rc hu hv hh, roomG_cr hv hu hh, roomG_cr hv hu hh]
    unfold rc cr; rw [ho]; exact ⟨rfl, rfl⟩
  · obtain ⟨e1, e2⟩ := cell_col hu hv
    have hh : hid b i j v (u - h) = true := hid_iff.2 ⟨hb, hne⟩
    rw [e1, e2] at ho
    rw [roomG_cr hu hv hh, roomG_cr hu hv hh, roomG_rc hv hu hh, roomG_rc hv hu hh]
    unfold rc cr; rw [ho]; exact ⟨rfl, rfl⟩
theorem room_bd (hs : Small h m f) (hx : Near h m f b i j x) {u v : Nat} (hu : u < h + m) (hv : v < h + m) : 0 ≤ roomG h f b i j up x u v ∧ roomG h f b i j up x u v ≤ 4000 := by
  unfold roomG
  by_cases h1 : u < h
  · rw [if_pos h1]
    split
    · split
      · rename_i h2 h3
        have ho := hx.other hs h1 (show v - h < m by omega) (hid_iff.1 h3).2
        have hf := hs.2.2 u (v - h) h1 (by omega)
        unfold rc; split <;> omega
      · omega
    · omega
  · rw [if_neg h1]
    split
    · split
      · rename_i h2 h3
        have ho := hx.other hs h2 (show u - h < m by omega) (hid_iff.1 h3).2
        have hf := hs.2.2 v (u - h) h2 (by omega)
        unfold cr; split <;> omega
      · omega
    · omega
/-- e can be moved from i to p. -/
inductive Path (R : Nat → Nat → Int) (P : Nat → Int) (i : Nat) (e : Int) : Nat → Prop
  | here : Path R P i e i
  | step {p : Nat} : p ≠ i → e ≤ R (P p).toNat p → Path R P i e (P p).toNat → Path R P i e p
theorem Path.next {R : Nat → Nat → Int} {P : Nat → Int} {i p : Nat} {e : Int} (h : Path R P i e p) (hp : p ≠ i) : e ≤ R (P p).toNat p ∧ Path R P i e (P p).toNat := by
  cases h with
  | here => exact absurd rfl hp
  | step _ h1 h2 => exact ⟨h1, h2⟩
/-- The number of a hidden cell stays where it may be once it is changed. -/
theorem back_pos {e : Int} {u v : Nat} (_hs : Small h m f) (hx : Near h m f b i j x) (hE : Open h m b i j up x u v) (ho : X (cellR u v) (cellC h u v) = x (cellR u v) (cellC h u v)) (he : 0 ≤ e) (hr : e ≤ roomG h f b i j up x u v) :
    0 ≤ X (cellR u v) (cellC h u v) + (if u < h then -(sgn up e) else sgn up e) := by
  rw [ho]
  rcases hE with ⟨hu, hv, hvm, hb, hne, _⟩ | ⟨hu, hum, hv, hb, hne, _⟩
  · obtain ⟨e1, e2⟩ := cell_row hu hv
    have hp := hx.pos u (v - h) hu (by omega) hne
    rw [roomG_rc hu hv (hid_iff.2 ⟨hb, hne⟩)] at hr
    rw [e1, e2, if_pos hu]
    unfold sgn; unfold rc at hr
    cases up <;> simp at hr ⊢ <;> omega
  · obtain ⟨e1, e2⟩ := cell_col hu hv
    have hp := hx.pos v (u - h) hv (by omega) hne
    rw [roomG_cr hu hv (hid_iff.2 ⟨hb, hne⟩)] at hr
    rw [e1, e2, if_neg (by omega)]
    unfold sgn; unfold cr at hr
    cases up <;> simp at hr ⊢ <;> omega
end
end Go.DC

/- How a way is gone back and its room is moved. Plain laws, no conditions. -/
namespace Go.DC
section
variable {h m : Nat} {f : Nat → Nat → Int} {b : Nat → Nat → Bool} {i j : Nat} {up : Bool} {x X : Nat → Nat → Int}
/-- x holds f's table with (i, j) changed by F. -/
structure FlowAt (h m : Nat) (f : Nat → Nat → Int) (b : Nat → Nat → Bool) (i j : Nat) (up : Bool) (F : Int) (x : Nat → Nat → Int) : Prop where
  near : Near h m f b i j x
  own : x i j = f i j + sgn up F
  pos : 0 ≤ F
theorem FlowAt.bd {F : Int} (hs : Small h m f) (hi : i < h) (hj : j < m) (m4 : m ≤ 4) (hF : FlowAt h m f b i j up F x) : F ≤ 1683 := by
  obtain ⟨h1, h2, h3⟩ := hs
  have hf := h3 i j hi hj
  have ho := hF.own
  cases up with
  | true =>
    have a1 := hF.near.le_row hi hj
    have a2 := h1 i hi
    unfold sgn at ho
    simp at ho; omega
  | false =>
    have a1 := hF.near.ge_tot (fun k l hk hl => (h3 k l hk hl).1) hi hj
    have a2 : sumN m (fun l => sumN h (fun k => f k l)) ≤ sumN m (fun _ => 396) := sumN_le fun l hl => h2 l hl
    rw [sumN_const] at a2
    unfold sgn at ho
    simp at ho; omega
theorem FlowAt.start (h0 : ∀ k l, k < h → l < m → 0 ≤ f k l) : FlowAt h m f b i j up 0 f := ⟨(Fits.refl h0).near i j, by unfold sgn; simp, Int.le_refl _⟩
/-- A place that was reached. -/
structure Stop (N : Nat) (q : List Nat) (s p : Nat) : Prop where
  at_ : q[s]? = some p
  lt : p < N
theorem Bfs.stop {N : Nat} {E : Nat → Nat → Prop} {P : Nat → Int} {q : List Nat} {p : Nat} (w : Bfs N i E P q) (hp : p < N) (h0 : 0 ≤ P p) : ∃ s, Stop N q s p := by
  obtain ⟨s, hs, e⟩ := List.getElem_of_mem ((w.mem p hp).1 h0)
  exact ⟨s, by rw [List.getElem?_eq_getElem hs, e], hp⟩
/-- The place before it. -/
theorem Stop.prev {N : Nat} {E : Nat → Nat → Prop} {P : Nat → Int} {q : List Nat} {s p : Nat} (st : Stop N q s p) (w : Bfs N i E P q) (hne : p ≠ i) : ∃ t u, t < s ∧ Stop N q t u ∧ P p = (u : Int) ∧ E u p := by
  obtain ⟨hs, e⟩ := List.getElem?_eq_some_iff.1 st.at_
  have h0 : 0 < s := by
    rcases Nat.eq_zero_or_pos s with h | h
    · subst h
      have := w.way.zero
      rw [st.at_] at this
      exact absurd (Option.some.inj this) hne
    · exact h
  obtain ⟨t, ht, hts, hp, hE⟩ := w.way.from_ s hs h0
  rw [e] at hp hE
  have hmem : p ∈ q := by rw [← e]; exact List.getElem_mem hs
  have h1 := (w.mem p st.lt).2 hmem
  exact ⟨t, q[t], hts, ⟨List.getElem?_eq_getElem ht, w.way.lt _ (List.getElem_mem ht)⟩, by omega, hE⟩
/-- What can be moved from i to p can be moved to the end z. -/
def Onto (R : Nat → Nat → Int) (P : Nat → Int) (i z : Nat) (e : Int) (p : Nat) : Prop := ∀ e', e' ≤ e → Path R P i e' p → Path R P i e' z
theorem Onto.start {R : Nat → Nat → Int} {P : Nat → Int} {i z : Nat} {e : Int} : Onto R P i z e z := fun _ _ h => h
theorem Onto.step {R : Nat → Nat → Int} {P : Nat → Int} {i z p u : Nat} {e : Int} (h : Onto R P i z e p) (hp : p ≠ i) (hu : P p = (u : Int)) : Onto R P i z (min e (R u p)) u := fun e' he hq => by
  have hu' : (P p).toNat = u := by rw [hu]; rfl
  refine h e' (by omega) (Path.step hp ?_ ?_)
  · rw [hu']; omega
  · rw [hu']; exact hq
theorem Onto.done {R : Nat → Nat → Int} {P : Nat → Int} {i z : Nat} {e : Int} (h : Onto R P i z e i) : Path R P i e z := h e (Int.le_refl _) Path.here
/-- On the way back: place p is reached, its change is still missing. -/
structure Going (h m : Nat) (f : Nat → Nat → Int) (b : Nat → Nat → Bool) (i j : Nat) (up : Bool) (x : Nat → Nat → Int) (P : Nat → Int) (q : List Nat) (e : Int) (s p : Nat) (X : Nat → Nat → Int) : Prop where
  stop : Stop (h + m) q s p
  back : Back h m f b i j (sgn up e) x X p
  old : Old h q s x X (Open h m b i j up x)
  path : Path (roomG h f b i j up x) P i e p
theorem Going.start {P : Nat → Int} {q : List Nat} {e : Int} {s : Nat} (hx : Near h m f b i j x) (hi : i < h) (hj : j < m) (hb : b i j = true) (st : Stop (h + m) q s (h + j)) (hp : Path (roomG h f b i j up x) P i e (h + j)) :
    Going h m f b i j up x P q e s (h + j) (upd x i j (x i j + sgn up e)) :=
  ⟨st, Back.begin hx hi hj hb _, Old.begin q s _, hp⟩
theorem Going.step {P : Nat → Int} {q : List Nat} {e : Int} {s p : Nat} (g : Going h m f b i j up x P q e s p X) (hs : Small h m f) (hx : Near h m f b i j x) (w : Bfs (h + m) i (Open h m b i j up x) P q) (hne : p ≠ i) (he : 0 ≤ e) :
    ∃ t u X', t < s ∧ u < h + m ∧ u ≠ p ∧ P p = (u : Int) ∧ e ≤ roomG h f b i j up X u p ∧ 0 ≤ roomG h f b i j up X p u ∧ roomG h f b i j up X u p ≤ 4000 ∧ roomG h f b i j up X p u ≤ 4000
      ∧ upd (upd (roomG h f b i j up X) u p (roomG h f b i j up X u p - e)) p u (roomG h f b i j up X p u + e) = roomG h f b i j up X' ∧ Going h m f b i j up x P q e t u X' := by
  obtain ⟨t, u, hts, st, hPu, hE⟩ := g.stop.prev w hne
  obtain ⟨hs', es⟩ := List.getElem?_eq_some_iff.1 g.stop.at_
  obtain ⟨ht', et⟩ := List.getElem?_eq_some_iff.1 st.at_
  obtain ⟨h1, h2⟩ := g.path.next hne
  have hu' : (P p).toNat = u := by rw [hPu]; rfl
  rw [hu'] at h1 h2
  have hE' : Open h m b i j up x q[t] q[s] := by rw [et, es]; exact hE
  have hold := g.old s hs' t ht' (Nat.le_refl _) hts hE'
  rw [et, es] at hold
  obtain ⟨r1, r2⟩ := room_old (f := f) hE hold
  have b1 := room_bd (up := up) hs hx st.lt g.stop.lt
  have b2 := room_bd (up := up) hs hx g.stop.lt st.lt
  have hup : u ≠ p := fun e => by subst e; rcases hE with ⟨a, c, _⟩ | ⟨a, _, c, _⟩ <;> omega
  have hpos := back_pos (X := X) hs hx hE hold he h1
  refine ⟨t, u, _, hts, st.lt, hup, hPu, by rw [r1]; exact h1, by rw [r2]; exact b2.1, by rw [r1]; exact b1.2, by rw [r2]; exact b2.2, room_step hE e, st, g.back.step hE hpos, ?_, h2⟩
  have := g.old.step w.way.nodup hs' ht' hts hE' (X (cellR u p) (cellC h u p) + (if u < h then -(sgn up e) else sgn up e))
  rw [et, es] at this
  exact this
theorem Going.done {P : Nat → Int} {q : List Nat} {e F : Int} {s : Nat} (g : Going h m f b i j up x P q e s i X) (hF : FlowAt h m f b i j up F x) (hi : i < h) (he : 0 ≤ e) : FlowAt h m f b i j up (F + e) X :=
  ⟨g.back.done hi, by rw [g.back.own, hF.own]; unfold sgn; split <;> omega, by have := hF.pos; omega⟩
end
end Go.DC
