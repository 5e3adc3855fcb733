/- The iterator over a table's cells: it yields (0, 0), (0, 1), .., row by row. -/
import Derived.Test.YtelcdjbbcffliaaTabImpl2
import Derived.RangeFuncNested
import Derived.RangeFuncBound
import Derived.RangeFuncCalls
import Derived.RangeFuncLeaves
import Derived.Shelf.Abstract
import Derived.Shelf.RegionOpen
import Derived.OwnWalkIn
import Derived.TacticsInMore
import Derived.LoopNIn
import Derived.LoopIn
namespace Go.Proofs.Ytelcdjbbcffliaa
open Go.RowKit Go.DC Go.Shelf
attribute [local go_sem] Oper.semAt_some
/-- A cell of a rectangle. -/
abbrev Cell (h m : Nat) := { x : Nat × Nat // x.1 < h ∧ x.2 < m }
abbrev encC {h m : Nat} (x : Cell h m) : Array Value := #[.int .i64 (x.1.1 : Int), .int .i64 (x.1.2 : Int)]

/-- The cells of row k, the first j of them. -/
def rowCells (h m k j : Nat) (hk : k < h) (hj : j ≤ m) : List (Cell h m) := (List.range j).attach.map fun i => ⟨(k, i.1), hk, by have := List.mem_range.1 i.2; simp only; omega⟩
theorem rowCells_zero (h m k : Nat) (hk : k < h) (hj : 0 ≤ m) : rowCells h m k 0 hk hj = [] := rfl
theorem rowCells_succ (h m k j : Nat) (hk : k < h) (hj : j + 1 ≤ m) : rowCells h m k (j + 1) hk hj = rowCells h m k j hk (by omega) ++ [⟨(k, j), hk, by simp only; omega⟩] := by
  apply List.ext_getElem
  · simp [rowCells]
  · intro i h1 h2
    simp only [rowCells, List.length_map, List.length_attach, List.length_range] at h1
    by_cases e : i < j
    · simp [rowCells, e]
    · have : i = j := by omega
      subst this
      simp [rowCells]
/-- All cells of the first k rows. -/
def firstCells (h m : Nat) : (k : Nat) → k ≤ h → List (Cell h m)
  | 0, _ => []
  | k + 1, hk => firstCells h m k (by omega) ++ rowCells h m k m (by omega) (Nat.le_refl _)
def allCells (h m : Nat) : List (Cell h m) := firstCells h m h (Nat.le_refl _)
theorem rowCells_length (h m k j : Nat) (hk : k < h) (hj : j ≤ m) : (rowCells h m k j hk hj).length = j := by simp [rowCells]
theorem firstCells_length (h m : Nat) : ∀ (k : Nat) (hk : k ≤ h), (firstCells h m k hk).length = k * m
  | 0, _ => by simp [firstCells]
  | k + 1, hk => by simp [firstCells, firstCells_length h m k (by omega), rowCells_length, Nat.add_mul]
theorem allCells_length (h m : Nat) : (allCells h m).length = h * m := firstCells_length h m h _
theorem lt_all {h m k j : Nat} (hk : k < h) (hj : j < m) : k * m + j < h * m := by
  have : (k + 1) * m ≤ h * m := Nat.mul_le_mul_right m hk
  rw [Nat.add_mul] at this
  omega

set_option maxRecDepth 100000 in
set_option maxHeartbeats 2000000 in
theorem cells1_in (F : Fence) (n : Nat) (h7 : F.fn 75) (hro : F.round = none) (_hn : 1 ≤ n) (l Bs h m : Nat) (a : Option Addr) (c : Nat) (t : List (List Int)) (w0 : World) (ht : IRows w0 a t) (hh : t.length = h) (hm : ∀ k (hk : k < t.length), t[k].length = m) (hh4 : h ≤ 4) (hm4 : m ≤ 4)
    (J Jx : List (Cell h m) → World → Prop)
    (hY : ∀ pre x W, J pre W → pre.length < h * m → YieldAt F (n - 1) Try.prog l (encC x) W fun e W' =>
      (e = .returned (.bool true) ∧ J (pre ++ [x]) W' ∧ Below w0.heap.size W W') ∨ (e = .returned (.bool false) ∧ Jx (pre ++ [x]) W'))
    (W : World) (hW : Below w0.heap.size w0 W) (hBs : W.cell? ⟨Bs, 0, none⟩ = some (.slice a t.length c)) (h0 : J [] W) :
    CallsIn F n Try.prog 75 #[.func (.yield l) #[] #[], .pointer (some ⟨Bs, 0, none⟩)] W fun e W' => (∃ v, e = .returned v) ∧
      ((∃ ys, ys = allCells h m ∧ J ys W') ∨ (∃ pre, Jx pre W')) := by
  subst hh
  have HT := Lib.hid ht; clear ht
  have HM := Lib.hid hm; clear hm
  refine callsIn_of_wp Try.func75 rfl h7 ?_ hro
  simp only [Try.ntmps75, List.size_toArray, List.length_cons, List.length_nil, Nat.reduceAdd, Nat.reduceSub, Array.replicate_succ, Array.replicate_zero, List.push_toArray, List.append_toArray, List.nil_append, List.cons_append]
  gi_wp2
  gi_loopw [8] (fun i wr => ∃ (k : Nat) (hk : k ≤ t.length), i = .int .i64 k ∧ J (firstCells t.length m k hk) wr ∧ Below w0.heap.size w0 wr) (fun i _ => t.length - (intOf i).toNat)
  case atStart => exact ⟨0, Nat.zero_le _, rfl, h0, hW⟩
  case round =>
    obtain ⟨k, hk, rfl, hJs, hnx⟩ := hrel
    by_cases hlt : k < t.length
    · obtain ⟨b, off, ak, ck, rfl, hck, _, _, _⟩ := HT.out k hlt
      have hcx : wr.cell? ⟨b, off + k, none⟩ = some (.slice ak t[k].length ck) := (Below.cell hnx (p := ⟨b, off + k, none⟩) (World.block_lt_of_cell? _ _ hck)).trans hck
      rw [HM.out k hlt] at hcx
      clear hck
      gi_wp2
      gi_loopw [15] (fun i wi => ∃ (j : Nat) (hj : j ≤ m), i = .int .i64 j ∧ J (firstCells t.length m k hk ++ rowCells t.length m k j hlt hj) wi ∧ Below w0.heap.size w0 wi) (fun i _ => m - (intOf i).toNat)
      case atStart => exact ⟨0, Nat.zero_le _, rfl, by rw [rowCells_zero, List.append_nil]; exact hJs, hnx⟩
      case round =>
        obtain ⟨j, hj, rfl, hJj, hnj⟩ := hrel
        by_cases hjt : j < m
        · obtain ⟨fn, tmps, assign, body, hy, hR⟩ := hY _ ⟨(k, j), hlt, hjt⟩ _ hJj (by rw [List.length_append, firstCells_length, rowCells_length]; exact lt_all hlt hjt)
          gi_wp2
          refine hR.mono ?_
          rintro e W3 (⟨rfl, hJ3, hk3⟩ | ⟨rfl, hJx3⟩)
          · gi_wp2
            go_roundw
            case rel => exact ⟨j + 1, hjt, by simp, by rw [rowCells_succ, ← List.append_assoc]; exact hJ3, hnj.trans hk3⟩
            case measure => simp [intOf]; omega
          · gi_wp2
            refine bodyPost_ret (results_none rfl _ _ _) rfl ?_
            exact ⟨⟨_, rfl⟩, .inr ⟨_, hJx3⟩⟩
        · have hjm : j = m := by omega
          have HJ := Lib.hid hjm; clear hjm
          gi_wp2
          go_roundw
          case rel => exact ⟨k + 1, by omega, by simp, by have := hJj; rw [show rowCells t.length m k j hlt hj = rowCells t.length m k m hlt (Nat.le_refl _) by have := HJ.out; subst this; rfl] at this; exact this, hnj⟩
          case measure => simp [intOf]; omega
    · have hkt : k = t.length := by omega
      have HK := Lib.hid hkt; clear hkt
      gi_wp2
      go_end0
      exact ⟨⟨_, rfl⟩, .inl ⟨_, by have := HK.out; subst this; rfl, hJs⟩⟩

theorem cells_stops (F : Fence) (n : Nat) (h7 : F.fn 75) (hro : F.round = none) (hn : 1 ≤ n) (Bs h m : Nat) (a : Option Addr) (c : Nat) (t : List (List Int)) (w0 w : World) (ht : IRows w0 a t) (hh : t.length = h) (hm : ∀ k (hk : k < t.length), t[k].length = m) (hh4 : h ≤ 4) (hm4 : m ≤ 4)
    (hw : Below w0.heap.size w0 w) (hBs : w.cell? ⟨Bs, 0, none⟩ = some (.slice a t.length c)) :
    SeqStopsK F n Try.prog 75 #[.pointer (some ⟨Bs, 0, none⟩)] (encC (h := h) (m := m)) (Below w0.heap.size) (fun ys => ys = allCells h m) (fun _ => True) (h * m) w := fun l J Jx W hW _ _ hY h0 => by
  refine (cells1_in F n h7 hro hn l Bs h m a c t w0 ht hh hm hh4 hm4 J Jx hY W (hw.trans (hW.mono hw.size)) ((Below.cell hW (p := ⟨Bs, 0, none⟩) (World.block_lt_of_cell? _ _ hBs)).trans hBs) h0).mono ?_
  rintro e W' ⟨he, ⟨ys, hys, hj⟩ | ⟨pre, hj⟩⟩
  · exact ⟨he, .inl ⟨ys, hys, hj⟩⟩
  · exact ⟨he, .inr ⟨pre, trivial, hj⟩⟩

set_option maxHeartbeats 1000000 in
theorem cellsOf_in (F : Fence) (n : Nat) (h5 : F.fn 51) (hro : F.round = none) (a : Option Addr) (len cap : Nat) (w : World) :
    CallsIn F n Try.prog 51 #[.slice a len cap] w fun e w' => e = .returned (.func (.func 75) #[] #[.pointer (some ⟨w.heap.size, 0, none⟩)]) ∧ w' = w.alloc (.cells #[.slice a len cap] 23) := by
  refine callsIn_of_wp Try.func51 rfl h5 ?_ hro
  simp only [Try.ntmps51, List.size_toArray, List.length_cons, List.length_nil, Nat.reduceAdd, Nat.reduceSub, Array.replicate_succ, Array.replicate_zero, List.push_toArray, List.append_toArray, List.nil_append, List.cons_append]
  gi_wp2
  go_ret
  exact ⟨rfl, rfl⟩
end Go.Proofs.Ytelcdjbbcffliaa
