/- The iterator over a table's cells: it yields (0, 0), (0, 1), .., row by row. -/
import Derived.Test.YtelcdjbbcffliaaTabImpl
import Derived.RangeFuncNested
import Derived.RangeFuncBound
import Derived.RangeFuncCalls
import Derived.RangeFuncLeaves
import Derived.Shelf.Abstract
import Derived.Shelf.RegionOpen
import Derived.OwnWalkIn
import Derived.TacticsInMore
import Derived.LoopNIn
import Derived.LoopIn
import Derived.Test.YtelcdjbbcffliaaOwn
import Derived.Test.YtelcdjbbcffliaaBase
/- The iterator over a table's cells: it yields (0, 0), (0, 1), .., row by row. -/
namespace Go.Proofs.Ytelcdjbbcffliaa
open Go.RowKit Go.DC Go.Shelf
attribute [local go_sem] Oper.semAt_some
/-- A cell of a rectangle. -/
abbrev Cell (h m : Nat) := { x : Nat × Nat // x.1 < h ∧ x.2 < m }
abbrev encC {h m : Nat} (x : Cell h m) : Array Value := #[.int .i64 (x.1.1 : Int), .int .i64 (x.1.2 : Int)]

/-- The cells of row k, the first j of them. -/
def rowCells (h m k j : Nat) (hk : k < h) (hj : j ≤ m) : List (Cell h m) := (List.range j).attach.map fun i => ⟨(k, i.1), hk, by have := List.mem_range.1 i.2; simp only; omega⟩
theorem rowCells_zero (h m k : Nat) (hk : k < h) (hj : 0 ≤ m) : rowCells h m k 0 hk hj = [] := rfl
theorem rowCells_succ (h m k j : Nat) (hk : k < h) (hj : j + 1 ≤ m) : rowCells h m k (j + 1) hk hj = rowCells h m k j hk (by omega) ++ [⟨(k, j), hk, by simp only; omega⟩] := by
  apply List.ext_getElem
  · simp [rowCells]
  · intro i h1 h2
    simp only [rowCells, List.length_map, List.length_attach, List.length_range] at h1
    by_cases e : i < j
    · simp [rowCells, e]
    · have : i = j := by omega
      subst this
      simp [rowCells]
/-- All cells of the first k rows. -/
def firstCells (h m : Nat) : (k : Nat) → k ≤ h → List (Cell h m)
  | 0, _ => []
  | k + 1, hk => firstCells h m k (by omega) ++ rowCells h m k m (by omega) (Nat.le_refl _)
def allCells (h m : Nat) : List (Cell h m) := firstCells h m h (Nat.le_refl _)
theorem rowCells_length (h m k j : Nat) (hk : k < h) (hj : j ≤ m) : (rowCells h m k j hk hj).length = j := by simp [rowCells]
theorem firstCells_length (h m : Nat) : ∀ (k : Nat) (hk : k ≤ h), (firstCells h m k hk).length = k * m
  | 0, _ => by simp [firstCells]
  | k + 1, hk => by simp [firstCells, firstCells_length h m k (by omega), rowCells_length, Nat.add_mul]
theorem allCells_length (h m : Nat) : (allCells h m).length = h * m := firstCells_length h m h _
theorem lt_all {h m k j : Nat} (hk : k < h) (hj : j < m) : k * m + j < h * m := by
  have : (k + 1) * m ≤ h * m := Nat.mul_le_mul_right m hk
  rw [Nat.add_mul] at this
  omega

set_option maxRecDepth 100000 in
set_option maxHeartbeats 2000000 in
theorem cells1_in (F : Fence) (n : Nat) (h7 : F.fn 75) (hro : F.round = none) (_hn : 1 ≤ n) (l Bs h m : Nat) (a : Option Addr) (c : Nat) (t : List (List Int)) (w0 : World) (ht : IRows w0 a t) (hh : t.length = h) (hm : ∀ k (hk : k < t.length), t[k].length = m) (hh4 : h ≤ 4) (hm4 : m ≤ 4)
    (J Jx : List (Cell h m) → World → Prop)
    (hY : ∀ pre x W, J pre W → pre.length < h * m → YieldAt F (n - 1) Try.prog l (encC x) W fun e W' =>
      (e = .returned (.bool true) ∧ J (pre ++ [x]) W' ∧ Below w0.heap.size W W') ∨ (e = .returned (.bool false) ∧ Jx (pre ++ [x]) W'))
    (W : World) (hW : Below w0.heap.size w0 W) (hBs : W.cell? ⟨Bs, 0, none⟩ = some (.slice a t.length c)) (h0 : J [] W) :
    CallsIn F n Try.prog 75 #[.func (.yield l) #[] #[], .pointer (some ⟨Bs, 0, none⟩)] W fun e W' => (∃ v, e = .returned v) ∧
      ((∃ ys, ys = allCells h m ∧ J ys W') ∨ (∃ pre, Jx pre W')) := by
  subst hh
  have HT := Lib.hid ht; clear ht
  have HM := Lib.hid hm; clear hm
  refine callsIn_of_wp Try.func75 rfl h7 ?_ hro
  simp only [Try.ntmps75, List.size_toArray, List.length_cons, List.length_nil, Nat.reduceAdd, Nat.reduceSub, Array.replicate_succ, Array.replicate_zero, List.push_toArray, List.append_toArray, List.nil_append, List.cons_append]
  gi_wp2
  gi_loopw [8] (fun i wr => ∃ (k : Nat) (hk : k ≤ t.length), i = .int .i64 k ∧ J (firstCells t.length m k hk) wr ∧ Below w0.heap.size w0 wr) (fun i _ => t.length - (intOf i).toNat)
  case atStart => exact ⟨0, Nat.zero_le _, rfl, h0, hW⟩
  case round =>
    obtain ⟨k, hk, rfl, hJs, hnx⟩ := hrel
    by_cases hlt : k < t.length
    · obtain ⟨b, off, ak, ck, rfl, hck, _, _, _⟩ := HT.out k hlt
      have hcx : wr.cell? ⟨b, off + k, none⟩ = some (.slice ak t[k].length ck) := (Below.cell hnx (p := ⟨b, off + k, none⟩) (World.block_lt_of_cell? _ _ hck)).trans hck
      rw [HM.out k hlt] at hcx
      clear hck
      gi_wp2
      gi_loopw [15] (fun i wi => ∃ (j : Nat) (hj : j ≤ m), i = .int .i64 j ∧ J (firstCells t.length m k hk ++ rowCells t.length m k j hlt hj) wi ∧ Below w0.heap.size w0 wi) (fun i _ => m - (intOf i).toNat)
      case atStart => exact ⟨0, Nat.zero_le _, rfl, by rw [rowCells_zero, List.append_nil]; exact hJs, hnx⟩
      case round =>
        obtain ⟨j, hj, rfl, hJj, hnj⟩ := hrel
        by_cases hjt : j < m
        · obtain ⟨fn, tmps, assign, body, hy, hR⟩ := hY _ ⟨(k, j), hlt, hjt⟩ _ hJj (by rw [List.length_append, firstCells_length, rowCells_length]; exact lt_all hlt hjt)
          gi_wp2
          refine hR.mono ?_
          rintro e W3 (⟨rfl, hJ3, hk3⟩ | ⟨rfl, hJx3⟩)
          · gi_wp2
            go_roundw
            case rel => exact ⟨j + 1, hjt, by simp, by rw [rowCells_succ, ← List.append_assoc]; exact hJ3, hnj.trans hk3⟩
            case measure => simp [intOf]; omega
          · gi_wp2
            refine bodyPost_ret (results_none rfl _ _ _) rfl ?_
            exact ⟨⟨_, rfl⟩, .inr ⟨_, hJx3⟩⟩
        · have hjm : j = m := by omega
          have HJ := Lib.hid hjm; clear hjm
          gi_wp2
          go_roundw
          case rel => exact ⟨k + 1, by omega, by simp, by have := hJj; rw [show rowCells t.length m k j hlt hj = rowCells t.length m k m hlt (Nat.le_refl _) by have := HJ.out; subst this; rfl] at this; exact this, hnj⟩
          case measure => simp [intOf]; omega
    · have hkt : k = t.length := by omega
      have HK := Lib.hid hkt; clear hkt
      gi_wp2
      go_end0
      exact ⟨⟨_, rfl⟩, .inl ⟨_, by have := HK.out; subst this; rfl, hJs⟩⟩

theorem cells_stops (F : Fence) (n : Nat) (h7 : F.fn 75) (hro : F.round = none) (hn : 1 ≤ n) (Bs h m : Nat) (a : Option Addr) (c : Nat) (t : List (List Int)) (w0 w : World) (ht : IRows w0 a t) (hh : t.length = h) (hm : ∀ k (hk : k < t.length), t[k].length = m) (hh4 : h ≤ 4) (hm4 : m ≤ 4)
    (hw : Below w0.heap.size w0 w) (hBs : w.cell? ⟨Bs, 0, none⟩ = some (.slice a t.length c)) :
    SeqStopsK F n Try.prog 75 #[.pointer (some ⟨Bs, 0, none⟩)] (encC (h := h) (m := m)) (Below w0.heap.size) (fun ys => ys = allCells h m) (fun _ => True) (h * m) w := fun l J Jx W hW _ _ hY h0 => by
  refine (cells1_in F n h7 hro hn l Bs h m a c t w0 ht hh hm hh4 hm4 J Jx hY W (hw.trans (hW.mono hw.size)) ((Below.cell hW (p := ⟨Bs, 0, none⟩) (World.block_lt_of_cell? _ _ hBs)).trans hBs) h0).mono ?_
  rintro e W' ⟨he, ⟨ys, hys, hj⟩ | ⟨pre, hj⟩⟩
  · exact ⟨he, .inl ⟨ys, hys, hj⟩⟩
  · exact ⟨he, .inr ⟨pre, trivial, hj⟩⟩

set_option maxHeartbeats 1000000 in
theorem cellsOf_in (F : Fence) (n : Nat) (h5 : F.fn 51) (hro : F.round = none) (a : Option Addr) (len cap : Nat) (w : World) :
    CallsIn F n Try.prog 51 #[.slice a len cap] w fun e w' => e = .returned (.func (.func 75) #[] #[.pointer (some ⟨w.heap.size, 0, none⟩)]) ∧ w' = w.alloc (.cells #[.slice a len cap] 23) := by
  refine callsIn_of_wp Try.func51 rfl h5 ?_ hro
  simp only [Try.ntmps51, List.size_toArray, List.length_cons, List.length_nil, Nat.reduceAdd, Nat.reduceSub, Array.replicate_succ, Array.replicate_zero, List.push_toArray, List.append_toArray, List.nil_append, List.cons_append]
  gi_wp2
  go_ret
  exact ⟨rfl, rfl⟩
end Go.Proofs.Ytelcdjbbcffliaa

/- A loop over a table's cells: one law for every caller. -/
namespace Go.DC
open Go.RowKit
theorem Cel.of_turn {w w' : World} {row : Option Nat} (g : w.grownBy w' row) (hr : ∀ r, row = some r → ∃ o : Obj, w.heap[r]? = some o ∧ o.isCells = false) : Cel w w' := fun b c t fr hb => by
  refine (g.block b (Array.getElem?_eq_some_iff.1 hb).1 (fun e => ?_)).trans hb
  obtain ⟨o, ho, hc⟩ := hr b e.symm
  rw [hb] at ho
  cases ho
  cases hc

/-- What a round leaves as it was: what is no cells from D on, and all blocks below n. -/
structure Stp (n D : Nat) (W W' : World) : Prop where
  from_ : KeepsFrom D W W'
  below : Below n W W'
theorem Stp.refl (n D : Nat) (W : World) : Stp n D W W := ⟨KeepsFrom.refl D W, Below.refl _ _⟩
theorem Stp.trans {n D : Nat} {A B C : World} (h : Stp n D A B) (k : Stp n D B C) : Stp n D A C := ⟨h.from_.trans k.from_, h.below.trans k.below⟩
theorem Stp.setCell {n D : Nat} {A B : World} (h : Stp n D A B) {p : Addr} (hp : n ≤ p.block) (v : Value) : Stp n D A (B.setCell p v) :=
  ⟨h.from_.trans ((KeepsOthers.setCell _ _ _).from _), h.below.setCell hp v⟩
theorem Stp.drew {n D : Nat} {A B : World} (h : Stp n D A B) : Stp n D A B.drew := ⟨h.from_.trans ((KeepsOthers.drew _).from _), h.below.drew⟩
theorem Stp.drewN {n D : Nat} {A B : World} (h : Stp n D A B) (k : Nat) : Stp n D A (B.drewN k) := ⟨⟨h.from_.size, fun i o hi ho hc => h.from_.same i o hi ho hc⟩, ⟨h.below.os, h.below.tape, h.below.output, h.below.size, h.below.block⟩⟩
theorem Stp.of_ext {n D : Nat} {A B : World} (e : Ext A B) (hn : n ≤ A.heap.size) : Stp n D A B :=
  ⟨⟨e.size, fun k _ _ hk _ => (e.block k (Array.getElem?_eq_some_iff.1 hk).1).trans hk⟩, Below.mono e hn⟩
theorem Stp.alloc {n D : Nat} {A B : World} (h : Stp n D A B) (hn : n ≤ A.heap.size) (o : Obj) : Stp n D A (B.alloc o) :=
  h.trans (Stp.of_ext ((Ext.refl B).alloc o) (Nat.le_trans hn h.below.size))
theorem Stp.of_only {n D : Nat} {A B : World} {S : Nat → Prop} (h : Only S A B) (hn : n ≤ A.heap.size) (h1 : ∀ k, S k → n ≤ k) (h2 : ∀ k o, S k → A.heap[k]? = some o → o.isCells = true) : Stp n D A B :=
  ⟨⟨h.size, fun k o _ hk ho => (h.block k (Array.getElem?_eq_some_iff.1 hk).1 (fun hs => by rw [h2 k o hs hk] at ho; cases ho)).trans hk⟩,
   ⟨h.os, h.tape, h.output, Nat.le_trans (Nat.le_refl _) h.size, fun k hk => h.block k (by omega) (fun hs => by have := h1 k hs; omega)⟩⟩
/-- The mark of a loop is taken at the function's end. -/
theorem Cel.taken {W : World} {D : Nat} (hK : W.heap[D]? = some (.deferred (some []))) (o : Obj) : Cel W (W.putObj D o) :=
  Cel.of_turn (grownBy_putObj' W D o) (fun r e => by cases e; exact ⟨_, hK, rfl⟩)
theorem Ext.taken {w W : World} {D : Nat} (e : Ext w W) (hD : w.heap.size ≤ D) (o : Obj) : Ext w (W.putObj D o) :=
  e.grownNew (grownBy_putObj' W D o) (fun k hk => by cases hk; exact hD)
section
variable {F : Fence} {n : Nat} {P : Program} {fn : Func} {R : Ending → World → Prop} {tmps : Array Value} {W : World}
theorem leave1 {x : Tmp} (hr : fn.results = #[.tmp x]) (h : R (.returned (tmps.getD x undef)) W) : bodyPostM F n P fn R .ret { tmps := tmps, defers := [] } W := ⟨_, results_tmp hr _ _ _, h⟩
theorem leave2 {x y : Tmp} (hr : fn.results = #[.tmp x, .tmp y]) (h : R (.returned (.tuple #[tmps.getD x undef, tmps.getD y undef])) W) : bodyPostM F n P fn R .ret { tmps := tmps, defers := [] } W := ⟨_, results_tmp2 hr _ _ _, h⟩
theorem leaveD1 {D : Nat} {x : Tmp} (hK : W.heap[D]? = some (.deferred (some []))) (hr : fn.results = #[.tmp x]) (h : R (.returned (tmps.getD x undef)) (W.putObj D (.deferred none))) :
    bodyPostM F n P fn R .ret { tmps := tmps, defers := [{ target := .collected D, args := #[] }] } W :=
  ⟨by simp, .inl ⟨_, _, rfl, run_takeDeferred hK, _, results_tmp hr _ _ _, h⟩⟩
theorem leaveD2 {D : Nat} {x y : Tmp} (hK : W.heap[D]? = some (.deferred (some []))) (hr : fn.results = #[.tmp x, .tmp y]) (h : R (.returned (.tuple #[tmps.getD x undef, tmps.getD y undef])) (W.putObj D (.deferred none))) :
    bodyPostM F n P fn R .ret { tmps := tmps, defers := [{ target := .collected D, args := #[] }] } W :=
  ⟨by simp, .inl ⟨_, _, rfl, run_takeDeferred hK, _, results_tmp2 hr _ _ _, h⟩⟩
end
end Go.DC
namespace Go.Proofs.Ytelcdjbbcffliaa
open Go.RowKit Go.DC Go.Shelf
attribute [local go_sem] Oper.semAt_some
/-- The wide fence. -/
theorem wide_fn (f : Nat) : Fence.wide.fn f := trivial
theorem wpIn_cells {g : Operand} {ps : Array Tmp} {assign body : Code} {Q : Exit → Act → World → Prop} {a : Act} {w : World} {n : Nat} (hn : 2 ≤ n) (w0 : World) (Bs h m : Nat) (aT : Option Addr) (cT : Nat) (t : List (List Int))
    (ht : IRows w0 aT t) (hr : Rect t h m) (hh4 : h ≤ 4) (hm4 : m ≤ 4) (hg : a.eval g = .func (.func 75) #[] #[.pointer (some ⟨Bs, 0, none⟩)]) (hw : Ext w0 w) (hBs : w.cell? ⟨Bs, 0, none⟩ = some (.slice aT t.length cT)) (hps : ps.size = 2)
    (I : List (Cell h m) → World → Prop) (Ix : Code → List (Cell h m) → World → Prop) (hI : ∀ s A B, I s A → Cel A B → I s B) (hIx : ∀ c s A B, Ix c s A → Cel A B → Ix c s B) (h0 : I [] w)
    (hround : ∀ (l : Nat) (x : Cell h m) (W : World) (K : Act → World → Prop), (∀ a', (∀ (l' : Nat) (pre : List (Cell h m)) (W' : World), I pre W' → Ext w0 W' → pre.length < h * m → body.wpIn (Fence.wide.inRound l') (n - 1 - 1) Try.prog
        (ownPostG w.heap.size (Below w0.heap.size) (fun s W => I s W ∧ Ext w0 W) (fun c s W => Ix c s W ∧ Ext w0 W) (pre ++ [x]) W') a' W') → K a' W) →
      assign.wpIn (Fence.wide.inRound l) (n - 1 - 1) Try.prog (Exit.then K (fun _ _ _ => False)) { tmps := (ps.zip (encC x)).foldl (fun t (p, v) => t.setIfInBounds p v) a.tmps, defers := [] } W)
    (hdone : ∀ (D : Nat) (W : World), w.heap.size ≤ D → I (allCells h m) W → Ext w0 W → W.heap[D]? = some (.deferred (some [])) → Q .normal { a with defers := { target := .collected D, args := #[] } :: a.defers } W)
    (hstop : ∀ (D : Nat) (c : Code) (pre : List (Cell h m)) (W : World), w.heap.size ≤ D → Ix c pre W → Ext w0 W → W.heap[D]? = some (.deferred (some [])) → c.wpIn Fence.wide n Try.prog Q { a with defers := { target := .collected D, args := #[] } :: a.defers } W) :
    (Code.rangeFunc g ps assign body).wpIn Fence.wide n Try.prog Q a w := by
  have hsz := hw.size
  have hE : ∀ {A B : World} {row : Option Nat}, Ext w0 A → A.grownBy B row → (∀ r, row = some r → w.heap.size ≤ r ∧ ∃ o : Obj, A.heap[r]? = some o ∧ o.isCells = false) → Ext w0 B := fun e hg' hr' => e.grownNew hg' (fun k hk => Nat.le_trans hsz (hr' k hk).1)
  refine wpIn_rangeFunc_ownH rfl (by omega) (gf := 75) (lb := #[.pointer (some ⟨Bs, 0, none⟩)]) hg (wide_fn _) (enters_of Try.func75 (by kernel_rfl) rfl)
    (cells_stops Fence.wide (n - 1) (wide_fn _) rfl (by omega) Bs h m aT cT t w0 w ht hr.1 hr.2 hh4 hm4 hw hBs) belowK_t (belowK_b hsz) (Below.refl _ _) (fun _ => hps.symm)
    (fun s W => I s W ∧ Ext w0 W) (fun c s W => Ix c s W ∧ Ext w0 W)
    (fun s A B row hs hg' hr' => ⟨hI s A B hs.1 (Cel.of_turn hg' (fun r e => (hr' r e).2)), hE hs.2 hg' hr'⟩)
    (fun c s A B row hs hg' hr' => ⟨hIx c s A B hs.1 (Cel.of_turn hg' (fun r e => (hr' r e).2)), hE hs.2 hg' hr'⟩)
    ⟨h0, hw⟩
    (fun x a' _ => ∀ (l' : Nat) (pre : List (Cell h m)) (W' : World), I pre W' → Ext w0 W' → pre.length < h * m → body.wpIn (Fence.wide.inRound l') (n - 1 - 1) Try.prog
        (ownPostG w.heap.size (Below w0.heap.size) (fun s W => I s W ∧ Ext w0 W) (fun c s W => Ix c s W ∧ Ext w0 W) (pre ++ [x]) W') a' W')
    (fun x a' => ownFrom_pure _ _) ?_ ?_ ?_ ?_
  · intro l pre x W K hi hK
    exact hround l x W K (fun a' ha' => hK a' W (KeepsFrom.refl _ _) (Below.refl _ _) hi ha')
  · intro l pre x a' W _ _ hi hax hlt
    exact hax l pre W hi.1 hi.2 hlt
  · rintro D xs W hD rfl hi hK
    exact hdone D W hD hi.1 hi.2 hK
  · intro D c pre W hD _ hi hK
    exact hstop D c pre W hD hi.1 hi.2 hK
end Go.Proofs.Ytelcdjbbcffliaa

/- The program's difference of two tables. -/
namespace Go.Proofs.Ytelcdjbbcffliaa
open Go.RowKit Go.DC Go.Shelf
attribute [local go_sem] Oper.semAt_some
/-- How often a cell is among some. -/
def cnt {h m : Nat} (pre : List (Cell h m)) (i j : Nat) : Nat := (pre.filter fun x => x.1.1 == i && x.1.2 == j).length
theorem cnt_nil {h m : Nat} (i j : Nat) : cnt ([] : List (Cell h m)) i j = 0 := rfl
theorem cnt_append {h m : Nat} (p q : List (Cell h m)) (i j : Nat) : cnt (p ++ q) i j = cnt p i j + cnt q i j := by simp [cnt]
theorem cnt_one {h m : Nat} (x : Cell h m) (i j : Nat) : cnt [x] i j = if i = x.1.1 ∧ j = x.1.2 then 1 else 0 := by
  unfold cnt
  by_cases e : i = x.1.1 ∧ j = x.1.2
  · rw [if_pos e, List.filter_cons_of_pos (by simp [e.1, e.2])]; rfl
  · rw [if_neg e, List.filter_cons_of_neg (by simp; intro h1 h2; exact e ⟨h1.symm, h2.symm⟩)]; rfl
theorem cnt_le {h m : Nat} (p : List (Cell h m)) (i j : Nat) : cnt p i j ≤ p.length := List.length_filter_le _ _
theorem cnt_row {h m k : Nat} (hk : k < h) (i j : Nat) : ∀ (j' : Nat) (hj : j' ≤ m), cnt (rowCells h m k j' hk hj) i j = if i = k ∧ j < j' then 1 else 0
  | 0, hj => by rw [rowCells_zero, cnt_nil, if_neg (by omega)]
  | j' + 1, hj => by
    rw [rowCells_succ, cnt_append, cnt_row hk i j j' (by omega), cnt_one]
    simp only
    repeat' split
    all_goals omega
theorem cnt_first {h m : Nat} (i j : Nat) (hj : j < m) : ∀ (k : Nat) (hk : k ≤ h), cnt (firstCells h m k hk) i j = if i < k then 1 else 0
  | 0, _ => by rw [firstCells, cnt_nil, if_neg (by omega)]
  | k + 1, hk => by
    rw [firstCells, cnt_append, cnt_first i j hj k (by omega), cnt_row]
    repeat' split
    all_goals omega
theorem cnt_all {h m i j : Nat} (hi : i < h) (hj : j < m) : cnt (allCells h m) i j = 1 := by
  unfold allCells; rw [cnt_first i j hj, if_pos hi]

theorem tabOk_rect {t : List (List Int)} (h : tabOk t = true) : Rect t t.length (wide t) ∧ 1 ≤ t.length ∧ t.length ≤ 4 ∧ 1 ≤ wide t ∧ wide t ≤ 4 ∧ ∀ i j, i < t.length → j < wide t → 0 ≤ get 0 t i j ∧ get 0 t i j ≤ 99 := by
  unfold tabOk at h
  simp only [Bool.and_eq_true, decide_eq_true_eq, List.all_eq_true] at h
  obtain ⟨⟨⟨⟨h1, h2⟩, h3⟩, h4⟩, h5⟩ := h
  have hr : ∀ k (hk : k < t.length), t[k].length = wide t ∧ ∀ z ∈ t[k], 0 ≤ z ∧ z ≤ 99 := fun k hk => by
    have := h5 t[k] (List.getElem_mem hk)
    simp only [rowOk, Bool.and_eq_true, beq_iff_eq, List.all_eq_true, cellOk, decide_eq_true_eq] at this
    exact this
  refine ⟨⟨rfl, fun k hk => (hr k hk).1⟩, h1, h2, h3, h4, fun i j hi hj => ?_⟩
  have hj' : j < t[i].length := by rw [(hr i hi).1]; exact hj
  rw [get_cell hi hj']
  exact (hr i hi).2 _ (List.getElem_mem hj')

/-- The first table minus the second one. -/
def subT (a b : List (List Int)) : List (List Int) := tabOf a.length (wide a) (fun i j => get 0 a i j - get 0 b i j)
def diffOk (a b : List (List Int)) : Bool := tabOk a && tabOk b && decide (shape a = shape b) && tabOk (subT a b)
def diffT (a b : List (List Int)) : List (List Int) := if diffOk a b then subT a b else []
theorem diffT_len (a b : List (List Int)) : (diffT a b).length ≤ 4 := by
  unfold diffT
  split
  · rename_i h
    unfold diffOk at h
    simp only [Bool.and_eq_true] at h
    unfold subT
    rw [tabOf_length]
    exact (tabOk_rect h.1.1.1).2.2.1
  · simp
/-- What a difference hands back. -/
def DiffOut (a b : List (List Int)) (w : World) (e : Ending) (w' : World) : Prop :=
  ∃ v vs, e = .returned (.tuple #[v, .bool (diffOk a b)]) ∧ OwnI w' w.heap.size v vs (diffT a b) ∧ Ext w w'
theorem own_nil (w : World) (B : Nat) : OwnI w B (.slice none 0 0) [] [] :=
  ⟨rfl, World.ownsRow_nil _ _ _ _, fun k hk => by simp at hk, fun k l hk => by simp at hk, fun k hk => by simp at hk⟩
theorem shape_rect {a b : List (List Int)} (h : tabOk a = true) (e : shape a = shape b) : Rect b a.length (wide a) := by
  have hl := shape_len e
  refine ⟨hl.symm, fun k hk => ?_⟩
  have hk' : k < a.length := by omega
  have e1 : (shape a)[k]? = some a[k].length := by simp [shape, hk']
  have e2 : (shape b)[k]? = some b[k].length := by simp [shape, hk]
  rw [e, e2] at e1
  rw [Option.some.inj e1]
  exact (tabOk_rect h).1.2 k hk'

end Go.Proofs.Ytelcdjbbcffliaa

/- Tables as functions: plain words on what a valid table is. -/
namespace Go.Proofs.Ytelcdjbbcffliaa
open Go.RowKit Go.DC
theorem wide_tabOf {h m : Nat} (g : Nat → Nat → Int) (hh : 0 < h) : wide (tabOf h m g) = m := by
  rw [wide_eq (by rw [tabOf_length]; exact hh), tabOf_rowlen]
theorem shape_tabOf {α : Type} (h m : Nat) (g : Nat → Nat → α) : shape (tabOf h m g) = List.replicate h m := by
  apply List.ext_getElem
  · simp [shape, tabOf]
  · intro i h1 h2; simp [shape, tabOf]
/-- The cells of a valid table. -/
def InT (h m : Nat) (g : Nat → Nat → Int) : Prop := (1 ≤ h ∧ h ≤ 4 ∧ 1 ≤ m ∧ m ≤ 4) ∧ ∀ i j, i < h → j < m → 0 ≤ g i j ∧ g i j ≤ 99
theorem tabOk_tabOf {h m : Nat} {g : Nat → Nat → Int} : tabOk (tabOf h m g) = true ↔ InT h m g := by
  constructor
  · intro hh
    obtain ⟨_, h1, h2, h3, h4, h5⟩ := tabOk_rect hh
    rw [tabOf_length] at h1 h2 h5
    rw [wide_tabOf g (by omega)] at h3 h4 h5
    exact ⟨⟨h1, h2, h3, h4⟩, fun i j hi hj => by have := h5 i j hi hj; rwa [get_tabOf g hi hj] at this⟩
  · rintro ⟨⟨h1, h2, h3, h4⟩, h5⟩
    unfold tabOk
    rw [wide_tabOf g (by omega), tabOf_length]
    simp only [Bool.and_eq_true, decide_eq_true_eq, List.all_eq_true]
    refine ⟨⟨⟨⟨h1, h2⟩, h3⟩, h4⟩, fun r hr => ?_⟩
    obtain ⟨k, hk, rfl⟩ := List.getElem_of_mem hr
    have hk' : k < h := by rwa [tabOf_length] at hk
    simp only [rowOk, Bool.and_eq_true, beq_iff_eq, List.all_eq_true, cellOk, decide_eq_true_eq]
    refine ⟨tabOf_rowlen h m g hk, fun z hz => ?_⟩
    obtain ⟨j, hj, rfl⟩ := List.getElem_of_mem hz
    rw [tabOf_cell]
    rw [tabOf_rowlen] at hj
    exact h5 k j hk' hj
/-- A valid table is one of a function. -/
theorem tabOk_form {t : List (List Int)} (h : tabOk t = true) : t = tabOf t.length (wide t) (get 0 t) ∧ InT t.length (wide t) (get 0 t) := by
  obtain ⟨r, h1, h2, h3, h4, h5⟩ := tabOk_rect h
  exact ⟨r.eq 0, ⟨h1, h2, h3, h4⟩, h5⟩
theorem tabOk_ex {t : List (List Int)} (h : tabOk t = true) : ∃ n m g, t = tabOf n m g ∧ InT n m g := ⟨_, _, _, tabOk_form h⟩
theorem subT_tabOf {h m : Nat} (f g : Nat → Nat → Int) (hh : 0 < h) : subT (tabOf h m f) (tabOf h m g) = tabOf h m (fun i j => f i j - g i j) := by
  unfold subT
  rw [wide_tabOf f hh, tabOf_length]
  exact tabOf_congr fun i j hi hj => by rw [get_tabOf f hi hj, get_tabOf g hi hj]
theorem shape_tabOf_eq {α β : Type} {h m h' m' : Nat} {f : Nat → Nat → α} {g : Nat → Nat → β} (e : shape (tabOf h m f) = shape (tabOf h' m' g)) (hh : 0 < h) : h = h' ∧ m = m' := by
  rw [shape_tabOf, shape_tabOf] at e
  have hl : h = h' := by simpa using congrArg List.length e
  subst hl
  obtain ⟨k, rfl⟩ : ∃ k, h = k + 1 := ⟨h - 1, by omega⟩
  rw [List.replicate_succ, List.replicate_succ] at e
  exact ⟨rfl, (List.cons.inj e).1⟩
theorem diffOk_tabOf {h m : Nat} {f g : Nat → Nat → Int} : diffOk (tabOf h m f) (tabOf h m g) = true ↔ InT h m f ∧ InT h m g ∧ InT h m (fun i j => f i j - g i j) := by
  unfold diffOk
  simp only [Bool.and_eq_true, decide_eq_true_eq, shape_tabOf, tabOk_tabOf]
  constructor
  · rintro ⟨⟨⟨h1, h2⟩, _⟩, h4⟩
    rw [subT_tabOf f g (by have := h1.1; omega), tabOk_tabOf] at h4
    exact ⟨h1, h2, h4⟩
  · rintro ⟨h1, h2, h3⟩
    refine ⟨⟨⟨h1, h2⟩, trivial⟩, ?_⟩
    rw [subT_tabOf f g (by have := h1.1; omega), tabOk_tabOf]
    exact h3
theorem diffOk_ex {a b : List (List Int)} (h : diffOk a b = true) : ∃ n m f g, a = tabOf n m f ∧ b = tabOf n m g ∧ InT n m f ∧ InT n m g ∧ InT n m (fun i j => f i j - g i j) ∧ diffT a b = tabOf n m (fun i j => f i j - g i j) := by
  have h0 := h
  unfold diffOk at h
  simp only [Bool.and_eq_true, decide_eq_true_eq] at h
  obtain ⟨⟨⟨h1, h2⟩, h3⟩, h4⟩ := h
  obtain ⟨n, m, f, rfl, hf⟩ := tabOk_ex h1
  obtain ⟨n', m', g, rfl, hg⟩ := tabOk_ex h2
  obtain ⟨rfl, rfl⟩ := shape_tabOf_eq h3 (by have := hf.1; omega)
  have hs := subT_tabOf (m := m) f g (by have := hf.1; omega : 0 < n)
  refine ⟨n, m, f, g, rfl, rfl, hf, hg, ?_, ?_⟩
  · rw [hs, tabOk_tabOf] at h4; exact h4
  · unfold diffT; rw [if_pos h0, hs]
/-- The difference to the difference is the second table. -/
theorem diff_twice {a b : List (List Int)} (h : diffOk a b = true) : diffOk a (diffT a b) = true ∧ diffT a (diffT a b) = b := by
  obtain ⟨n, m, f, g, rfl, rfl, hf, hg, hd, e⟩ := diffOk_ex h
  have hn : 0 < n := by have := hf.1; omega
  have hok : diffOk (tabOf n m f) (tabOf n m fun i j => f i j - g i j) = true := by
    rw [diffOk_tabOf]
    refine ⟨hf, hd, ?_⟩
    simpa [Int.sub_sub_self] using hg
  rw [e]
  refine ⟨hok, ?_⟩
  unfold diffT
  rw [if_pos hok, subT_tabOf _ _ hn]
  exact tabOf_congr fun i j _ _ => by omega
end Go.Proofs.Ytelcdjbbcffliaa
