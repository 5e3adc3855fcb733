/- A loop over a table's cells: one law for every caller. -/
import Derived.Test.YtelcdjbbcffliaaCells
import Derived.Test.YtelcdjbbcffliaaTabFun
namespace Go.DC
open Go.RowKit
theorem Cel.of_turn {w w' : World} {row : Option Nat} (g : w.grownBy w' row) (hr : ∀ r, row = some r → ∃ o : Obj, w.heap[r]? = some o ∧ o.isCells = false) : Cel w w' := fun b c t fr hb => by
  refine (g.block b (Array.getElem?_eq_some_iff.1 hb).1 (fun e => ?_)).trans hb
  obtain ⟨o, ho, hc⟩ := hr b e.symm
  rw [hb] at ho
  cases ho
  cases hc

/-- What a round leaves as it was: what is no cells from D on, and all blocks below n. -/
structure Stp (n D : Nat) (W W' : World) : Prop where
  from_ : KeepsFrom D W W'
  below : Below n W W'
theorem Stp.refl (n D : Nat) (W : World) : Stp n D W W := ⟨KeepsFrom.refl D W, Below.refl _ _⟩
theorem Stp.trans {n D : Nat} {A B C : World} (h : Stp n D A B) (k : Stp n D B C) : Stp n D A C := ⟨h.from_.trans k.from_, h.below.trans k.below⟩
theorem Stp.setCell {n D : Nat} {A B : World} (h : Stp n D A B) {p : Addr} (hp : n ≤ p.block) (v : Value) : Stp n D A (B.setCell p v) :=
  ⟨h.from_.trans ((KeepsOthers.setCell _ _ _).from _), h.below.setCell hp v⟩
theorem Stp.drew {n D : Nat} {A B : World} (h : Stp n D A B) : Stp n D A B.drew := ⟨h.from_.trans ((KeepsOthers.drew _).from _), h.below.drew⟩
theorem Stp.drewN {n D : Nat} {A B : World} (h : Stp n D A B) (k : Nat) : Stp n D A (B.drewN k) := ⟨⟨h.from_.size, fun i o hi ho hc => h.from_.same i o hi ho hc⟩, ⟨h.below.os, h.below.tape, h.below.output, h.below.size, h.below.block⟩⟩
theorem Stp.of_ext {n D : Nat} {A B : World} (e : Ext A B) (hn : n ≤ A.heap.size) : Stp n D A B :=
  ⟨⟨e.size, fun k _ _ hk _ => (e.block k (Array.getElem?_eq_some_iff.1 hk).1).trans hk⟩, Below.mono e hn⟩
theorem Stp.alloc {n D : Nat} {A B : World} (h : Stp n D A B) (hn : n ≤ A.heap.size) (o : Obj) : Stp n D A (B.alloc o) :=
  h.trans (Stp.of_ext ((Ext.refl B).alloc o) (Nat.le_trans hn h.below.size))
theorem Stp.of_only {n D : Nat} {A B : World} {S : Nat → Prop} (h : Only S A B) (hn : n ≤ A.heap.size) (h1 : ∀ k, S k → n ≤ k) (h2 : ∀ k o, S k → A.heap[k]? = some o → o.isCells = true) : Stp n D A B :=
  ⟨⟨h.size, fun k o _ hk ho => (h.block k (Array.getElem?_eq_some_iff.1 hk).1 (fun hs => by rw [h2 k o hs hk] at ho; cases ho)).trans hk⟩,
   ⟨h.os, h.tape, h.output, Nat.le_trans (Nat.le_refl _) h.size, fun k hk => h.block k (by omega) (fun hs => by have := h1 k hs; omega)⟩⟩
/-- The mark of a loop is taken at the function's end. -/
theorem Cel.taken {W : World} {D : Nat} (hK : W.heap[D]? = some (.deferred (some []))) (o : Obj) : Cel W (W.putObj D o) :=
  Cel.of_turn (grownBy_putObj' W D o) (fun r e => by cases e; exact ⟨_, hK, rfl⟩)
theorem Ext.taken {w W : World} {D : Nat} (e : Ext w W) (hD : w.heap.size ≤ D) (o : Obj) : Ext w (W.putObj D o) :=
  e.grownNew (grownBy_putObj' W D o) (fun k hk => by cases hk; exact hD)
section
variable {F : Fence} {n : Nat} {P : Program} {fn : Func} {R : Ending → World → Prop} {tmps : Array Value} {W : World}
theorem leave1 {x : Tmp} (hr : fn.results = #[.tmp x]) (h : R (.returned (tmps.getD x undef)) W) : bodyPostM F n P fn R .ret { tmps := tmps, defers := [] } W := ⟨_, results_tmp hr _ _ _, h⟩
theorem leave2 {x y : Tmp} (hr : fn.results = #[.tmp x, .tmp y]) (h : R (.returned (.tuple #[tmps.getD x undef, tmps.getD y undef])) W) : bodyPostM F n P fn R .ret { tmps := tmps, defers := [] } W := ⟨_, results_tmp2 hr _ _ _, h⟩
theorem leaveD1 {D : Nat} {x : Tmp} (hK : W.heap[D]? = some (.deferred (some []))) (hr : fn.results = #[.tmp x]) (h : R (.returned (tmps.getD x undef)) (W.putObj D (.deferred none))) :
    bodyPostM F n P fn R .ret { tmps := tmps, defers := [{ target := .collected D, args := #[] }] } W :=
  ⟨by simp, .inl ⟨_, _, rfl, run_takeDeferred hK, _, results_tmp hr _ _ _, h⟩⟩
theorem leaveD2 {D : Nat} {x y : Tmp} (hK : W.heap[D]? = some (.deferred (some []))) (hr : fn.results = #[.tmp x, .tmp y]) (h : R (.returned (.tuple #[tmps.getD x undef, tmps.getD y undef])) (W.putObj D (.deferred none))) :
    bodyPostM F n P fn R .ret { tmps := tmps, defers := [{ target := .collected D, args := #[] }] } W :=
  ⟨by simp, .inl ⟨_, _, rfl, run_takeDeferred hK, _, results_tmp2 hr _ _ _, h⟩⟩
end
end Go.DC
namespace Go.Proofs.Ytelcdjbbcffliaa
open Go.RowKit Go.DC Go.Shelf
attribute [local go_sem] Oper.semAt_some
/-- The wide fence. -/
theorem wide_fn (f : Nat) : Fence.wide.fn f := trivial
theorem wpIn_cells {g : Operand} {ps : Array Tmp} {assign body : Code} {Q : Exit → Act → World → Prop} {a : Act} {w : World} {n : Nat} (hn : 2 ≤ n) (w0 : World) (Bs h m : Nat) (aT : Option Addr) (cT : Nat) (t : List (List Int))
    (ht : IRows w0 aT t) (hr : Rect t h m) (hh4 : h ≤ 4) (hm4 : m ≤ 4) (hg : a.eval g = .func (.func 75) #[] #[.pointer (some ⟨Bs, 0, none⟩)]) (hw : Ext w0 w) (hBs : w.cell? ⟨Bs, 0, none⟩ = some (.slice aT t.length cT)) (hps : ps.size = 2)
    (I : List (Cell h m) → World → Prop) (Ix : Code → List (Cell h m) → World → Prop) (hI : ∀ s A B, I s A → Cel A B → I s B) (hIx : ∀ c s A B, Ix c s A → Cel A B → Ix c s B) (h0 : I [] w)
    (hround : ∀ (l : Nat) (x : Cell h m) (W : World) (K : Act → World → Prop), (∀ a', (∀ (l' : Nat) (pre : List (Cell h m)) (W' : World), I pre W' → Ext w0 W' → pre.length < h * m → body.wpIn (Fence.wide.inRound l') (n - 1 - 1) Try.prog
        (ownPostG w.heap.size (Below w0.heap.size) (fun s W => I s W ∧ Ext w0 W) (fun c s W => Ix c s W ∧ Ext w0 W) (pre ++ [x]) W') a' W') → K a' W) →
      assign.wpIn (Fence.wide.inRound l) (n - 1 - 1) Try.prog (Exit.then K (fun _ _ _ => False)) { tmps := (ps.zip (encC x)).foldl (fun t (p, v) => t.setIfInBounds p v) a.tmps, defers := [] } W)
    (hdone : ∀ (D : Nat) (W : World), w.heap.size ≤ D → I (allCells h m) W → Ext w0 W → W.heap[D]? = some (.deferred (some [])) → Q .normal { a with defers := { target := .collected D, args := #[] } :: a.defers } W)
    (hstop : ∀ (D : Nat) (c : Code) (pre : List (Cell h m)) (W : World), w.heap.size ≤ D → Ix c pre W → Ext w0 W → W.heap[D]? = some (.deferred (some [])) → c.wpIn Fence.wide n Try.prog Q { a with defers := { target := .collected D, args := #[] } :: a.defers } W) :
    (Code.rangeFunc g ps assign body).wpIn Fence.wide n Try.prog Q a w := by
  have hsz := hw.size
  have hE : ∀ {A B : World} {row : Option Nat}, Ext w0 A → A.grownBy B row → (∀ r, row = some r → w.heap.size ≤ r ∧ ∃ o : Obj, A.heap[r]? = some o ∧ o.isCells = false) → Ext w0 B := fun e hg' hr' => e.grownNew hg' (fun k hk => Nat.le_trans hsz (hr' k hk).1)
  refine wpIn_rangeFunc_ownH rfl (by omega) (gf := 75) (lb := #[.pointer (some ⟨Bs, 0, none⟩)]) hg (wide_fn _) (enters_of Try.func75 (by kernel_rfl) rfl)
    (cells_stops Fence.wide (n - 1) (wide_fn _) rfl (by omega) Bs h m aT cT t w0 w ht hr.1 hr.2 hh4 hm4 hw hBs) belowK_t (belowK_b hsz) (Below.refl _ _) (fun _ => hps.symm)
    (fun s W => I s W ∧ Ext w0 W) (fun c s W => Ix c s W ∧ Ext w0 W)
    (fun s A B row hs hg' hr' => ⟨hI s A B hs.1 (Cel.of_turn hg' (fun r e => (hr' r e).2)), hE hs.2 hg' hr'⟩)
    (fun c s A B row hs hg' hr' => ⟨hIx c s A B hs.1 (Cel.of_turn hg' (fun r e => (hr' r e).2)), hE hs.2 hg' hr'⟩)
    ⟨h0, hw⟩
    (fun x a' _ => ∀ (l' : Nat) (pre : List (Cell h m)) (W' : World), I pre W' → Ext w0 W' → pre.length < h * m → body.wpIn (Fence.wide.inRound l') (n - 1 - 1) Try.prog
        (ownPostG w.heap.size (Below w0.heap.size) (fun s W => I s W ∧ Ext w0 W) (fun c s W => Ix c s W ∧ Ext w0 W) (pre ++ [x]) W') a' W')
    (fun x a' => ownFrom_pure _ _) ?_ ?_ ?_ ?_
  · intro l pre x W K hi hK
    exact hround l x W K (fun a' ha' => hK a' W (KeepsFrom.refl _ _) (Below.refl _ _) hi ha')
  · intro l pre x a' W _ _ hi hax hlt
    exact hax l pre W hi.1 hi.2 hlt
  · rintro D xs W hD rfl hi hK
    exact hdone D W hD hi.1 hi.2 hK
  · intro D c pre W hD _ hi hK
    exact hstop D c pre W hD hi.1 hi.2 hK
end Go.Proofs.Ytelcdjbbcffliaa
