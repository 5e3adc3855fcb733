/- The region of FnDiffSameAdd that draws its order: what each operation keeps. -/
import Derived.Test.YtkldaapcpnpdfaaAddKit
namespace Go.Proofs.Ytkldaapcpnpdfaa
open Go.RowKit Go.DC
noncomputable def addCode : Code := ((Try.f7.body.bind (regionAt 11)).getD .skip)
noncomputable def addOps : Array Oper := match addCode with
  | .region _ ops _ => ops
  | _ => #[]
noncomputable def opAt (i : Nat) : Oper := addOps.getD i default
theorem addCode_is : addCode = .region 11 addOps true := by kernel_rfl
theorem addOps_size : addOps.size = 17 := by kernel_rfl
theorem opAt_is (i : Nat) (h : addOps[i]? = some (opAt i)) : addOps[i]? = some (opAt i) := h
/-- The slot that an operation writes. -/
def dstOf (i : Nat) : Nat := if i = 16 then 4 else 62 + i
/-- What it holds then. -/
def valAt (va vb : Value) (p : Per) (out : Int) : Nat → Option Value
  | 1 => some va
  | 3 => some p.val
  | 7 => some vb
  | 9 => some p.val
  | 12 => some (.int .i64 (out + 1))
  | 13 => some (.int .i64 out)
  | 14 => some (.int .i64 (out + 1))
  | 15 => some (.bool true)
  | 16 => some (.bool true)
  | _ => none
theorem valAt_lt {va vb : Value} {p : Per} {out : Int} {j : Nat} {x : Value} (h : valAt va vb p out j = some x) : j < 17 := by
  unfold valAt at h
  split at h <;> first
    | omega
    | cases h
/-- The slices of both chains. -/
def heldL (l : Array Bool) (a : Act) (ps qs : List Per) (p : Per) : List (Value × List Per) :=
  held (done l 0) (done l 2) (done l 4) (done l 5) (slot a 62) (slot a 64) (slot a 66) (slot a 67) ps p ++ held (done l 6) (done l 8) (done l 10) (done l 11) (slot a 68) (slot a 70) (slot a 72) (slot a 73) qs p
theorem heldL_same {l : Array Bool} {a : Act} {ps qs : List Per} {p : Per} {i : Nat} {v : Value} (hi : i < 17) (hl : l.size = addOps.size) (ha : a.tmps.size = 78) (hn : i ≠ 0 ∧ i ≠ 2 ∧ i ≠ 4 ∧ i ≠ 5 ∧ i ≠ 6 ∧ i ≠ 8 ∧ i ≠ 10 ∧ i ≠ 11) :
    heldL (l.setIfInBounds i true) (a.put (some (dstOf i)) v) ps qs p = heldL l a ps qs p := by
  rw [addOps_size] at hl
  have hd : ∀ k, k ≠ i → done (l.setIfInBounds i true) k = done l k := fun k hk => by
    rw [done_set (by omega)]; simp [hk]
  have hs : ∀ k, k ≠ dstOf i → slot (a.put (some (dstOf i)) v) k = slot a k := fun k hk => by
    rw [slot_put (by rw [ha]; unfold dstOf; split <;> omega), if_neg hk]
  have hne : ∀ k, k < 17 → k ≠ i → k ≠ 16 → 62 + k ≠ dstOf i := fun k hk hki h16 => by unfold dstOf; split <;> omega
  obtain ⟨h0, h2, h4, h5, h6, h8, h10, h11⟩ := hn
  unfold heldL
  rw [hd 0 (Ne.symm h0), hd 2 (Ne.symm h2), hd 4 (Ne.symm h4), hd 5 (Ne.symm h5), hd 6 (Ne.symm h6), hd 8 (Ne.symm h8), hd 10 (Ne.symm h10), hd 11 (Ne.symm h11)]
  rw [hs 62 (hne 0 (by decide) (Ne.symm h0) (by decide)), hs 64 (hne 2 (by decide) (Ne.symm h2) (by decide)), hs 66 (hne 4 (by decide) (Ne.symm h4) (by decide)), hs 67 (hne 5 (by decide) (Ne.symm h5) (by decide)), hs 68 (hne 6 (by decide) (Ne.symm h6) (by decide)), hs 70 (hne 8 (by decide) (Ne.symm h8) (by decide)), hs 72 (hne 10 (by decide) (Ne.symm h10) (by decide)), hs 73 (hne 11 (by decide) (Ne.symm h11) (by decide))]
/-- What holds whatever has been done. -/
structure AddI (w3 : World) (a0 : Act) (va vb : Value) (ps qs : List Per) (p : Per) (out : Int) (l : Array Bool) (a : Act) (w : World) : Prop where
  size : a.tmps.size = 78
  dfs : a.defers = a0.defers
  low : ∀ k, k < 62 → k ≠ 4 → slot a k = slot a0 k
  ext : Ext w3 w
  live : Live w w3.heap.size (heldL l a ps qs p)
  vals : ∀ j x, valAt va vb p out j = some x → done l j = true → slot a (dstOf j) = x
theorem AddI.step {w3 : World} {a0 : Act} {va vb : Value} {ps qs : List Per} {p : Per} {out : Int} {l : Array Bool} {a : Act} {w : World} (h : AddI w3 a0 va vb ps qs p out l a w) {i : Nat} (hi : i < 17) (hl : l.size = addOps.size) {v : Value} {w' : World} (e : Ext w3 w') (hv : ∀ x, valAt va vb p out i = some x → v = x)
    (hlv : Live w' w3.heap.size (heldL (l.setIfInBounds i true) (a.put (some (dstOf i)) v) ps qs p)) : AddI w3 a0 va vb ps qs p out (l.setIfInBounds i true) (a.put (some (dstOf i)) v) w' where
  size := size_put.trans h.size
  dfs := defers_put.trans h.dfs
  low := fun k hk h4 => by
    rw [slot_put (by rw [h.size]; unfold dstOf; split <;> omega), if_neg (by unfold dstOf; split <;> omega)]
    exact h.low k hk h4
  ext := e
  live := hlv
  vals := fun j x hj hd => by
    have hj17 := valAt_lt hj
    rw [slot_put (by rw [h.size]; unfold dstOf; split <;> omega)]
    rw [done_set (by rw [hl, addOps_size]; omega)] at hd
    by_cases e : j = i
    · subst e; rw [if_pos rfl]; exact hv x hj
    · rw [if_neg (by unfold dstOf; split <;> split <;> omega)]
      exact h.vals j x hj (by simpa [e] using hd)
/-- The frame, written out. -/
theorem AddI.frame {w3 : World} {a0 : Act} {va vb : Value} {ps qs : List Per} {p : Per} {out : Int} {l : Array Bool} {a : Act} {w : World} (h : AddI w3 a0 va vb ps qs p out l a w) : a = ⟨((List.range 78).map fun k => if k < 62 ∧ k ≠ 4 then slot a0 k else slot a k).toArray, a0.defers⟩ := by
  have e : a.tmps = ((List.range 78).map fun k => if k < 62 ∧ k ≠ 4 then slot a0 k else slot a k).toArray := by
    apply Array.ext
    · simp [h.size]
    · intro i h1 h2
      have hs : slot a i = a.tmps[i] := by simp [slot, Act.eval, Array.getD, h1]
      simp only [List.getElem_toArray, List.getElem_map, List.getElem_range]
      split
      · rename_i hk
        rw [← hs]; exact h.low i hk.1 hk.2
      · exact hs.symm
  have d := h.dfs
  cases a with
  | mk t df =>
    simp only at e d
    rw [← d]
    exact congrArg (fun z => (⟨z, df⟩ : Act)) e
/-- What the region finds. -/
structure AddF (w3 : World) (a0 : Act) (va vb : Value) (ps qs : List Per) (p : Per) (out : Int) (g : Nat) (aa : Option Addr) (ca : Nat) (ab : Option Addr) (cb : Nat) : Prop where
  eva : va = .slice aa ps.length ca
  evb : vb = .slice ab qs.length cb
  srcps : Src w3 aa ps.length ca ps
  srcqs : Src w3 ab qs.length cb qs
  psl : ps.length ≤ 40
  qsl : qs.length ≤ 40
  s5 : slot a0 5 = va
  s6 : slot a0 6 = vb
  s7 : slot a0 7 = .int .i64 out
  s9 : slot a0 9 = .pointer (some ⟨g, 0, none⟩)
  c0 : w3.cell? ⟨g, 0, none⟩ = some (.int .i64 p.area)
  c1 : w3.cell? ⟨g, 1, none⟩ = some (.int .i64 p.job)
  c2 : w3.cell? ⟨g, 2, none⟩ = some (.int .i64 p.sex)
  c3 : w3.cell? ⟨g, 3, none⟩ = some (.int .i64 p.pay)
  o0 : 0 ≤ out
  o1 : out ≤ 40
  same : diffSame (ps ++ [p]) (qs ++ [p]) = out + 1
/-- What one operation must keep. -/
def AddStep (P : Program) (w3 : World) (a0 : Act) (va vb : Value) (ps qs : List Per) (p : Per) (out : Int) (i : Nat) : Prop :=
  ∀ (Q : Exit → Act → World → Prop) l a w, l.size = addOps.size → done l i = false → (∀ j, depB .any addOps i j = true → done l j = true) → (∀ k j, depB .any addOps k j = true → done l k = true → done l j = true) → AddI w3 a0 va vb ps qs p out l a w →
    wpOp P addOps Q i (AddI w3 a0 va vb ps qs p out (l.setIfInBounds i true)) a w
theorem nd {x y : Bool} (h : x = true → y = true) (hy : y = false) : x = false := by
  cases x with
  | false => rfl
  | true => rw [h rfl] at hy; cases hy
theorem run_same2 {o : Oper} {w : World} {ρ : Operand → Value} {u v : Value} {t : TypeId} (hop : o.op = .call { callee := .value (.func 18), args := #[.tmp 67, .tmp 73], argTypes := #[t, t] }) (hx : ρ (.tmp 67) = u) (hy : ρ (.tmp 73) = v) (hf : ρ (.func 18) = .func (.func 18) #[] #[]) : (execOp ρ o).run Try.prog w = .ok (.enter 18 #[u, v]) w := by
  simp [execOp, hop, hx, hy, hf, go_sem]
theorem add_op0 {w3 : World} {a0 : Act} {va vb : Value} {ps qs : List Per} {p : Per} {out : Int} {g : Nat} {aa : Option Addr} {ca : Nat} {ab : Option Addr} {cb : Nat} (_F : AddF w3 a0 va vb ps qs p out g aa ca ab cb) : AddStep Try.prog w3 a0 va vb ps qs p out 0 := fun Q l a w hs hfr _hd hc hI => by
  have f2 : done l 2 = false := nd (hc 2 0 (by kernel_rfl)) hfr
  have f5 : done l 5 = false := nd (hc 5 2 (by kernel_rfl)) f2
  have f0 := hfr
  have hL : Live w w3.heap.size (held false false (done l 4) false (slot a 62) (slot a 64) (slot a 66) (slot a 67) ps p ++ held (done l 6) (done l 8) (done l 10) (done l 11) (slot a 68) (slot a 70) (slot a 72) (slot a 73) qs p) := by
    have h := hI.live
    unfold heldL at h
    rw [f0, f2, f5] at h
    exact h
  have hE : heldL (l.setIfInBounds 0 true) (a.put (some (dstOf 0)) (Value.slice (some ⟨w.heap.size, 0, none⟩) 0 0)) ps qs p = held true false (done l 4) false (Value.slice (some ⟨w.heap.size, 0, none⟩) 0 0) (slot a 64) (slot a 66) (slot a 67) ps p ++ held (done l 6) (done l 8) (done l 10) (done l 11) (slot a 68) (slot a 70) (slot a 72) (slot a 73) qs p := by
    unfold heldL
    simp [done_set, slot_put, dstOf, hs, hI.size, addOps_size, f2, f5]
  refine op_value (opAt_is 0 (by kernel_rfl)) (by kernel_rfl) (show (opAt 0).dst = some 62 by kernel_rfl) (run_made (by kernel_rfl)) ?_
  refine hI.step (i := 0) (by decide) hs (hI.ext.alloc _) (fun x hx => by cases hx) ?_
  rw [hE]
  exact (held0 hL ((Ext.refl w).alloc _) hI.ext.size (ownP_made w))
theorem add_op1 {w3 : World} {a0 : Act} {va vb : Value} {ps qs : List Per} {p : Per} {out : Int} {g : Nat} {aa : Option Addr} {ca : Nat} {ab : Option Addr} {cb : Nat} (F : AddF w3 a0 va vb ps qs p out g aa ca ab cb) : AddStep Try.prog w3 a0 va vb ps qs p out 1 := fun Q l a w hs _hfr _hd _hc hI => by
  refine op_value (opAt_is 1 (by kernel_rfl)) (by kernel_rfl) (show (opAt 1).dst = some 63 by kernel_rfl) (run_move (.tmp 5) (by kernel_rfl)) ?_
  exact hI.step (i := 1) (by decide) hs hI.ext (fun x hx => by cases hx; exact (hI.low 5 (by decide) (by decide)).trans F.s5) (by rw [heldL_same (by decide) hs hI.size (by decide)]; exact hI.live)
theorem add_op2 {w3 : World} {a0 : Act} {va vb : Value} {ps qs : List Per} {p : Per} {out : Int} {g : Nat} {aa : Option Addr} {ca : Nat} {ab : Option Addr} {cb : Nat} (F : AddF w3 a0 va vb ps qs p out g aa ca ab cb) : AddStep Try.prog w3 a0 va vb ps qs p out 2 := fun Q l a w hs hfr hd hc hI => by
  have f5 : done l 5 = false := nd (hc 5 2 (by kernel_rfl)) hfr
  have t0 : done l 0 = true := hd 0 (by kernel_rfl)
  have t1 : done l 1 = true := hd 1 (by kernel_rfl)
  have f2 := hfr
  have hL : Live w w3.heap.size (held true false (done l 4) false (slot a 62) (slot a 64) (slot a 66) (slot a 67) ps p ++ held (done l 6) (done l 8) (done l 10) (done l 11) (slot a 68) (slot a 70) (slot a 72) (slot a 73) qs p) := by
    have h := hI.live
    unfold heldL at h
    rw [t0, f2, f5] at h
    exact h
  have own := held_v0 hL
  have hx : a.eval (.tmp 63) = va := hI.vals 1 _ rfl t1
  refine op_pers (opAt_is 2 (by kernel_rfl)) (by kernel_rfl) (.tmp 62) (.tmp 63) (by kernel_rfl) w3.heap.size _ [] rfl own _ _ _ ps (hx.trans F.eva) (F.srcps.ext hI.ext) (by have := F.psl; simp; omega) hI.ext.size ?_
  intro v w2 o g hb
  rw [show (opAt 2).dst = some 64 by kernel_rfl]
  have hE : heldL (l.setIfInBounds 2 true) (a.put (some (dstOf 2)) v) ps qs p = held true true (done l 4) false (slot a 62) v (slot a 66) (slot a 67) ps p ++ held (done l 6) (done l 8) (done l 10) (done l 11) (slot a 68) (slot a 70) (slot a 72) (slot a 73) qs p := by
    unfold heldL
    simp [done_set, slot_put, dstOf, hs, hI.size, addOps_size, t0, f5]
  refine hI.step (i := 2) (by decide) hs (own_grown hI.ext own (Nat.le_refl _) g) (fun x hx => by cases hx) ?_
  rw [hE]
  exact (held2 hL g (by simpa using o) hb)
theorem add_op3 {w3 : World} {a0 : Act} {va vb : Value} {ps qs : List Per} {p : Per} {out : Int} {g : Nat} {aa : Option Addr} {ca : Nat} {ab : Option Addr} {cb : Nat} (F : AddF w3 a0 va vb ps qs p out g aa ca ab cb) : AddStep Try.prog w3 a0 va vb ps qs p out 3 := fun Q l a w hs _hfr _hd _hc hI => by
  refine op_value (opAt_is 3 (by kernel_rfl)) (by kernel_rfl) (show (opAt 3).dst = some 65 by kernel_rfl) (run_box (.tmp 9) p g (by kernel_rfl) ((hI.low 9 (by decide) (by decide)).trans F.s9) (hI.ext.cell F.c0) (hI.ext.cell F.c1) (hI.ext.cell F.c2) (hI.ext.cell F.c3)) ?_
  exact hI.step (i := 3) (by decide) hs hI.ext (fun x hx => by cases hx; rfl) (by rw [heldL_same (by decide) hs hI.size (by decide)]; exact hI.live)
theorem add_op4 {w3 : World} {a0 : Act} {va vb : Value} {ps qs : List Per} {p : Per} {out : Int} {g : Nat} {aa : Option Addr} {ca : Nat} {ab : Option Addr} {cb : Nat} (_F : AddF w3 a0 va vb ps qs p out g aa ca ab cb) : AddStep Try.prog w3 a0 va vb ps qs p out 4 := fun Q l a w hs hfr hd hc hI => by
  have f5 : done l 5 = false := nd (hc 5 4 (by kernel_rfl)) hfr
  have t3 : done l 3 = true := hd 3 (by kernel_rfl)
  have f4 := hfr
  have hL : Live w w3.heap.size (held (done l 0) (done l 2) false false (slot a 62) (slot a 64) (slot a 66) (slot a 67) ps p ++ held (done l 6) (done l 8) (done l 10) (done l 11) (slot a 68) (slot a 70) (slot a 72) (slot a 73) qs p) := by
    have h := hI.live
    unfold heldL at h
    rw [f4, f5] at h
    exact h
  have hE : heldL (l.setIfInBounds 4 true) (a.put (some (dstOf 4)) (Value.slice (some ⟨w.heap.size, 0, none⟩) 1 1)) ps qs p = held (done l 0) (done l 2) true false (slot a 62) (slot a 64) (Value.slice (some ⟨w.heap.size, 0, none⟩) 1 1) (slot a 67) ps p ++ held (done l 6) (done l 8) (done l 10) (done l 11) (slot a 68) (slot a 70) (slot a 72) (slot a 73) qs p := by
    unfold heldL
    simp [done_set, slot_put, dstOf, hs, hI.size, addOps_size, f5]
  refine op_value (opAt_is 4 (by kernel_rfl)) (by kernel_rfl) (show (opAt 4).dst = some 66 by kernel_rfl) (run_one (.tmp 65) p (by kernel_rfl) (hI.vals 3 _ rfl t3)) ?_
  refine hI.step (i := 4) (by decide) hs (hI.ext.alloc _) (fun x hx => by cases hx) ?_
  rw [hE]
  exact (held4 hL ((Ext.refl w).alloc _) hI.ext.size (own_single w p))
theorem add_op5 {w3 : World} {a0 : Act} {va vb : Value} {ps qs : List Per} {p : Per} {out : Int} {g : Nat} {aa : Option Addr} {ca : Nat} {ab : Option Addr} {cb : Nat} (F : AddF w3 a0 va vb ps qs p out g aa ca ab cb) : AddStep Try.prog w3 a0 va vb ps qs p out 5 := fun Q l a w hs hfr hd _hc hI => by
  have t2 : done l 2 = true := hd 2 (by kernel_rfl)
  have t4 : done l 4 = true := hd 4 (by kernel_rfl)
  have f5 := hfr
  have hL : Live w w3.heap.size (held (done l 0) true true false (slot a 62) (slot a 64) (slot a 66) (slot a 67) ps p ++ held (done l 6) (done l 8) (done l 10) (done l 11) (slot a 68) (slot a 70) (slot a 72) (slot a 73) qs p) := by
    have h := hI.live
    unfold heldL at h
    rw [t2, t4, f5] at h
    exact h
  have own := held_v2 hL
  have own4 := held_v4 hL
  obtain ⟨aa, c, hx, src⟩ := own4.src
  refine op_pers (opAt_is 5 (by kernel_rfl)) (by kernel_rfl) (.tmp 64) (.tmp 66) (by kernel_rfl) w3.heap.size _ ps rfl own _ _ _ [p] hx src (by have := F.psl; simp; omega) hI.ext.size ?_
  intro v w2 o g hb
  rw [show (opAt 5).dst = some 67 by kernel_rfl]
  have hE : heldL (l.setIfInBounds 5 true) (a.put (some (dstOf 5)) v) ps qs p = held (done l 0) true true true (slot a 62) (slot a 64) (slot a 66) v ps p ++ held (done l 6) (done l 8) (done l 10) (done l 11) (slot a 68) (slot a 70) (slot a 72) (slot a 73) qs p := by
    unfold heldL
    simp [done_set, slot_put, dstOf, hs, hI.size, addOps_size, t2, t4]
  refine hI.step (i := 5) (by decide) hs (own_grown hI.ext own (Nat.le_refl _) g) (fun x hx => by cases hx) ?_
  rw [hE]
  exact (held5 hL g o hb)
theorem add_op6 {w3 : World} {a0 : Act} {va vb : Value} {ps qs : List Per} {p : Per} {out : Int} {g : Nat} {aa : Option Addr} {ca : Nat} {ab : Option Addr} {cb : Nat} (_F : AddF w3 a0 va vb ps qs p out g aa ca ab cb) : AddStep Try.prog w3 a0 va vb ps qs p out 6 := fun Q l a w hs hfr _hd hc hI => by
  have f8 : done l 8 = false := nd (hc 8 6 (by kernel_rfl)) hfr
  have f11 : done l 11 = false := nd (hc 11 8 (by kernel_rfl)) f8
  have f6 := hfr
  have hL : Live w w3.heap.size (held false false (done l 10) false (slot a 68) (slot a 70) (slot a 72) (slot a 73) qs p ++ held (done l 0) (done l 2) (done l 4) (done l 5) (slot a 62) (slot a 64) (slot a 66) (slot a 67) ps p) := by
    have h := hI.live
    unfold heldL at h
    rw [f6, f8, f11] at h
    exact h.perm List.perm_append_comm
  have hE : heldL (l.setIfInBounds 6 true) (a.put (some (dstOf 6)) (Value.slice (some ⟨w.heap.size, 0, none⟩) 0 0)) ps qs p = held (done l 0) (done l 2) (done l 4) (done l 5) (slot a 62) (slot a 64) (slot a 66) (slot a 67) ps p ++ held true false (done l 10) false (Value.slice (some ⟨w.heap.size, 0, none⟩) 0 0) (slot a 70) (slot a 72) (slot a 73) qs p := by
    unfold heldL
    simp [done_set, slot_put, dstOf, hs, hI.size, addOps_size, f8, f11]
  refine op_value (opAt_is 6 (by kernel_rfl)) (by kernel_rfl) (show (opAt 6).dst = some 68 by kernel_rfl) (run_made (by kernel_rfl)) ?_
  refine hI.step (i := 6) (by decide) hs (hI.ext.alloc _) (fun x hx => by cases hx) ?_
  rw [hE]
  exact (held0 hL ((Ext.refl w).alloc _) hI.ext.size (ownP_made w)).perm List.perm_append_comm
theorem add_op7 {w3 : World} {a0 : Act} {va vb : Value} {ps qs : List Per} {p : Per} {out : Int} {g : Nat} {aa : Option Addr} {ca : Nat} {ab : Option Addr} {cb : Nat} (F : AddF w3 a0 va vb ps qs p out g aa ca ab cb) : AddStep Try.prog w3 a0 va vb ps qs p out 7 := fun Q l a w hs _hfr _hd _hc hI => by
  refine op_value (opAt_is 7 (by kernel_rfl)) (by kernel_rfl) (show (opAt 7).dst = some 69 by kernel_rfl) (run_move (.tmp 6) (by kernel_rfl)) ?_
  exact hI.step (i := 7) (by decide) hs hI.ext (fun x hx => by cases hx; exact (hI.low 6 (by decide) (by decide)).trans F.s6) (by rw [heldL_same (by decide) hs hI.size (by decide)]; exact hI.live)
theorem add_op8 {w3 : World} {a0 : Act} {va vb : Value} {ps qs : List Per} {p : Per} {out : Int} {g : Nat} {aa : Option Addr} {ca : Nat} {ab : Option Addr} {cb : Nat} (F : AddF w3 a0 va vb ps qs p out g aa ca ab cb) : AddStep Try.prog w3 a0 va vb ps qs p out 8 := fun Q l a w hs hfr hd hc hI => by
  have f11 : done l 11 = false := nd (hc 11 8 (by kernel_rfl)) hfr
  have t6 : done l 6 = true := hd 6 (by kernel_rfl)
  have t7 : done l 7 = true := hd 7 (by kernel_rfl)
  have f8 := hfr
  have hL : Live w w3.heap.size (held true false (done l 10) false (slot a 68) (slot a 70) (slot a 72) (slot a 73) qs p ++ held (done l 0) (done l 2) (done l 4) (done l 5) (slot a 62) (slot a 64) (slot a 66) (slot a 67) ps p) := by
    have h := hI.live
    unfold heldL at h
    rw [t6, f8, f11] at h
    exact h.perm List.perm_append_comm
  have own := held_v0 hL
  have hx : a.eval (.tmp 69) = vb := hI.vals 7 _ rfl t7
  refine op_pers (opAt_is 8 (by kernel_rfl)) (by kernel_rfl) (.tmp 68) (.tmp 69) (by kernel_rfl) w3.heap.size _ [] rfl own _ _ _ qs (hx.trans F.evb) (F.srcqs.ext hI.ext) (by have := F.qsl; simp; omega) hI.ext.size ?_
  intro v w2 o g hb
  rw [show (opAt 8).dst = some 70 by kernel_rfl]
  have hE : heldL (l.setIfInBounds 8 true) (a.put (some (dstOf 8)) v) ps qs p = held (done l 0) (done l 2) (done l 4) (done l 5) (slot a 62) (slot a 64) (slot a 66) (slot a 67) ps p ++ held true true (done l 10) false (slot a 68) v (slot a 72) (slot a 73) qs p := by
    unfold heldL
    simp [done_set, slot_put, dstOf, hs, hI.size, addOps_size, t6, f11]
  refine hI.step (i := 8) (by decide) hs (own_grown hI.ext own (Nat.le_refl _) g) (fun x hx => by cases hx) ?_
  rw [hE]
  exact (held2 hL g (by simpa using o) hb).perm List.perm_append_comm
theorem add_op9 {w3 : World} {a0 : Act} {va vb : Value} {ps qs : List Per} {p : Per} {out : Int} {g : Nat} {aa : Option Addr} {ca : Nat} {ab : Option Addr} {cb : Nat} (F : AddF w3 a0 va vb ps qs p out g aa ca ab cb) : AddStep Try.prog w3 a0 va vb ps qs p out 9 := fun Q l a w hs _hfr _hd _hc hI => by
  refine op_value (opAt_is 9 (by kernel_rfl)) (by kernel_rfl) (show (opAt 9).dst = some 71 by kernel_rfl) (run_box (.tmp 9) p g (by kernel_rfl) ((hI.low 9 (by decide) (by decide)).trans F.s9) (hI.ext.cell F.c0) (hI.ext.cell F.c1) (hI.ext.cell F.c2) (hI.ext.cell F.c3)) ?_
  exact hI.step (i := 9) (by decide) hs hI.ext (fun x hx => by cases hx; rfl) (by rw [heldL_same (by decide) hs hI.size (by decide)]; exact hI.live)
theorem add_op10 {w3 : World} {a0 : Act} {va vb : Value} {ps qs : List Per} {p : Per} {out : Int} {g : Nat} {aa : Option Addr} {ca : Nat} {ab : Option Addr} {cb : Nat} (_F : AddF w3 a0 va vb ps qs p out g aa ca ab cb) : AddStep Try.prog w3 a0 va vb ps qs p out 10 := fun Q l a w hs hfr hd hc hI => by
  have f11 : done l 11 = false := nd (hc 11 10 (by kernel_rfl)) hfr
  have t9 : done l 9 = true := hd 9 (by kernel_rfl)
  have f10 := hfr
  have hL : Live w w3.heap.size (held (done l 6) (done l 8) false false (slot a 68) (slot a 70) (slot a 72) (slot a 73) qs p ++ held (done l 0) (done l 2) (done l 4) (done l 5) (slot a 62) (slot a 64) (slot a 66) (slot a 67) ps p) := by
    have h := hI.live
    unfold heldL at h
    rw [f10, f11] at h
    exact h.perm List.perm_append_comm
  have hE : heldL (l.setIfInBounds 10 true) (a.put (some (dstOf 10)) (Value.slice (some ⟨w.heap.size, 0, none⟩) 1 1)) ps qs p = held (done l 0) (done l 2) (done l 4) (done l 5) (slot a 62) (slot a 64) (slot a 66) (slot a 67) ps p ++ held (done l 6) (done l 8) true false (slot a 68) (slot a 70) (Value.slice (some ⟨w.heap.size, 0, none⟩) 1 1) (slot a 73) qs p := by
    unfold heldL
    simp [done_set, slot_put, dstOf, hs, hI.size, addOps_size, f11]
  refine op_value (opAt_is 10 (by kernel_rfl)) (by kernel_rfl) (show (opAt 10).dst = some 72 by kernel_rfl) (run_one (.tmp 71) p (by kernel_rfl) (hI.vals 9 _ rfl t9)) ?_
  refine hI.step (i := 10) (by decide) hs (hI.ext.alloc _) (fun x hx => by cases hx) ?_
  rw [hE]
  exact (held4 hL ((Ext.refl w).alloc _) hI.ext.size (own_single w p)).perm List.perm_append_comm
theorem add_op11 {w3 : World} {a0 : Act} {va vb : Value} {ps qs : List Per} {p : Per} {out : Int} {g : Nat} {aa : Option Addr} {ca : Nat} {ab : Option Addr} {cb : Nat} (F : AddF w3 a0 va vb ps qs p out g aa ca ab cb) : AddStep Try.prog w3 a0 va vb ps qs p out 11 := fun Q l a w hs hfr hd _hc hI => by
  have t8 : done l 8 = true := hd 8 (by kernel_rfl)
  have t10 : done l 10 = true := hd 10 (by kernel_rfl)
  have f11 := hfr
  have hL : Live w w3.heap.size (held (done l 6) true true false (slot a 68) (slot a 70) (slot a 72) (slot a 73) qs p ++ held (done l 0) (done l 2) (done l 4) (done l 5) (slot a 62) (slot a 64) (slot a 66) (slot a 67) ps p) := by
    have h := hI.live
    unfold heldL at h
    rw [t8, t10, f11] at h
    exact h.perm List.perm_append_comm
  have own := held_v2 hL
  have own4 := held_v4 hL
  obtain ⟨aa, c, hx, src⟩ := own4.src
  refine op_pers (opAt_is 11 (by kernel_rfl)) (by kernel_rfl) (.tmp 70) (.tmp 72) (by kernel_rfl) w3.heap.size _ qs rfl own _ _ _ [p] hx src (by have := F.qsl; simp; omega) hI.ext.size ?_
  intro v w2 o g hb
  rw [show (opAt 11).dst = some 73 by kernel_rfl]
  have hE : heldL (l.setIfInBounds 11 true) (a.put (some (dstOf 11)) v) ps qs p = held (done l 0) (done l 2) (done l 4) (done l 5) (slot a 62) (slot a 64) (slot a 66) (slot a 67) ps p ++ held (done l 6) true true true (slot a 68) (slot a 70) (slot a 72) v qs p := by
    unfold heldL
    simp [done_set, slot_put, dstOf, hs, hI.size, addOps_size, t8, t10]
  refine hI.step (i := 11) (by decide) hs (own_grown hI.ext own (Nat.le_refl _) g) (fun x hx => by cases hx) ?_
  rw [hE]
  exact (held5 hL g o hb).perm List.perm_append_comm
theorem add_op12 {w3 : World} {a0 : Act} {va vb : Value} {ps qs : List Per} {p : Per} {out : Int} {g : Nat} {aa : Option Addr} {ca : Nat} {ab : Option Addr} {cb : Nat} (F : AddF w3 a0 va vb ps qs p out g aa ca ab cb) : AddStep Try.prog w3 a0 va vb ps qs p out 12 := fun Q l a w hs _hfr hd _hc hI => by
  have t5 : done l 5 = true := hd 5 (by kernel_rfl)
  have t11 : done l 11 = true := hd 11 (by kernel_rfl)
  have h := hI.live
  unfold heldL at h
  rw [t5, t11] at h
  have oA := held_v5 h
  have oB := held_v5 (h.perm List.perm_append_comm)
  obtain ⟨aa, ca, hxa, _, pa⟩ := oA.pers
  obtain ⟨ab, cb, hxb, _, pb⟩ := oB.pers
  refine op_start (opAt_is 12 (by kernel_rfl)) (by kernel_rfl) ?_
  have hrun : (execOp a.eval (opAt 12)).run Try.prog w = .ok (.enter 18 #[.slice aa (ps ++ [p]).length ca, .slice ab (qs ++ [p]).length cb]) w := run_same2 (t := 23) (by kernel_rfl) hxa hxb rfl
  unfold Oper.wp
  rw [hrun, Oper.upon_enter]
  refine (DiffSame_any aa ab ca cb (ps ++ [p]) (qs ++ [p]) w pa pb (by have := F.psl; simp; omega) (by have := F.qsl; simp; omega)).mono ?_
  rintro e w2 ⟨rfl, e2⟩
  rw [F.same]
  show AddI _ _ _ _ _ _ _ _ _ (a.put (opAt 12).dst _) _
  rw [show (opAt 12).dst = some 74 by kernel_rfl]
  exact hI.step (i := 12) (by decide) hs (hI.ext.trans e2) (fun x hx => by cases hx; rfl) (by rw [heldL_same (by decide) hs hI.size (by decide)]; exact hI.live.ext e2)
theorem add_op13 {w3 : World} {a0 : Act} {va vb : Value} {ps qs : List Per} {p : Per} {out : Int} {g : Nat} {aa : Option Addr} {ca : Nat} {ab : Option Addr} {cb : Nat} (F : AddF w3 a0 va vb ps qs p out g aa ca ab cb) : AddStep Try.prog w3 a0 va vb ps qs p out 13 := fun Q l a w hs _hfr _hd _hc hI => by
  refine op_value (opAt_is 13 (by kernel_rfl)) (by kernel_rfl) (show (opAt 13).dst = some 75 by kernel_rfl) (run_move (.tmp 7) (by kernel_rfl)) ?_
  exact hI.step (i := 13) (by decide) hs hI.ext (fun x hx => by cases hx; exact (hI.low 7 (by decide) (by decide)).trans F.s7) (by rw [heldL_same (by decide) hs hI.size (by decide)]; exact hI.live)
theorem add_op14 {w3 : World} {a0 : Act} {va vb : Value} {ps qs : List Per} {p : Per} {out : Int} {g : Nat} {aa : Option Addr} {ca : Nat} {ab : Option Addr} {cb : Nat} (F : AddF w3 a0 va vb ps qs p out g aa ca ab cb) : AddStep Try.prog w3 a0 va vb ps qs p out 14 := fun Q l a w hs _hfr hd _hc hI => by
  have t13 : done l 13 = true := hd 13 (by kernel_rfl)
  refine op_value (opAt_is 14 (by kernel_rfl)) (by kernel_rfl) (show (opAt 14).dst = some 76 by kernel_rfl) (run_add (.tmp 75) (.const (.int .i64 1)) 3 out 1 (by kernel_rfl) (hI.vals 13 _ rfl t13) rfl (by have := F.o0; have := F.o1; omega)) ?_
  exact hI.step (i := 14) (by decide) hs hI.ext (fun x hx => by cases hx; rfl) (by rw [heldL_same (by decide) hs hI.size (by decide)]; exact hI.live)
theorem add_op15 {w3 : World} {a0 : Act} {va vb : Value} {ps qs : List Per} {p : Per} {out : Int} {g : Nat} {aa : Option Addr} {ca : Nat} {ab : Option Addr} {cb : Nat} (_F : AddF w3 a0 va vb ps qs p out g aa ca ab cb) : AddStep Try.prog w3 a0 va vb ps qs p out 15 := fun Q l a w hs _hfr hd _hc hI => by
  have t12 : done l 12 = true := hd 12 (by kernel_rfl)
  have t14 : done l 14 = true := hd 14 (by kernel_rfl)
  refine op_value (opAt_is 15 (by kernel_rfl)) (by kernel_rfl) (show (opAt 15).dst = some 77 by kernel_rfl) (run_same (.tmp 74) (.tmp 76) 3 (out + 1) (out + 1) (by kernel_rfl) (hI.vals 12 _ rfl t12) (hI.vals 14 _ rfl t14)) ?_
  exact hI.step (i := 15) (by decide) hs hI.ext (fun x hx => by cases hx; simp) (by rw [heldL_same (by decide) hs hI.size (by decide)]; exact hI.live)
theorem add_op16 {w3 : World} {a0 : Act} {va vb : Value} {ps qs : List Per} {p : Per} {out : Int} {g : Nat} {aa : Option Addr} {ca : Nat} {ab : Option Addr} {cb : Nat} (_F : AddF w3 a0 va vb ps qs p out g aa ca ab cb) : AddStep Try.prog w3 a0 va vb ps qs p out 16 := fun Q l a w hs _hfr hd _hc hI => by
  have t15 : done l 15 = true := hd 15 (by kernel_rfl)
  refine op_value (opAt_is 16 (by kernel_rfl)) (by kernel_rfl) (show (opAt 16).dst = some 4 by kernel_rfl) (run_assign (.tmp 77) (by kernel_rfl)) ?_
  exact hI.step (i := 16) (by decide) hs hI.ext (fun x hx => by cases hx; exact hI.vals 15 _ rfl t15) (by rw [heldL_same (by decide) hs hI.size (by decide)]; exact hI.live)
theorem add_all {w3 : World} {a0 : Act} {va vb : Value} {ps qs : List Per} {p : Per} {out : Int} {g : Nat} {aa : Option Addr} {ca : Nat} {ab : Option Addr} {cb : Nat} (F : AddF w3 a0 va vb ps qs p out g aa ca ab cb) (Q : Exit → Act → World → Prop) (w : World) (hw : Ext w3 w) (hz : a0.tmps.size = 78) (hend : ∀ l a w', AddI w3 a0 va vb ps qs p out l a w' → slot a 4 = .bool true → Q .normal a w') : wpAny Try.prog .any addOps Q addOps.size (Array.replicate addOps.size false) a0 w := by
  refine wpAny_inv2 (J := AddI w3 a0 va vb ps qs p out) (by kernel_rfl) ?_ ?_ a0 w ?_
  · intro i l a w hs hi hfr hd hc hI
    have hi17 : i < 17 := by rw [addOps_size] at hi; exact hi
    have hcs : i = 0 ∨ i = 1 ∨ i = 2 ∨ i = 3 ∨ i = 4 ∨ i = 5 ∨ i = 6 ∨ i = 7 ∨ i = 8 ∨ i = 9 ∨ i = 10 ∨ i = 11 ∨ i = 12 ∨ i = 13 ∨ i = 14 ∨ i = 15 ∨ i = 16 := by omega
    rcases hcs with e | e | e | e | e | e | e | e | e | e | e | e | e | e | e | e | e <;> subst e
    · exact add_op0 F Q l a w hs hfr hd hc hI
    · exact add_op1 F Q l a w hs hfr hd hc hI
    · exact add_op2 F Q l a w hs hfr hd hc hI
    · exact add_op3 F Q l a w hs hfr hd hc hI
    · exact add_op4 F Q l a w hs hfr hd hc hI
    · exact add_op5 F Q l a w hs hfr hd hc hI
    · exact add_op6 F Q l a w hs hfr hd hc hI
    · exact add_op7 F Q l a w hs hfr hd hc hI
    · exact add_op8 F Q l a w hs hfr hd hc hI
    · exact add_op9 F Q l a w hs hfr hd hc hI
    · exact add_op10 F Q l a w hs hfr hd hc hI
    · exact add_op11 F Q l a w hs hfr hd hc hI
    · exact add_op12 F Q l a w hs hfr hd hc hI
    · exact add_op13 F Q l a w hs hfr hd hc hI
    · exact add_op14 F Q l a w hs hfr hd hc hI
    · exact add_op15 F Q l a w hs hfr hd hc hI
    · exact add_op16 F Q l a w hs hfr hd hc hI
  · intro l a w hall hI
    exact hend l a w hI (hI.vals 16 _ rfl (hall 16 (by rw [addOps_size]; decide)))
  · refine ⟨hz, rfl, fun _ _ _ => rfl, hw, ?_, fun j x _ h => by rw [done_none] at h; cases h⟩
    unfold heldL
    simp only [done_none]
    exact Live.nil _ _
end Go.Proofs.Ytkldaapcpnpdfaa
