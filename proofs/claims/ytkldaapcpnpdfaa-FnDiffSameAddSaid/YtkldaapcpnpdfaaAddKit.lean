/- Slices of persons that are apart from one another, and what an append does to them. -/
import Derived.Test.YtkldaapcpnpdfaaPerSrc
import Derived.Test.YtkldaapcpnpdfaaAddInv
namespace Go.Proofs.Ytkldaapcpnpdfaa
open Go.RowKit Go.DC
/-- Two values that do not share a block. -/
def Apart (u v : Value) : Prop := ∀ b, u.ownBlock = some b → v.ownBlock ≠ some b
theorem Apart.symm {u v : Value} (h : Apart u v) : Apart v u := fun b h1 h2 => h b h2 h1
/-- Owned slices of persons, apart from one another. -/
structure Live (w : World) (B : Nat) (l : List (Value × List Per)) : Prop where
  own : ∀ x ∈ l, OwnP w B x.1 x.2
  apart : l.Pairwise fun x y => Apart x.1 y.1
theorem Live.nil (w : World) (B : Nat) : Live w B [] := ⟨fun x hx => (by cases hx), List.Pairwise.nil⟩
theorem Live.perm {w : World} {B : Nat} {l l' : List (Value × List Per)} (h : Live w B l) (p : l.Perm l') : Live w B l' :=
  ⟨fun x hx => h.own x (p.mem_iff.2 hx), (p.pairwise_iff (fun hxy => Apart.symm hxy)).1 h.apart⟩
theorem Live.sub {w : World} {B : Nat} {l l' : List (Value × List Per)} (h : Live w B l) (s : l'.Sublist l) : Live w B l' :=
  ⟨fun x hx => h.own x (s.subset hx), h.apart.sublist s⟩
theorem Live.ext {w w' : World} {B : Nat} {l : List (Value × List Per)} (h : Live w B l) (e : Ext w w') : Live w' B l :=
  ⟨fun x hx => (h.own x hx).ext e, h.apart⟩
theorem Live.new {w w' : World} {B : Nat} {l : List (Value × List Per)} {v : Value} {ps : List Per} (h : Live w B l) (e : Ext w w') (hB : B ≤ w.heap.size) (o : OwnP w' w.heap.size v ps) : Live w' B ((v, ps) :: l) :=
  ⟨fun x hx => by
    rcases List.mem_cons.1 hx with h1 | h1
    · rw [h1]; exact owns_base o hB
    · exact (h.own x h1).ext e, List.pairwise_cons.2 ⟨fun y hy b h1 h2 => by
      have e1 := (o.lt b h1).1
      have e2 := ((h.own y hy).lt b h2).2
      omega, h.apart⟩⟩
theorem Live.grow {w w' : World} {B : Nat} {l : List (Value × List Per)} {v v' : Value} {ps qs : List Per} (h : Live w B ((v, ps) :: l)) (g : w.grownBy w' v.ownBlock) (o : OwnP w' B v' qs) (hb : v'.ownBlock = v.ownBlock ∨ v'.ownBlock = some w.heap.size) : Live w' B ((v', qs) :: l) := by
  have hap := List.pairwise_cons.1 h.apart
  refine ⟨fun x hx => ?_, List.pairwise_cons.2 ⟨fun y hy b h1 h2 => ?_, hap.2⟩⟩
  · rcases List.mem_cons.1 hx with h1 | h1
    · rw [h1]; exact o
    · refine (h.own x (List.mem_cons_of_mem _ h1)).kept g ?_
      cases e : x.1.ownBlock with
      | none => exact .inl rfl
      | some b => exact .inr fun e2 => hap.1 x h1 b e2.symm e
  · rcases hb with hb | hb
    · exact hap.1 y hy b (by rw [← hb]; exact h1) h2
    · rw [hb] at h1
      cases h1
      have := ((h.own y (List.mem_cons_of_mem _ hy)).lt _ h2).2
      omega
theorem OwnP.src {w : World} {B : Nat} {v : Value} {ps : List Per} (h : OwnP w B v ps) : ∃ a c, v = .slice a ps.length c ∧ Src w a ps.length c ps := by
  obtain ⟨a, c, rfl, _, hp⟩ := h.pers
  exact ⟨a, c, rfl, src_all hp h.nil⟩
/-- An append of owned persons, in a region whose order is drawn. -/
theorem op_pers {w : World} {ops : Array Oper} {i : Nat} {o : Oper} {a : Act} {K : Act → World → Prop} {Q : Exit → Act → World → Prop} (hi : ops[i]? = some o) (hgd : o.guard = none) (s x : Operand)
    (ho : o.op = .call { callee := .builtin .append, args := #[s, x], argTypes := #[23, 23] })
    (B : Nat) (v : Value) (qs : List Per) (hs : a.eval s = v) (own : OwnP w B v qs) (aa : Option Addr) (m c : Nat) (ps : List Per) (hx : a.eval x = .slice aa m c) (src : Src w aa m c ps)
    (hb : qs.length + m ≤ 10000) (hB : B ≤ w.heap.size)
    (h : ∀ v' w', OwnP w' B v' (qs ++ ps) → w.grownBy w' v.ownBlock → (v'.ownBlock = v.ownBlock ∨ v'.ownBlock = some w.heap.size) → K (a.put o.dst v') w') : wpOp Try.prog ops Q i K a w := by
  obtain ⟨i0, hin, hz0, hz1, hz2⟩ := info_parts Try.dcInfoPer2
  unfold wpOp
  rw [hi]
  have hw : Region.wanted o (yielded ops a.tmps) = true := by simp [Region.wanted, hgd]
  simp only [hw, if_true]
  refine .inl (wp_append_any s x 23 ho B 36 i0 (.agg #[.int .i64 0, .int .i64 0, .int .i64 0, .int .i64 0]) 4 32 Try.underlying23 hin hz0 hz1 hz2 rfl (by decide) v qs.length (pcells qs) hs own aa m c (pcells ps) hx src.2.1 ?_ src.2.2 (one_pcells ps) ?_ ?_ hB ?_)
  · rw [pcells_length, src.1]
  · unfold maxLen; omega
  · omega
  · intro v' w' h1 h2 _ h4
    refine h v' w' ?_ h2 h4
    unfold OwnP
    rw [pcells_append, List.length_append, src.1]
    exact h1
/-- What the slots hold. -/
def slot (a : Act) (k : Nat) : Value := a.eval (.tmp k)
theorem slot_put {a : Act} {d k : Nat} {v : Value} (hd : d < a.tmps.size) : slot (a.put (some d) v) k = if k = d then v else slot a k := by
  unfold slot Act.put Act.eval
  simp only [Array.getD_eq_getD_getElem?, Array.getElem?_setIfInBounds]
  by_cases e : d = k
  · subst e; simp [hd]
  · have e2 : ¬ k = d := fun h => e h.symm
    simp [e, e2]
theorem size_put {a : Act} {d : Option Tmp} {v : Value} : (a.put d v).tmps.size = a.tmps.size := by
  cases d <;> simp [Act.put]
theorem defers_put {a : Act} {d : Option Tmp} {v : Value} : (a.put d v).defers = a.defers := by
  cases d <;> rfl
/-- What one chain of appends holds. -/
def held (b0 b2 b4 b5 : Bool) (v0 v2 v4 v5 : Value) (ps : List Per) (p : Per) : List (Value × List Per) :=
  if b5 then [(v5, ps ++ [p])] else (if b2 then [(v2, ps)] else if b0 then [(v0, [])] else []) ++ (if b4 then [(v4, [p])] else [])
section
variable {w w' : World} {B : Nat} {b0 b4 : Bool} {v v0 v2 v4 v5 : Value} {ps : List Per} {p : Per} {R : List (Value × List Per)}
theorem held0 (h : Live w B (held false false b4 false v0 v2 v4 v5 ps p ++ R)) (e : Ext w w') (hB : B ≤ w.heap.size) (o : OwnP w' w.heap.size v []) : Live w' B (held true false b4 false v v2 v4 v5 ps p ++ R) := by
  have := h.new e hB o
  simpa [held] using this
theorem held4 {b2 : Bool} (h : Live w B (held b0 b2 false false v0 v2 v4 v5 ps p ++ R)) (e : Ext w w') (hB : B ≤ w.heap.size) (o : OwnP w' w.heap.size v [p]) : Live w' B (held b0 b2 true false v0 v2 v v5 ps p ++ R) := by
  have := h.new e hB o
  unfold held at this ⊢
  simp only [Bool.false_eq_true, if_false, if_true, List.append_nil] at this ⊢
  refine this.perm ?_
  rw [List.append_assoc]
  exact List.perm_middle.symm
theorem held2 (h : Live w B (held true false b4 false v0 v2 v4 v5 ps p ++ R)) (g : w.grownBy w' v0.ownBlock) (o : OwnP w' B v ps) (hb : v.ownBlock = v0.ownBlock ∨ v.ownBlock = some w.heap.size) : Live w' B (held true true b4 false v0 v v4 v5 ps p ++ R) := by
  have h2 : Live w B ((v0, []) :: ((if b4 then [(v4, [p])] else []) ++ R)) := by simpa [held] using h
  have := h2.grow g o hb
  simpa [held] using this
theorem held5 (h : Live w B (held b0 true true false v0 v2 v4 v5 ps p ++ R)) (g : w.grownBy w' v2.ownBlock) (o : OwnP w' B v (ps ++ [p])) (hb : v.ownBlock = v2.ownBlock ∨ v.ownBlock = some w.heap.size) : Live w' B (held b0 true true true v0 v2 v4 v ps p ++ R) := by
  have h2 : Live w B ((v2, ps) :: (v4, [p]) :: R) := by simpa [held] using h
  have := (h2.grow g o hb).sub (l' := (v, ps ++ [p]) :: R) ((List.sublist_cons_self _ _).cons_cons _)
  simpa [held] using this
theorem held_v0 (h : Live w B (held true false b4 false v0 v2 v4 v5 ps p ++ R)) : OwnP w B v0 [] := h.own (v0, []) (by simp [held])
theorem held_v2 (h : Live w B (held b0 true b4 false v0 v2 v4 v5 ps p ++ R)) : OwnP w B v2 ps := h.own (v2, ps) (by simp [held])
theorem held_v4 {b2 : Bool} (h : Live w B (held b0 b2 true false v0 v2 v4 v5 ps p ++ R)) : OwnP w B v4 [p] := h.own (v4, [p]) (by simp [held])
theorem held_v5 {b2 : Bool} (h : Live w B (held b0 b2 b4 true v0 v2 v4 v5 ps p ++ R)) : OwnP w B v5 (ps ++ [p]) := h.own (v5, ps ++ [p]) (by simp [held])
end
section
variable {P : Program} {ops : Array Oper} {Q : Exit → Act → World → Prop} {i : Nat} {o : Oper} {K : Act → World → Prop} {a : Act} {w w' : World} {d : Tmp} {ρ : Operand → Value}
theorem op_start (hi : ops[i]? = some o) (hg : o.guard = none) (h : o.wp P a w K Q) : wpOp P ops Q i K a w := by
  unfold wpOp
  rw [hi]
  have hw : Region.wanted o (yielded ops a.tmps) = true := by simp [Region.wanted, hg]
  simp only [hw, if_true]
  exact .inl h
theorem op_value {v : Value} (hi : ops[i]? = some o) (hg : o.guard = none) (hd : o.dst = some d) (h : (execOp a.eval o).run P w = .ok (.value v) w') (hK : K (a.put (some d) v) w') : wpOp P ops Q i K a w := by
  refine op_start hi hg ?_
  unfold Oper.wp
  rw [h]
  rw [← hd] at hK
  exact hK
theorem run_move (x : Operand) (hop : o.op = .move x) : (execOp ρ o).run P w = .ok (.value (ρ x)) w := by
  simp [execOp, hop, go_sem]
theorem run_assign (x : Operand) (hop : o.op = .assign x) : (execOp ρ o).run P w = .ok (.value (ρ x)) w := by
  simp [execOp, hop, go_sem]
theorem run_add (x y : Operand) (t : TypeId) (u v : Int) (hop : o.op = .binOp .add t x y t) (hx : ρ x = .int .i64 u) (hy : ρ y = .int .i64 v) (hb : -9223372036854775808 ≤ u + v ∧ u + v ≤ 9223372036854775807) : (execOp ρ o).run P w = .ok (.value (.int .i64 (u + v))) w := by
  simp [execOp, hop, hx, hy, go_sem]
  exact IntWalk.i64_in _ (by omega)
theorem run_same (x y : Operand) (t : TypeId) (u v : Int) (hop : o.op = .binOp .eql t x y t) (hx : ρ x = .int .i64 u) (hy : ρ y = .int .i64 v) : (execOp ρ o).run P w = .ok (.value (.bool (u == v))) w := by
  simp [execOp, hop, hx, hy, go_sem]
end
section
variable {o : Oper} {w : World} {ρ : Operand → Value}
theorem run_made (hop : o.op = .buildSlice 23 0 #[]) : (execOp ρ o).run Try.prog w = .ok (.value (.slice (some ⟨w.heap.size, 0, none⟩) 0 0)) (w.alloc (.cells #[] 36)) := by
  simp [execOp, hop, go_sem]
theorem run_one (x : Operand) (p : Per) (hop : o.op = .buildSlice 23 1 #[(0, x)]) (hx : ρ x = p.val) : (execOp ρ o).run Try.prog w = .ok (.value (.slice (some ⟨w.heap.size, 0, none⟩) 1 1)) (w.alloc (.cells #[.int .i64 p.area, .int .i64 p.job, .int .i64 p.sex, .int .i64 p.pay] 36)) := by
  simp [execOp, hop, hx, Per.val, go_sem]
theorem run_box (x : Operand) (p : Per) (g : Nat) (hop : o.op = .load 36 x) (hx : ρ x = .pointer (some ⟨g, 0, none⟩)) (c0 : w.cell? ⟨g, 0, none⟩ = some (.int .i64 p.area)) (c1 : w.cell? ⟨g, 1, none⟩ = some (.int .i64 p.job)) (c2 : w.cell? ⟨g, 2, none⟩ = some (.int .i64 p.sex)) (c3 : w.cell? ⟨g, 3, none⟩ = some (.int .i64 p.pay)) : (execOp ρ o).run Try.prog w = .ok (.value p.val) w := by
  simp [execOp, hop, hx, Per.val, go_sem, c0, c1, c2, c3]
theorem own_single (w : World) (p : Per) : OwnP (w.alloc (.cells #[.int .i64 p.area, .int .i64 p.job, .int .i64 p.sex, .int .i64 p.pay] 36)) w.heap.size (.slice (some ⟨w.heap.size, 0, none⟩) 1 1) [p] :=
  ⟨rfl, .inr ⟨w.heap.size, 1, _, rfl, Nat.le_refl _, heap_alloc_new w _, Nat.le_refl _, by decide, rfl, by simp [pcells, Per.cells]⟩⟩
end
end Go.Proofs.Ytkldaapcpnpdfaa
