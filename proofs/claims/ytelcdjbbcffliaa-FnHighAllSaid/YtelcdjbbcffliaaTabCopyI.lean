/- Copies of rows and tables. -/
import Derived.Test.YtelcdjbbcffliaaTabImpl2
namespace Go.Proofs.Ytelcdjbbcffliaa
open Go.RowKit Go.DC
theorem Try.dcElemI : (Try.prog.info? 3).map (fun i => (i.zero, i.size, i.bytes)) = some (some (.int .i64 0), 1, 8) := by kernel_rfl
theorem Try.dcRowI : (Try.prog.info? 28).map (fun i => (i.zero, i.size, i.bytes)) = some (some (.slice none 0 0), 1, 24) := by kernel_rfl
theorem oneI (zs : List Int) : ∀ u ∈ zs.map encI, u.oneCell' = true := by
  intro u hu
  obtain ⟨z, _, rfl⟩ := List.mem_map.1 hu
  rfl

/-- append of cells onto a row of one's own. -/
theorem wpList_rowI {w : World} {ops : Array Oper} {rest : List Oper} {o : Oper} {a : Act} {Q : Exit → Act → World → Prop} (hgd : o.guard = none) (s x : Operand)
    (ho : o.op = .call { callee := .builtin .append, args := #[s, x], argTypes := #[28, 28] })
    (B : Nat) (v : Value) (ys : List Int) (hs : a.eval s = v) (own : w.ownsRow B 3 1 v ys.length (ys.map encI)) (aa : Option Addr) (c : Nat) (zs : List Int) (hx : a.eval x = .slice aa zs.length c) (hn : aa = none → c = 0) (hr : IRow w aa zs)
    (hb : ys.length + zs.length ≤ 10000000) (hB : B ≤ w.heap.size)
    (h : ∀ v' w', w'.ownsRow B 3 1 v' (ys ++ zs).length ((ys ++ zs).map encI) → w.grownBy w' v.ownBlock → (v' = .slice none 0 0 ↔ v = .slice none 0 0 ∧ zs.length = 0) → (v'.ownBlock = v.ownBlock ∨ v'.ownBlock = some w.heap.size) → wpList Try.prog ops Q rest (a.put o.dst v') w') : wpList Try.prog ops Q (o :: rest) a w := by
  obtain ⟨i0, hi, hz0, hz1, hz2⟩ := info_parts Try.dcElemI
  refine wpList_append_any hgd s x 28 ho B 3 i0 (.int .i64 0) 1 8 Try.underlying28 hi hz0 hz1 hz2 rfl (by decide) v ys.length (ys.map encI) hs own aa zs.length c (zs.map encI) hx hn (by simp) hr.news (oneI zs) (by unfold maxLen; omega) (by omega) hB ?_
  intro v' w' h1 h2 h3 h4
  exact h v' w' (by simpa using h1) h2 h3 h4
/-- append of a row onto a table of one's own. -/
theorem wpList_pushI {w : World} {ops : Array Oper} {rest : List Oper} {o : Oper} {a : Act} {Q : Exit → Act → World → Prop} (hgd : o.guard = none) (s x : Operand)
    (ho : o.op = .call { callee := .builtin .append, args := #[s, x], argTypes := #[23, 23] })
    (B : Nat) (v : Value) (vs : List Value) (t : List (List Int)) (hs : a.eval s = v) (own : OwnI w B v vs t) (g : Nat) (hx : a.eval x = .slice (some ⟨g, 0, none⟩) 1 1) (u : Value) (hu1 : u.oneCell' = true) (hg : w.cell? ⟨g, 0, none⟩ = some u) (zs : List Int)
    (hu : w.ownsRow B 3 1 u zs.length (zs.map encI)) (hne : ∀ b, u.ownBlock = some b → v.ownBlock ≠ some b) (hap : ∀ l (_ : l < vs.length), ∀ b, u.ownBlock = some b → vs[l].ownBlock ≠ some b)
    (hb : t.length ≤ 10000000) (hB : B ≤ w.heap.size)
    (h : ∀ v' w', OwnI w' B v' (vs ++ [u]) (t ++ [zs]) → w.grownBy w' v.ownBlock → (v' = .slice none 0 0 ↔ v = .slice none 0 0 ∧ 1 = 0) → wpList Try.prog ops Q rest (a.put o.dst v') w') : wpList Try.prog ops Q (o :: rest) a w := by
  obtain ⟨i0, hi, hz0, hz1, hz2⟩ := info_parts Try.dcRowI
  refine wpList_append_any hgd s x 23 ho B 28 i0 (.slice none 0 0) 1 24 Try.underlying23 hi hz0 hz1 hz2 rfl (by decide) v t.length vs hs own.outer (some ⟨g, 0, none⟩) 1 1 [u] hx (fun h => by cases h) rfl ?_ (by simpa using hu1) (by unfold maxLen; omega) (by omega) hB ?_
  · intro j y hj
    cases j with
    | zero => simp at hj; subst hj; exact ⟨_, rfl, by simpa [Addr.add] using hg⟩
    | succ j => simp at hj
  · intro v' w' h1 h2 h3 h4
    exact h v' w' (own.push hu hne hap h1 h2 (h4.imp_right fun e => ⟨_, e, Nat.le_refl _⟩)) h2 h3

end Go.Proofs.Ytelcdjbbcffliaa
