/- Slices of persons that are appended. -/
import Derived.Test.YtkldaapcpnpdfaaPerMath
import Derived.Test.YtkldaapcpnpdfaaPerExact
import Derived.Test.YtkldaapcpnpdfaaPerDraw3
import Derived.Test.YtkldaapcpnpdfaaOwn
namespace Go.Proofs.Ytkldaapcpnpdfaa
open Go.RowKit Go.DC
theorem Pers.take {w : World} {a : Option Addr} {ps : List Per} (h : Pers w a ps) (n : Nat) : Pers w a (ps.take n) := fun k hk => by
  have hk' : k < ps.length := by simp at hk; omega
  obtain ⟨b, off, ha, h0, h1, h2, h3⟩ := h k hk'
  have e : (ps.take n)[k] = ps[k] := List.getElem_take
  rw [e]
  exact ⟨b, off, ha, h0, h1, h2, h3⟩
theorem pcells_take (ps : List Per) (k : Nat) : pcells (ps.take k) = (pcells ps).take (4 * k) := by
  induction ps generalizing k with
  | nil => simp [pcells]
  | cons p ps ih =>
    cases k with
    | zero => simp [pcells]
    | succ k => simp only [List.take_succ_cons, pcells, List.flatMap_cons] at ih ⊢; rw [ih]; simp [Per.cells, Nat.mul_add]
theorem pcells_drop (ps : List Per) (k : Nat) : pcells (ps.drop k) = (pcells ps).drop (4 * k) := by
  induction ps generalizing k with
  | nil => simp [pcells]
  | cons p ps ih =>
    cases k with
    | zero => simp [pcells]
    | succ k => simp only [List.drop_succ_cons, pcells, List.flatMap_cons] at ih ⊢; rw [ih]; simp [Per.cells, Nat.mul_add]

theorem Pers.cell {w : World} {a : Option Addr} {ps : List Per} (h : Pers w a ps) {j : Nat} {u : Value} (hu : (pcells ps)[j]? = some u) : ∃ b off, a = some ⟨b, off, none⟩ ∧ w.cell? ⟨b, off + j, none⟩ = some u := by
  have hj : j < ps.length * 4 := by rw [← pcells_length]; exact (List.getElem?_eq_some_iff.1 hu).1
  have hk : j / 4 < ps.length := by omega
  obtain ⟨b, off, ha, h0, h1, h2, h3⟩ := h (j / 4) hk
  obtain ⟨p0, p1, p2, p3⟩ := pcells_at ps (j / 4) hk
  refine ⟨b, off, ha, ?_⟩
  rcases (by omega : j = j / 4 * 4 ∨ j = j / 4 * 4 + 1 ∨ j = j / 4 * 4 + 2 ∨ j = j / 4 * 4 + 3) with e | e | e | e
  · rw [← e] at p0 h0; rw [hu] at p0; cases p0; exact h0
  · rw [← e] at p1; rw [hu] at p1; cases p1; rw [Nat.add_assoc, ← e] at h1; exact h1
  · rw [← e] at p2; rw [hu] at p2; cases p2; rw [Nat.add_assoc, ← e] at h2; exact h2
  · rw [← e] at p3; rw [hu] at p3; cases p3; rw [Nat.add_assoc, ← e] at h3; exact h3
theorem Pers.news_take {w : World} {a : Option Addr} {ps : List Per} (h : Pers w a ps) (k : Nat) : ∀ j u, (pcells (ps.take k))[j]? = some u → ∃ ad, a = some ad ∧ w.cell? (ad.add j) = some u := fun j u hu => by
  have hu' : (pcells ps)[j]? = some u := by
    rw [pcells_take, List.getElem?_take] at hu
    split at hu
    · exact hu
    · cases hu
  obtain ⟨b, off, ha, hc⟩ := h.cell hu'
  exact ⟨_, ha, by rw [add_none]; exact hc⟩
theorem Pers.news_drop {w : World} {a : Option Addr} {ps : List Per} (h : Pers w a ps) (k c : Nat) (hc : ps.length ≤ c) : ∀ j u, (pcells (ps.drop k))[j]? = some u → ∃ ad, (if c = k then a else Option.map (fun x => x.add (k * 4)) a) = some ad ∧ w.cell? (ad.add j) = some u := fun j u hu => by
  have hne : c ≠ k := fun e => by
    rw [List.drop_eq_nil_of_le (by omega)] at hu
    simp [pcells] at hu
  rw [pcells_drop, List.getElem?_drop] at hu
  obtain ⟨b, off, ha, hcell⟩ := h.cell hu
  refine ⟨⟨b, off + k * 4, none⟩, by rw [if_neg hne, ha]; simp [add_none], ?_⟩
  rw [add_none]
  rw [← hcell]; congr 2; omega


theorem OwnP.nil {w : World} {B : Nat} {a : Option Addr} {n c : Nat} {ps : List Per} (h : OwnP w B (.slice a n c) ps) : a = none → c = 0 := by
  intro ha
  subst ha
  rcases h.2 with ⟨h1, _⟩ | ⟨g, cap, cur, h1, _⟩
  · cases h1; rfl
  · cases h1

/-- A slice whose cells are those of some persons. -/
def Src (w : World) (aa : Option Addr) (m c : Nat) (ps : List Per) : Prop :=
  ps.length = m ∧ (aa = none → c = 0) ∧ ∀ j u, (pcells ps)[j]? = some u → ∃ ad, aa = some ad ∧ w.cell? (ad.add j) = some u
theorem Src.ext {w w' : World} {aa : Option Addr} {m c : Nat} {ps : List Per} (h : Src w aa m c ps) (e : Ext w w') : Src w' aa m c ps :=
  ⟨h.1, h.2.1, fun j u hu => by obtain ⟨ad, ha, hc⟩ := h.2.2 j u hu; exact ⟨ad, ha, e.cell hc⟩⟩
theorem src_all {w : World} {a : Option Addr} {c : Nat} {ps : List Per} (h : Pers w a ps) (hn : a = none → c = 0) : Src w a ps.length c ps :=
  ⟨rfl, hn, fun j u hu => by obtain ⟨b, off, ha, hc⟩ := h.cell hu; exact ⟨_, ha, by rw [add_none]; exact hc⟩⟩
theorem src_take {w : World} {a : Option Addr} {c : Nat} {ps : List Per} (h : Pers w a ps) (hn : a = none → c = 0) {k : Nat} (hk : k ≤ ps.length) : Src w a k c (ps.take k) :=
  ⟨by rw [List.length_take]; omega, hn, h.news_take k⟩
theorem src_drop {w : World} {a : Option Addr} {c : Nat} {ps : List Per} (h : Pers w a ps) (hn : a = none → c = 0) (hc : ps.length ≤ c) {k : Nat} (_hk : k ≤ ps.length) :
    Src w (if c = k then a else Option.map (fun x => x.add (k * 4)) a) (ps.length - k) (c - k) (ps.drop k) :=
  ⟨by rw [List.length_drop], fun e => by
    have : a = none := by
      split at e
      · exact e
      · cases a with
        | none => rfl
        | some x => simp at e
    rw [hn this]; simp, h.news_drop k c hc⟩
/-- 'list[k:]', whatever its address is. -/
theorem cut_slice {w : World} {a : Option Addr} {c : Nat} {ps : List Per} (h : Pers w a ps) (hn : a = none → c = 0) (hc : ps.length ≤ c) {k : Nat} (hk : k ≤ ps.length) :
    ∃ aa, (∀ wx, (Instr.slice 23 (.slice a ps.length c) (some (.int .i64 k)) none none).run Try.prog wx = .ok (.slice aa (ps.length - k) (c - k)) wx) ∧ Src w aa (ps.length - k) (c - k) (ps.drop k) := by
  refine ⟨_, fun wx => ?_, src_drop h hn hc hk⟩
  have h1 : (k : Int) ≤ (ps.length : Int) := by omega
  simp [go_sem, h1]
theorem src_new (w : World) (p : Per) : Src (w.alloc (.cells #[.int .i64 p.area, .int .i64 p.job, .int .i64 p.sex, .int .i64 p.pay] 36)) (some ⟨w.heap.size, 0, none⟩) 1 1 [p] :=
  ⟨rfl, (fun h => by cases h), fun j u hu => ⟨_, rfl, new_cells4 w p _ j u (by simpa [pcells] using hu)⟩⟩

theorem wp_pers {w : World} {o : Oper} {a : Act} {K : Act → World → Prop} {Q : Exit → Act → World → Prop} (s x : Operand)
    (ho : o.op = .call { callee := .builtin .append, args := #[s, x], argTypes := #[23, 23] })
    (B : Nat) (v : Value) (qs : List Per) (hs : a.eval s = v) (own : OwnP w B v qs) (aa : Option Addr) (m c : Nat) (ps : List Per) (hx : a.eval x = .slice aa m c) (src : Src w aa m c ps)
    (hb : qs.length + m ≤ 10000) (hB : B ≤ w.heap.size)
    (h : ∀ v' w', OwnP w' B v' (qs ++ ps) → w.grownBy w' v.ownBlock → K (a.put o.dst v') w') : o.wp Try.prog a w K Q := by
  obtain ⟨i0, hi, hz0, hz1, hz2⟩ := info_parts Try.dcInfoPer2
  refine wp_append_any s x 23 ho B 36 i0 (.agg #[.int .i64 0, .int .i64 0, .int .i64 0, .int .i64 0]) 4 32 Try.underlying23 hi hz0 hz1 hz2 rfl (by decide) v qs.length (pcells qs) hs own aa m c (pcells ps) hx src.2.1 ?_ src.2.2 (one_pcells ps) ?_ ?_ hB ?_
  · rw [pcells_length, src.1]
  · unfold maxLen; omega
  · omega
  · intro v' w' h1 h2 _ _
    refine h v' w' ?_ h2
    unfold OwnP
    rw [pcells_append, List.length_append, src.1]
    exact h1
theorem wpList_pers {w : World} {ops : Array Oper} {rest : List Oper} {o : Oper} {a : Act} {Q : Exit → Act → World → Prop} (hgd : o.guard = none) (s x : Operand)
    (ho : o.op = .call { callee := .builtin .append, args := #[s, x], argTypes := #[23, 23] })
    (B : Nat) (v : Value) (qs : List Per) (hs : a.eval s = v) (own : OwnP w B v qs) (aa : Option Addr) (m c : Nat) (ps : List Per) (hx : a.eval x = .slice aa m c) (src : Src w aa m c ps)
    (hb : qs.length + m ≤ 10000) (hB : B ≤ w.heap.size)
    (h : ∀ v' w', OwnP w' B v' (qs ++ ps) → w.grownBy w' v.ownBlock → wpList Try.prog ops Q rest (a.put o.dst v') w') : wpList Try.prog ops Q (o :: rest) a w :=
  wpList_plain hgd fun _ hK => wp_pers s x ho B v qs hs own aa m c ps hx src hb hB fun v' w' h2 h3 => hK _ _ (h v' w' h2 h3)
theorem step_pers {w : World} {ops : Array Oper} {o : Oper} {a : Act} {K : Act → World → Prop} {Q : Exit → Act → World → Prop} {E : Prop} (hgd : o.guard = none) (s x : Operand)
    (ho : o.op = .call { callee := .builtin .append, args := #[s, x], argTypes := #[23, 23] })
    (B : Nat) (v : Value) (qs : List Per) (hs : a.eval s = v) (own : OwnP w B v qs) (aa : Option Addr) (m c : Nat) (ps : List Per) (hx : a.eval x = .slice aa m c) (src : Src w aa m c ps)
    (hb : qs.length + m ≤ 10000) (hB : B ≤ w.heap.size)
    (h : ∀ v' w', OwnP w' B v' (qs ++ ps) → w.grownBy w' v.ownBlock → K (a.put o.dst v') w') :
    if Region.wanted o (yielded ops a.tmps) = true then Oper.wp Try.prog o a w K Q else E := by
  have hw : Region.wanted o (yielded ops a.tmps) = true := by simp [Region.wanted, hgd]
  rw [if_pos hw]
  exact wp_pers s x ho B v qs hs own aa m c ps hx src hb hB h
/-- What lies ahead of B is as it was. -/
theorem own_grown {w w1 w2 : World} {B : Nat} {v : Value} {ps : List Per} (e : Ext w w1) (own : OwnP w1 B v ps) (hB : w.heap.size ≤ B) (g : w1.grownBy w2 v.ownBlock) : Ext w w2 :=
  e.grownNew g (fun k hk => Nat.le_trans hB (own.lt k hk).1)
theorem ownP_made (w : World) : OwnP (w.alloc (.cells #[] 36)) w.heap.size (.slice (some ⟨w.heap.size, 0, none⟩) 0 0) [] := World.ownsRow_made w #[] 0 (Nat.le_refl _) (by decide) rfl
end Go.Proofs.Ytkldaapcpnpdfaa
