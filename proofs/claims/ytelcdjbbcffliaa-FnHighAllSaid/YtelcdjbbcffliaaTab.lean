/- Tables in memory: slices of slices, read alone (TRows) or of one's own (OwnT). -/
import Derived.Test.YtelcdjbbcffliaaOwn
import Derived.Test.YtelcdjbbcffliaaOpen
namespace Go.DC
open Go.RowKit

section
variable {α : Type}

/-- A slice whose k-th element is 'enc zs[k]'. -/
def TRow (enc : α → Value) (w : World) (a : Option Addr) (zs : List α) : Prop :=
  ∀ k (h : k < zs.length), ∃ b off, a = some ⟨b, off, none⟩ ∧ w.cell? ⟨b, off + k, none⟩ = some (enc zs[k])
/-- A slice of slices. -/
def TRows (enc : α → Value) (w : World) (a : Option Addr) (t : List (List α)) : Prop :=
  ∀ k (h : k < t.length), ∃ b off ak ck, a = some ⟨b, off, none⟩ ∧ w.cell? ⟨b, off + k, none⟩ = some (.slice ak t[k].length ck) ∧ t[k].length ≤ ck ∧ (ak = none → ck = 0) ∧ TRow enc w ak t[k]

variable {enc : α → Value} {w w' : World} {a : Option Addr}
theorem TRow.ext {zs : List α} (h : TRow enc w a zs) (e : Ext w w') : TRow enc w' a zs := fun k hk => by
  obtain ⟨b, off, ha, hc⟩ := h k hk
  exact ⟨b, off, ha, e.cell hc⟩
theorem TRows.ext {t : List (List α)} (h : TRows enc w a t) (e : Ext w w') : TRows enc w' a t := fun k hk => by
  obtain ⟨b, off, ak, ck, ha, hc, hl, hn, hr⟩ := h k hk
  exact ⟨b, off, ak, ck, ha, e.cell hc, hl, hn, hr.ext e⟩

/-- What no block but row may have changed: a row of which no cell lies there. -/
theorem TRow.grown {zs : List α} {row : Option Nat} (h : TRow enc w a zs) (g : w.grownBy w' row) (hr : ∀ x, a = some x → 0 < zs.length → some x.block ≠ row) : TRow enc w' a zs := fun k hk => by
  obtain ⟨b, off, ha, hc⟩ := h k hk
  exact ⟨b, off, ha, g.cell hc (hr ⟨b, off, none⟩ ha (by omega))⟩

/-- A table of one's own: the rows' values vs, each in a block of its own, from B on. -/
structure OwnT (enc : α → Value) (te ts : TypeId) (w : World) (B : Nat) (v : Value) (vs : List Value) (t : List (List α)) : Prop where
  len : vs.length = t.length
  outer : w.ownsRow B ts 1 v t.length vs
  inner : ∀ k (h : k < t.length) (h' : k < vs.length), w.ownsRow B te 1 vs[k] t[k].length (t[k].map enc)
  apart : ∀ k l (_ : k < vs.length) (_ : l < vs.length), k ≠ l → ∀ b, vs[k].ownBlock = some b → vs[l].ownBlock ≠ some b
  away : ∀ k (_ : k < vs.length) b, v.ownBlock = some b → vs[k].ownBlock ≠ some b

variable {te ts : TypeId} {B : Nat} {v : Value} {vs : List Value} {t : List (List α)}

theorem OwnT.grown {row : Option Nat} (h : OwnT enc te ts w B v vs t) (g : w.grownBy w' row) (h0 : v.ownBlock = none ∨ v.ownBlock ≠ row) (h1 : ∀ k (_ : k < vs.length), vs[k].ownBlock = none ∨ vs[k].ownBlock ≠ row) : OwnT enc te ts w' B v vs t :=
  ⟨h.len, h.outer.kept g h0, fun k hk hk' => (h.inner k hk hk').kept g (h1 k hk'), h.apart, h.away⟩
theorem OwnT.ext (h : OwnT enc te ts w B v vs t) (e : Ext w w') : OwnT enc te ts w' B v vs t :=
  ⟨h.len, owns_ext h.outer e, fun k hk hk' => owns_ext (h.inner k hk hk') e, h.apart, h.away⟩
theorem OwnT.keep {r : Nat} (h : OwnT enc te ts w B v vs t) (e : Keep r w w') (hr : r < B) : OwnT enc te ts w' B v vs t :=
  ⟨h.len, owns_keep h.outer e hr, fun k hk hk' => owns_keep (h.inner k hk hk') e hr, h.apart, h.away⟩
theorem OwnT.base {C : Nat} (h : OwnT enc te ts w B v vs t) (hc : C ≤ B) : OwnT enc te ts w C v vs t :=
  ⟨h.len, owns_base h.outer hc, fun k hk hk' => owns_base (h.inner k hk hk') hc, h.apart, h.away⟩

theorem TRow.of_own {x : Value} {zs : List α} (h : w.ownsRow B te 1 x zs.length (zs.map enc)) : ∃ ak ck, x = .slice ak zs.length ck ∧ zs.length ≤ ck ∧ TRow enc w ak zs ∧ (ak = none → ck = 0) := by
  obtain ⟨ak, ck, hv, hc, hx⟩ := owns_cells h
  refine ⟨ak, ck, hv, hc, fun k hk => ?_, fun e => ?_⟩
  · obtain ⟨g, rfl, _, h0, _⟩ := hx k (enc zs[k]) (by simp [hk])
    exact ⟨g, 0, rfl, by simpa using h0⟩
  · subst e; subst hv
    rcases h.2 with ⟨h1, _⟩ | ⟨g, cap, cur, h1, _⟩
    · simp only [Value.slice.injEq] at h1; exact h1.2.2
    · simp at h1

/-- What a table of one's own reads as. -/
theorem OwnT.rows (h : OwnT enc te ts w B v vs t) : ∃ a c, v = .slice a t.length c ∧ t.length ≤ c ∧ TRows enc w a t ∧ (a = none → c = 0) := by
  obtain ⟨a, c, hv, hc, hx⟩ := owns_cells h.outer
  refine ⟨a, c, hv, hc, fun k hk => ?_, fun e => ?_⟩
  · have hk' : k < vs.length := by rw [h.len]; exact hk
    obtain ⟨g, rfl, _, h0, _⟩ := hx k vs[k] (List.getElem?_eq_getElem hk')
    obtain ⟨ak, ck, e, hl, hr, hn⟩ := TRow.of_own (h.inner k hk hk')
    rw [e] at h0
    exact ⟨g, 0, ak, ck, rfl, by simpa using h0, hl, hn, hr⟩
  · subst e; subst hv
    rcases h.outer.2 with ⟨h1, _⟩ | ⟨g, cap, cur, h1, _⟩
    · simp only [Value.slice.injEq] at h1; exact h1.2.2
    · simp at h1

/-- TRow k of a table of one's own, where it is not empty: the outer cell and the row's cells. -/
theorem OwnT.at (h : OwnT enc te ts w B v vs t) {k j : Nat} (hk : k < t.length) (hj : j < t[k].length) :
    ∃ o c g ck, v = .slice (some ⟨o, 0, none⟩) t.length c ∧ B ≤ o ∧ w.cell? ⟨o, k, none⟩ = some (.slice (some ⟨g, 0, none⟩) t[k].length ck) ∧ B ≤ g ∧ g ≠ o ∧ vs[k]? = some (.slice (some ⟨g, 0, none⟩) t[k].length ck)
      ∧ w.cell? ⟨g, j, none⟩ = some (enc t[k][j]) ∧ w.frozen? ⟨g, j, none⟩ = false ∧ w.frozen? ⟨o, k, none⟩ = false := by
  have hk' : k < vs.length := by rw [h.len]; exact hk
  obtain ⟨a, c, hv, hc, hx⟩ := owns_cells h.outer
  obtain ⟨o, rfl, ho, h0, f0⟩ := hx k vs[k] (List.getElem?_eq_getElem hk')
  obtain ⟨ak, ck, e, hl, hy⟩ := owns_cells (h.inner k hk hk')
  obtain ⟨g, rfl, hg, h1, f1⟩ := hy j (enc t[k][j]) (by simp [hj])
  have hne : g ≠ o := fun eq => h.away k hk' o (by rw [hv]; rfl) (by rw [e, eq]; rfl)
  exact ⟨o, c, g, ck, hv, ho, by rw [h0, e], hg, hne, by rw [List.getElem?_eq_getElem hk', e], h1, f1, f0⟩

/-- Cell (k, j) is stored. -/
theorem OwnT.set (h : OwnT enc te ts w B v vs t) {k j g n ck : Nat} (hk : k < t.length) (hg : vs[k]? = some (.slice (some ⟨g, 0, none⟩) n ck)) (z : α) :
    OwnT enc te ts (w.setCell ⟨g, j, none⟩ (enc z)) B v vs (t.set k (t[k].set j z)) := by
  have hk' : k < vs.length := by rw [h.len]; exact hk
  have hgk : vs[k] = .slice (some ⟨g, 0, none⟩) n ck := by rw [List.getElem?_eq_getElem hk'] at hg; exact Option.some.inj hg
  refine ⟨by simpa using h.len, ?_, fun l hl hl' => ?_, h.apart, h.away⟩
  · have := owns_other h.outer ⟨g, j, none⟩ (enc z) (fun b hb e => h.away k hk' b hb (by rw [hgk]; simp only at e; rw [e]; rfl))
    simpa using this
  · have hl2 : l < t.length := by simpa using hl
    by_cases e : l = k
    · subst e
      have hin := h.inner l hk hk'
      obtain ⟨ak, ck', e', _⟩ := owns_cells hin
      rw [hgk] at e'
      cases e'
      rw [hgk] at hin ⊢
      have := (World.ownsRow.stored hin j (enc z)).1
      simpa using this
    · have := owns_other (h.inner l hl2 hl') ⟨g, j, none⟩ (enc z) (fun b hb eq => h.apart l k hl' hk' e b hb (by rw [hgk]; simp only at eq; rw [eq]; rfl))
      simpa [List.getElem_set, Ne.symm e] using this

/-- The rows' blocks. -/
theorem OwnT.inner_lt (h : OwnT enc te ts w B v vs t) {k b : Nat} (hk : k < vs.length) (hb : vs[k].ownBlock = some b) : B ≤ b ∧ b < w.heap.size :=
  (h.inner k (by rw [← h.len]; exact hk) hk).lt b hb
theorem OwnT.outer_lt (h : OwnT enc te ts w B v vs t) {b : Nat} (hb : v.ownBlock = some b) : B ≤ b ∧ b < w.heap.size := h.outer.lt b hb

/-- The outer cells. -/
theorem OwnT.cellAt {o n c k : Nat} (h : OwnT enc te ts w B (.slice (some ⟨o, 0, none⟩) n c) vs t) (hk : k < t.length) :
    ∃ x, w.cell? ⟨o, k, none⟩ = some x ∧ vs[k]? = some x ∧ w.frozen? ⟨o, k, none⟩ = false := by
  obtain ⟨a', c', e', _, hx⟩ := owns_cells h.outer
  have hv : k < vs.length := by rw [h.len]; exact hk
  obtain ⟨g, eg, _, hcell, hf⟩ := hx k vs[k] (List.getElem?_eq_getElem hv)
  rw [eg] at e'
  simp only [Value.slice.injEq, Option.some.injEq, Addr.mk.injEq] at e'
  obtain ⟨⟨rfl, _⟩, _⟩ := e'
  exact ⟨_, hcell, List.getElem?_eq_getElem hv, hf⟩

/-- Row k becomes another row of one's own. -/
theorem OwnT.setRow {o n c k : Nat} {u : Value} {zs : List α} (h : OwnT enc te ts w B (.slice (some ⟨o, 0, none⟩) n c) vs t) (hk : k < t.length) (hu : w.ownsRow B te 1 u zs.length (zs.map enc))
    (hne : ∀ b, u.ownBlock = some b → b ≠ o) (hap : ∀ l (_ : l < vs.length), l ≠ k → ∀ b, u.ownBlock = some b → vs[l].ownBlock ≠ some b) :
    OwnT enc te ts (w.setCell ⟨o, k, none⟩ u) B (.slice (some ⟨o, 0, none⟩) n c) (vs.set k u) (t.set k zs) := by
  obtain ⟨a', c', e', _⟩ := owns_cells h.outer
  have hn : n = t.length := by simpa using congrArg (fun v => match v with | Value.slice _ m _ => m | _ => 0) e'
  subst hn
  refine ⟨by simpa using h.len, ?_, fun l hl hl' => ?_, fun l m hl hm hlm b hb => ?_, fun l hl b hb => ?_⟩
  · have := (World.ownsRow.stored h.outer k u).1
    simpa using this
  · have hl2 : l < t.length := by simpa using hl
    have hl3 : l < vs.length := by simpa using hl'
    by_cases e : l = k
    · subst e
      have := owns_other hu ⟨o, l, none⟩ u hne
      simpa using this
    · have := owns_other (h.inner l hl2 hl3) ⟨o, k, none⟩ u (fun b hb eq => h.away l hl3 o rfl (by simp only at eq; rw [← eq]; exact hb))
      simpa [List.getElem_set, Ne.symm e] using this
  · have hl3 : l < vs.length := by simpa using hl
    have hm3 : m < vs.length := by simpa using hm
    by_cases e : l = k
    · subst e
      simp at hb
      have e2 : m ≠ l := fun e => hlm e.symm
      simpa [List.getElem_set, e2.symm] using hap m hm3 e2 b hb
    · by_cases e2 : m = k
      · subst e2
        simp only [List.getElem_set, Ne.symm e, if_false] at hb
        simp
        intro hh
        exact hap l hl3 e b hh hb
      · simp only [List.getElem_set, Ne.symm e, Ne.symm e2, if_false] at hb ⊢
        exact h.apart l m hl3 hm3 hlm b hb
  · have hl3 : l < vs.length := by simpa using hl
    have hbo : b = o := by simpa [Value.ownBlock] using hb.symm
    subst hbo
    by_cases e : l = k
    · subst e
      simp
      intro hh
      exact hne _ hh rfl
    · simp only [List.getElem_set, Ne.symm e, if_false]
      exact h.away l hl3 b rfl

/-- Row k has grown (append), its value is stored anew. -/
theorem OwnT.regrow {w1 : World} {o n c k : Nat} {u : Value} {zs : List α} (h : OwnT enc te ts w B (.slice (some ⟨o, 0, none⟩) n c) vs t) (hk : k < t.length) (hk' : k < vs.length) (hg : w.grownBy w1 vs[k].ownBlock)
    (hu : w1.ownsRow B te 1 u zs.length (zs.map enc)) (hat : u.ownBlock = vs[k].ownBlock ∨ ∃ b, u.ownBlock = some b ∧ w.heap.size ≤ b) :
    OwnT enc te ts (w1.setCell ⟨o, k, none⟩ u) B (.slice (some ⟨o, 0, none⟩) n c) (vs.set k u) (t.set k zs) := by
  have ho : o < w.heap.size := (h.outer_lt rfl).2
  have hne : ∀ b, u.ownBlock = some b → b ≠ o := fun b hb e => by
    subst e
    rcases hat with e' | ⟨b', e', hb'⟩
    · exact h.away k hk' b rfl (e' ▸ hb)
    · rw [e'] at hb; cases hb; omega
  have hap : ∀ l (_ : l < vs.length), l ≠ k → ∀ b, u.ownBlock = some b → vs[l].ownBlock ≠ some b := fun l hl e b hb hh => by
    rcases hat with e' | ⟨b', e', hb'⟩
    · exact h.apart l k hl hk' e b hh (e' ▸ hb)
    · have := (h.inner_lt hl hh).2
      rw [e'] at hb; cases hb; omega
  obtain ⟨a', c', e', _⟩ := owns_cells h.outer
  have hn : n = t.length := by simpa using congrArg (fun v => match v with | Value.slice _ m _ => m | _ => 0) e'
  subst hn
  have hout : w1.ownsRow B ts 1 (.slice (some ⟨o, 0, none⟩) t.length c) t.length vs := h.outer.kept hg (.inr (fun e => h.away k hk' o rfl (by rw [← e]; rfl)))
  refine ⟨by simpa using h.len, ?_, fun l hl hl' => ?_, fun l m hl hm hlm b hb => ?_, fun l hl b hb => ?_⟩
  · have := (World.ownsRow.stored hout k u).1
    simpa using this
  · have hl2 : l < t.length := by simpa using hl
    have hl3 : l < vs.length := by simpa using hl'
    by_cases e : l = k
    · subst e
      have := owns_other hu ⟨o, l, none⟩ u hne
      simpa using this
    · have h1 : w1.ownsRow B te 1 vs[l] t[l].length (t[l].map enc) := (h.inner l hl2 hl3).kept hg (by
        cases hv : vs[l].ownBlock with
        | none => exact .inl rfl
        | some b => exact .inr (fun e2 => h.apart l k hl3 hk' e b hv e2.symm))
      have := owns_other h1 ⟨o, k, none⟩ u (fun b hb eq => h.away l hl3 o rfl (by simp only at eq; rw [← eq]; exact hb))
      simpa [List.getElem_set, Ne.symm e] using this
  · have hl3 : l < vs.length := by simpa using hl
    have hm3 : m < vs.length := by simpa using hm
    by_cases e : l = k
    · subst e
      simp at hb
      have e2 : m ≠ l := fun e => hlm e.symm
      simpa [List.getElem_set, e2.symm] using hap m hm3 e2 b hb
    · by_cases e2 : m = k
      · subst e2
        simp only [List.getElem_set, Ne.symm e, if_false] at hb
        simp
        intro hh
        exact hap l hl3 e b hh hb
      · simp only [List.getElem_set, Ne.symm e, Ne.symm e2, if_false] at hb ⊢
        exact h.apart l m hl3 hm3 hlm b hb
  · have hl3 : l < vs.length := by simpa using hl
    have hbo : b = o := by simpa [Value.ownBlock] using hb.symm
    subst hbo
    by_cases e : l = k
    · subst e
      simp
      intro hh
      exact hne _ hh rfl
    · simp only [List.getElem_set, Ne.symm e, if_false]
      exact h.away l hl3 b rfl

/-- A row of one's own is appended. -/
theorem OwnT.push {w1 : World} {u v' : Value} {zs : List α} (h : OwnT enc te ts w B v vs t) (hu : w.ownsRow B te 1 u zs.length (zs.map enc))
    (hne : ∀ b, u.ownBlock = some b → v.ownBlock ≠ some b) (hap : ∀ l (_ : l < vs.length), ∀ b, u.ownBlock = some b → vs[l].ownBlock ≠ some b)
    (ho : w1.ownsRow B ts 1 v' (t.length + 1) (vs ++ [u])) (hg : w.grownBy w1 v.ownBlock) (hat : v'.ownBlock = v.ownBlock ∨ ∃ b, v'.ownBlock = some b ∧ w.heap.size ≤ b) :
    OwnT enc te ts w1 B v' (vs ++ [u]) (t ++ [zs]) := by
  have hul : ∀ b, u.ownBlock = some b → b < w.heap.size := fun b hb => (hu.lt b hb).2
  refine ⟨by simp [h.len], by simpa using ho, fun l hl hl' => ?_, fun l m hl hm hlm b hb => ?_, fun l hl b hb => ?_⟩
  · by_cases e : l < t.length
    · have hl3 : l < vs.length := by rw [h.len]; exact e
      have := (h.inner l e hl3).kept hg (by
        cases hv : vs[l].ownBlock with
        | none => exact .inl rfl
        | some b => exact .inr (fun e' => h.away l hl3 b e'.symm hv))
      simpa [List.getElem_append, e, hl3] using this
    · have el : l = t.length := by simp at hl; omega
      subst el
      have := hu.kept hg (by
        cases hv : u.ownBlock with
        | none => exact .inl rfl
        | some b => exact .inr (fun e' => hne b hv e'.symm))
      simpa [List.getElem_append, h.len] using this
  · have key : ∀ (l : Nat) (hl : l < (vs ++ [u]).length), (∃ hh : l < vs.length, (vs ++ [u])[l] = vs[l]) ∨ (l = vs.length ∧ (vs ++ [u])[l] = u) := fun l hl => by
      by_cases e : l < vs.length
      · exact .inl ⟨e, by simp [e]⟩
      · have : l = vs.length := by simp at hl; omega
        subst this
        exact .inr ⟨rfl, by simp⟩
    rcases key l hl with ⟨h1, e1⟩ | ⟨h1, e1⟩ <;> rcases key m hm with ⟨h2, e2⟩ | ⟨h2, e2⟩ <;> rw [e1] at hb <;> rw [e2]
    · exact h.apart l m h1 h2 hlm b hb
    · exact fun hh => hap l h1 b hh hb
    · exact hap m h2 b hb
    · omega
  · by_cases e : l < vs.length
    · rw [show (vs ++ [u])[l] = vs[l] by simp [e]]
      rcases hat with e' | ⟨b', e', hb'⟩
      · exact h.away l e b (e' ▸ hb)
      · intro hh
        have := (h.inner_lt e hh).2
        rw [e'] at hb; cases hb; omega
    · have : l = vs.length := by simp at hl; omega
      subst this
      rw [show (vs ++ [u])[vs.length] = u by simp]
      intro hh
      rcases hat with e' | ⟨b', e', hb'⟩
      · exact hne b hh (e' ▸ hb)
      · have := hul b hh
        rw [e'] at hb; cases hb; omega

/-- What make lays: n rows that are nil. -/
theorem OwnT.made (w : World) (n : Nat) (hB : B ≤ w.heap.size) (hn : n ≤ 9223372036854775807) :
    OwnT (α := α) enc te ts (w.alloc (.cells (madeCells #[.slice none 0 0] n) ts)) B (.slice (some ⟨w.heap.size, 0, none⟩) n n) (List.replicate n (.slice none 0 0)) (List.replicate n []) := by
  refine ⟨by simp, ?_, fun k hk hk' => ?_, fun k l hk hl _ b hb => ?_, fun k hk b _ => ?_⟩
  · have := World.ownsRow_lit (base := B) (e := ts) (size := 1) w (madeCells #[.slice none 0 0] n) n hB (by unfold maxLen; omega) (by simp [size_madeCells])
    rw [toList_madeCells_one] at this
    simpa using this
  · simp only [List.getElem_replicate]
    exact World.ownsRow_nil _ _ _ _
  · simp only [List.getElem_replicate, Value.ownBlock] at hb; cases hb
  · simp [List.getElem_replicate, Value.ownBlock]
/-- What an empty literal lays. -/
theorem ownT_empty (w : World) (hB : B ≤ w.heap.size) : OwnT (α := α) enc te ts (w.alloc (.cells #[] ts)) B (.slice (some ⟨w.heap.size, 0, none⟩) 0 0) [] [] :=
  ⟨rfl, World.ownsRow_made w #[] 0 hB (by decide) rfl, fun k hk => by simp at hk, fun k l hk => by simp at hk, fun k hk => by simp at hk⟩

theorem add_none (b off j : Nat) : (⟨b, off, none⟩ : Addr).add j = ⟨b, off + j, none⟩ := by
  unfold Addr.add; split
  · rename_i h; subst h; rfl
  · rfl
/-- The cells of a row, as they are appended. -/
theorem TRow.news {zs : List α} (h : TRow enc w a zs) : ∀ j u, (zs.map enc)[j]? = some u → ∃ ad, a = some ad ∧ w.cell? (ad.add j) = some u := fun j u hu => by
  rw [List.getElem?_map] at hu
  obtain ⟨z, hz, rfl⟩ := Option.map_eq_some_iff.1 hu
  obtain ⟨hj, hz'⟩ := List.getElem?_eq_some_iff.1 hz
  obtain ⟨b, off, ha, hc⟩ := h j hj
  exact ⟨_, ha, by rw [add_none, hc, hz']⟩
/-- A new row of one's own. -/
def NewRow (enc : α → Value) (te : TypeId) (zs : List α) (w : World) (e : Ending) (w' : World) : Prop := ∃ v, e = .returned v ∧ w'.ownsRow w.heap.size te 1 v zs.length (zs.map enc) ∧ Ext w w'
/-- A new table of one's own. -/
def NewTab (enc : α → Value) (te ts : TypeId) (t : List (List α)) (w : World) (e : Ending) (w' : World) : Prop := ∃ v vs, e = .returned v ∧ OwnT enc te ts w' w.heap.size v vs t ∧ Ext w w'

theorem set_take {t : List (List α)} {k : Nat} (h : k < t.length) : (t.take k ++ List.replicate (t.length - k) []).set k t[k] = t.take (k + 1) ++ List.replicate (t.length - (k + 1)) [] := by
  apply List.ext_getElem
  · simp; omega
  · intro i h1 h2
    simp only [List.getElem_set, List.getElem_append, List.getElem_replicate, List.length_take, List.getElem_take]
    repeat' split
    all_goals first | rfl | omega | (rename_i h3 _; subst h3; rfl) | (rename_i h3; subst h3; rfl)

theorem OwnT.only {S : Nat → Prop} (h : OwnT enc te ts w B v vs t) (k : Only S w w') (h0 : ∀ b, v.ownBlock = some b → ¬ S b) (h1 : ∀ l (_ : l < vs.length) b, vs[l].ownBlock = some b → ¬ S b) : OwnT enc te ts w' B v vs t :=
  ⟨h.len, owns_only h.outer k h0, fun l hl hl' => owns_only (h.inner l hl hl') k (h1 l hl'), h.apart, h.away⟩
/-- The blocks of the rows. -/
def Blocks (vs : List Value) (b : Nat) : Prop := ∃ u ∈ vs, u.ownBlock = some b
theorem OwnT.blocks_ge (h : OwnT enc te ts w B v vs t) {b : Nat} (hb : Blocks vs b) : B ≤ b ∧ b < w.heap.size := by
  obtain ⟨u, hu, hub⟩ := hb
  obtain ⟨k, hk, rfl⟩ := List.getElem_of_mem hu
  exact h.inner_lt hk hub
end

section
variable {α : Type} {enc : α → Value} {w w' : World} {te ts : TypeId} {B : Nat} {v : Value} {vs us : List Value} {t : List (List α)}
/-- A table that was there before is kept. -/
theorem OwnT.only_ge {N : Nat} (h : OwnT enc te ts w B v vs t) (k : Only (Blocks us) w w') (hu : ∀ b, Blocks us b → N ≤ b) (hv : ∀ b, v.ownBlock = some b → b < N) (hvs : ∀ b, Blocks vs b → b < N) : OwnT enc te ts w' B v vs t :=
  h.only k (fun b hb hS => by have := hu b hS; have := hv b hb; omega) (fun l hl b hb hS => by have := hu b hS; have := hvs b ⟨_, List.getElem_mem hl, hb⟩; omega)
/-- A table that came later is kept. -/
theorem OwnT.only_lt (h : OwnT enc te ts w B v vs t) (k : Only (Blocks us) w w') (hu : ∀ b, Blocks us b → b < B) : OwnT enc te ts w' B v vs t :=
  h.only k (fun b hb hS => by have := hu b hS; have := (h.outer_lt hb).1; omega) (fun l hl b hb hS => by have := hu b hS; have := (h.inner_lt hl hb).1; omega)
end

/-- All blocks of cells are as they were. -/
def Cel (w w' : World) : Prop := ∀ (b : Nat) (c : Array Value) (t : TypeId) (fr : Nat × Nat), w.heap[b]? = some (.cells c t fr) → w'.heap[b]? = some (.cells c t fr)
theorem Cel.of_ext {w w' : World} (h : Ext w w') : Cel w w' := fun b _ _ _ hb => (h.block b (Array.getElem?_eq_some_iff.1 hb).1).trans hb
theorem Cel.trans {a b c : World} (h : Cel a b) (k : Cel b c) : Cel a c := fun x y z u hx => k x y z u (h x y z u hx)
theorem Cel.cell {w w' : World} (h : Cel w w') {p : Addr} {v : Value} (hc : w.cell? p = some v) : w'.cell? p = some v := by
  cases hb : w.heap[p.block]? with
  | none => simp [World.cell?, hb] at hc
  | some o =>
    cases o with
    | cells c t fr =>
      have := h _ _ _ _ hb
      rw [← hc]
      simp [World.cell?, hb, this]
    | _ => simp [World.cell?, hb] at hc
theorem Cel.frozen {w w' : World} (h : Cel w w') {p : Addr} {v : Value} (hc : w.cell? p = some v) : w'.frozen? p = w.frozen? p := by
  cases hb : w.heap[p.block]? with
  | none => simp [World.cell?, hb] at hc
  | some o =>
    cases o with
    | cells c t fr =>
      have := h _ _ _ _ hb
      simp [World.frozen?, hb, this]
    | _ => simp [World.cell?, hb] at hc
theorem Cel.owns {w w' : World} (k : Cel w w') {B : Nat} {e : TypeId} {s : Nat} {v : Value} {n : Nat} {xs : List Value} (h : w.ownsRow B e s v n xs) : w'.ownsRow B e s v n xs := by
  refine ⟨h.1, ?_⟩
  rcases h.2 with hn | ⟨g, cap, cur, rfl, hb, hgg, rest⟩
  · exact .inl hn
  · exact .inr ⟨g, cap, cur, rfl, hb, k _ _ _ _ hgg, rest⟩
section
variable {α : Type} {enc : α → Value} {w w' : World} {a : Option Addr} {te ts : TypeId} {B : Nat} {v : Value} {vs : List Value} {t : List (List α)}
theorem OwnT.cel (h : OwnT enc te ts w B v vs t) (k : Cel w w') : OwnT enc te ts w' B v vs t :=
  ⟨h.len, k.owns h.outer, fun l hl hl' => k.owns (h.inner l hl hl'), h.apart, h.away⟩
theorem TRow.cel {zs : List α} (h : TRow enc w a zs) (k : Cel w w') : TRow enc w' a zs := fun i hi => by
  obtain ⟨b, off, ha, hc⟩ := h i hi
  exact ⟨b, off, ha, k.cell hc⟩
theorem TRows.cel (h : TRows enc w a t) (k : Cel w w') : TRows enc w' a t := fun i hi => by
  obtain ⟨b, off, ak, ck, ha, hc, hl, hn, hr⟩ := h i hi
  exact ⟨b, off, ak, ck, ha, k.cell hc, hl, hn, hr.cel k⟩
end
/-- A variable in a block of its own. -/
def Box (w : World) (b : Nat) (t : TypeId) (v : Value) : Prop := w.heap[b]? = some (.cells #[v] t (0, 0))
theorem Box.cel {w w' : World} {b : Nat} {t : TypeId} {v : Value} (h : Box w b t v) (k : Cel w w') : Box w' b t v := k _ _ _ _ h
theorem Box.ext {w w' : World} {b : Nat} {t : TypeId} {v : Value} (h : Box w b t v) (k : Ext w w') : Box w' b t v := h.cel (Cel.of_ext k)
theorem Box.new (w : World) (t : TypeId) (v : Value) : Box (w.alloc (.cells #[v] t)) w.heap.size t v := heap_alloc_new w _
theorem Box.cell {w : World} {b : Nat} {t : TypeId} {v : Value} (h : Box w b t v) : w.cell? ⟨b, 0, none⟩ = some v := by
  rw [cell_of_row w b 0 #[v] t (0, 0) h]; rfl
theorem Box.frozen {w : World} {b : Nat} {t : TypeId} {v : Value} (h : Box w b t v) : w.frozen? ⟨b, 0, none⟩ = false := by
  simp [World.frozen?, show w.heap[b]? = _ from h]
theorem Box.lt {w : World} {b : Nat} {t : TypeId} {v : Value} (h : Box w b t v) : b < w.heap.size := (Array.getElem?_eq_some_iff.1 h).1
theorem Box.set {w : World} {b : Nat} {t : TypeId} {v : Value} (h : Box w b t v) (u : Value) : Box (w.setCell ⟨b, 0, none⟩ u) b t u := heap_setCell_same w b 0 #[v] t u h
theorem Box.other {w : World} {b : Nat} {t : TypeId} {v : Value} (h : Box w b t v) (p : Addr) (u : Value) (hp : p.block ≠ b) : Box (w.setCell p u) b t v :=
  (Below.heap_setCell w p u b (fun e => hp e.symm)).trans h
theorem Box.grown {w w' : World} {b : Nat} {t : TypeId} {v : Value} {row : Option Nat} (h : Box w b t v) (g : w.grownBy w' row) (hr : row ≠ some b) : Box w' b t v :=
  (g.block b h.lt (fun e => hr e.symm)).trans h
end Go.DC
