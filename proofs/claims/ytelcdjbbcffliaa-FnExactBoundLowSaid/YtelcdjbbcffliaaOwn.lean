/- Words on memory of one's own: what a row that is owned reads as, and what keeps it. -/
import Derived.Test.YtelcdjbbcffliaaBase
import Derived.Laws.AppendOwnNone
import Derived.Maps.AppendAt
import Derived.Deep.RegionLaw
import Derived.ProofKit
import Derived.OpenShut
import Derived.Deep.Slices
import Derived.Deep.Fields
import Derived.ChangeSame
/- Words on memory of one's own: what a row that is owned reads as, and what keeps it. -/
namespace Go.DC
open Go.RowKit

/-- All blocks of w but block r are in w' as they were. -/
structure Keep (r : Nat) (w w' : World) : Prop where
  os : w'.os = w.os
  tape : w'.tape = w.tape
  output : w'.output = w.output
  size : w.heap.size ≤ w'.heap.size
  block : ∀ k, k < w.heap.size → k ≠ r → w'.heap[k]? = w.heap[k]?

theorem Keep.refl (r : Nat) (w : World) : Keep r w w := ⟨rfl, rfl, rfl, Nat.le_refl _, fun _ _ _ => rfl⟩
theorem Keep.trans {r : Nat} {a b c : World} (h : Keep r a b) (k : Keep r b c) : Keep r a c :=
  ⟨k.os.trans h.os, k.tape.trans h.tape, k.output.trans h.output, Nat.le_trans h.size k.size, fun i hi hr => (k.block i (Nat.lt_of_lt_of_le hi h.size) hr).trans (h.block i hi hr)⟩
theorem Keep.of_ext {r : Nat} {a b : World} (h : Ext a b) : Keep r a b := ⟨h.os, h.tape, h.output, h.size, fun k hk _ => h.block k hk⟩
theorem Keep.ext {r : Nat} {w a b : World} (h : Keep r a b) (e : Ext w a) (hr : w.heap.size ≤ r) : Ext w b :=
  ⟨h.os.trans e.os, h.tape.trans e.tape, h.output.trans e.output, Nat.le_trans e.size h.size, fun k hk => (h.block k (Nat.lt_of_lt_of_le hk e.size) (by omega)).trans (e.block k hk)⟩
theorem Keep.setCell {r : Nat} {a b : World} (h : Keep r a b) {p : Addr} (hp : p.block = r) (u : Value) : Keep r a (b.setCell p u) :=
  ⟨h.os, h.tape, h.output, by simpa [World.setCell] using h.size, fun k hk hr => (Below.heap_setCell b p u k (by rw [hp]; exact hr)).trans (h.block k hk hr)⟩
theorem Keep.setNew {r : Nat} {a b : World} (h : Keep r a b) {p : Addr} (hp : a.heap.size ≤ p.block) (u : Value) : Keep r a (b.setCell p u) :=
  ⟨h.os, h.tape, h.output, by simpa [World.setCell] using h.size, fun k hk hr => (Below.heap_setCell b p u k (by omega)).trans (h.block k hk hr)⟩
theorem Keep.alloc {r : Nat} {a b : World} (h : Keep r a b) (o : Obj) : Keep r a (b.alloc o) := h.trans (Keep.of_ext ((Ext.refl b).alloc o))
theorem Keep.drew {r : Nat} {a b : World} (h : Keep r a b) : Keep r a b.drew := ⟨h.os, h.tape, h.output, h.size, h.block⟩
theorem Keep.drewN {r : Nat} {a b : World} (h : Keep r a b) (n : Nat) : Keep r a (b.drewN n) := ⟨h.os, h.tape, h.output, h.size, h.block⟩
theorem Keep.cell {r : Nat} {a b : World} (h : Keep r a b) {p : Addr} {v : Value} (hp : p.block ≠ r) (hc : a.cell? p = some v) : b.cell? p = some v :=
  (World.cell?_of_block (w := a) (h.block p.block (World.block_lt_of_cell? _ _ hc) hp)).trans hc
theorem Keep.frozen {r : Nat} {a b : World} (h : Keep r a b) {p : Addr} {v : Value} (hp : p.block ≠ r) (hc : a.cell? p = some v) : b.frozen? p = a.frozen? p :=
  World.frozen?_of_block (w := a) (h.block p.block (World.block_lt_of_cell? _ _ hc) hp)
theorem Keep.grown {r : Nat} {a b : World} (h : Keep r a b) : a.grownBy b (some r) :=
  ⟨h.os, h.tape, h.output, h.size, fun k hk hr => h.block k hk (fun e => hr (by rw [e]))⟩
theorem Ext.grown {a b : World} (h : Ext a b) : a.grownBy b none := ⟨h.os, h.tape, h.output, h.size, fun k hk _ => h.block k hk⟩

/-- A block that is w's own abides what keeps all blocks but r. -/
theorem owns_keep {r : Nat} {w w' : World} {B : Nat} {e : TypeId} {s : Nat} {v : Value} {n : Nat} {xs : List Value} (h : w.ownsRow B e s v n xs) (k : Keep r w w') (hr : r < B) : w'.ownsRow B e s v n xs :=
  h.kept k.grown (by
    cases hv : v.ownBlock with
    | none => exact .inl rfl
    | some g => exact .inr (fun e => by have := (h.lt g hv).1; cases e; omega))
theorem owns_ext {w w' : World} {B : Nat} {e : TypeId} {s : Nat} {v : Value} {n : Nat} {xs : List Value} (h : w.ownsRow B e s v n xs) (k : Ext w w') : w'.ownsRow B e s v n xs :=
  h.kept k.grown (by
    cases hv : v.ownBlock with
    | none => exact .inl rfl
    | some g => exact .inr (fun e => by cases e))

theorem grown_setCell (w : World) (q : Addr) (x : Value) : w.grownBy (w.setCell q x) (some q.block) :=
  ⟨rfl, rfl, rfl, by simp [World.setCell], fun k _ hr => Below.heap_setCell w q x k (fun e => hr (by rw [e]))⟩
theorem owns_other {w : World} {B : Nat} {e : TypeId} {s : Nat} {v : Value} {n : Nat} {xs : List Value} (h : w.ownsRow B e s v n xs) (q : Addr) (x : Value) (hq : ∀ g, v.ownBlock = some g → g ≠ q.block) : (w.setCell q x).ownsRow B e s v n xs :=
  h.kept (grown_setCell w q x) (by
    cases hv : v.ownBlock with
    | none => exact .inl rfl
    | some g => exact .inr (fun e => hq g hv (by cases e; rfl)))
theorem Keep.grownNew {r : Nat} {a b c : World} {row : Option Nat} (h : Keep r a b) (g : b.grownBy c row) (hr : ∀ k, row = some k → a.heap.size ≤ k) : Keep r a c :=
  ⟨g.os.trans h.os, g.tape.trans h.tape, g.output.trans h.output, Nat.le_trans h.size g.size, fun k hk hk' => (g.block k (Nat.lt_of_lt_of_le hk h.size) (fun e => by have := hr k e.symm; omega)).trans (h.block k hk hk')⟩
theorem Ext.grownNew {a b c : World} {row : Option Nat} (h : Ext a b) (g : b.grownBy c row) (hr : ∀ k, row = some k → a.heap.size ≤ k) : Ext a c :=
  ⟨g.os.trans h.os, g.tape.trans h.tape, g.output.trans h.output, Nat.le_trans h.size g.size, fun k hk => (g.block k (Nat.lt_of_lt_of_le hk h.size) (fun e => by have := hr k e.symm; omega)).trans (h.block k hk)⟩

theorem owns_base {w : World} {B C : Nat} {e : TypeId} {s : Nat} {v : Value} {n : Nat} {xs : List Value} (h : w.ownsRow B e s v n xs) (hc : C ≤ B) : w.ownsRow C e s v n xs := by
  obtain ⟨h1, h2⟩ := h
  refine ⟨h1, ?_⟩
  rcases h2 with h2 | ⟨g, cap, cur, hv, hb, rest⟩
  · exact .inl h2
  · exact .inr ⟨g, cap, cur, hv, Nat.le_trans hc hb, rest⟩

/-- The cells of an owned row. -/
theorem owns_cells {w : World} {B : Nat} {e : TypeId} {s : Nat} {v : Value} {n : Nat} {xs : List Value} (h : w.ownsRow B e s v n xs) :
    ∃ a c, v = .slice a n c ∧ n ≤ c ∧ ∀ j u, xs[j]? = some u → ∃ g, a = some ⟨g, 0, none⟩ ∧ B ≤ g ∧ w.cell? ⟨g, j, none⟩ = some u ∧ w.frozen? ⟨g, j, none⟩ = false := by
  obtain ⟨hlen, h2⟩ := h
  rcases h2 with ⟨rfl, rfl⟩ | ⟨g, cap, cur, rfl, hb, hg, hn, hm, hs, ht⟩
  · refine ⟨none, 0, rfl, Nat.le_refl _, fun j u hu => ?_⟩
    rw [List.length_eq_zero_iff.1 (by omega : xs.length = 0)] at hu
    simp at hu
  · refine ⟨some ⟨g, 0, none⟩, cap, rfl, hn, fun j u hu => ⟨g, rfl, hb, ?_, ?_⟩⟩
    · rw [cell_of_row w g j cur e (0, 0) hg]
      rw [← ht, List.getElem?_take] at hu
      split at hu
      · simpa using hu
      · cases hu
    · simp [World.frozen?, hg]

/-- All blocks of w but those of S are in w' as they were. -/
structure Only (S : Nat → Prop) (w w' : World) : Prop where
  os : w'.os = w.os
  tape : w'.tape = w.tape
  output : w'.output = w.output
  size : w.heap.size ≤ w'.heap.size
  block : ∀ k, k < w.heap.size → ¬ S k → w'.heap[k]? = w.heap[k]?
theorem Only.refl (S : Nat → Prop) (w : World) : Only S w w := ⟨rfl, rfl, rfl, Nat.le_refl _, fun _ _ _ => rfl⟩
theorem Only.trans {S : Nat → Prop} {a b c : World} (h : Only S a b) (k : Only S b c) : Only S a c :=
  ⟨k.os.trans h.os, k.tape.trans h.tape, k.output.trans h.output, Nat.le_trans h.size k.size, fun i hi hr => (k.block i (Nat.lt_of_lt_of_le hi h.size) hr).trans (h.block i hi hr)⟩
theorem Only.mono {S T : Nat → Prop} {a b : World} (h : Only S a b) (hs : ∀ k, S k → T k) : Only T a b := ⟨h.os, h.tape, h.output, h.size, fun i hi hr => h.block i hi (fun e => hr (hs i e))⟩
theorem Only.of_ext {S : Nat → Prop} {a b : World} (h : Ext a b) : Only S a b := ⟨h.os, h.tape, h.output, h.size, fun k hk _ => h.block k hk⟩
theorem Only.ext {S : Nat → Prop} {w a b : World} (h : Only S a b) (e : Ext w a) (hS : ∀ k, S k → w.heap.size ≤ k) : Ext w b :=
  ⟨h.os.trans e.os, h.tape.trans e.tape, h.output.trans e.output, Nat.le_trans e.size h.size, fun k hk => (h.block k (Nat.lt_of_lt_of_le hk e.size) (fun hs => by have := hS k hs; omega)).trans (e.block k hk)⟩
theorem Only.setCell {S : Nat → Prop} {a b : World} (h : Only S a b) {p : Addr} (hp : S p.block) (u : Value) : Only S a (b.setCell p u) :=
  ⟨h.os, h.tape, h.output, by simpa [World.setCell] using h.size, fun k hk hr => (Below.heap_setCell b p u k (fun e => hr (e ▸ hp))).trans (h.block k hk hr)⟩
theorem Only.cell {S : Nat → Prop} {a b : World} (h : Only S a b) {p : Addr} {v : Value} (hp : ¬ S p.block) (hc : a.cell? p = some v) : b.cell? p = some v :=
  (World.cell?_of_block (w := a) (h.block p.block (World.block_lt_of_cell? _ _ hc) hp)).trans hc
theorem owns_only {S : Nat → Prop} {w w' : World} {B : Nat} {e : TypeId} {s : Nat} {v : Value} {n : Nat} {xs : List Value} (h : w.ownsRow B e s v n xs) (k : Only S w w') (hs : ∀ b, v.ownBlock = some b → ¬ S b) : w'.ownsRow B e s v n xs := by
  refine ⟨h.1, ?_⟩
  rcases h.2 with hn | ⟨g, cap, cur, rfl, hb, hgg, rest⟩
  · exact .inl hn
  · refine .inr ⟨g, cap, cur, rfl, hb, ?_, rest⟩
    rw [k.block g (Array.getElem?_eq_some_iff.1 hgg).1 (hs g rfl)]
    exact hgg

section
variable {P : Program} {w : World}
/-- append onto a row of one's own; what is appended may be nil, empty or any slice. -/
theorem run_append_any (t ty : TypeId) (base : Nat) (e : TypeId) (i : TypeInfo) (z : Value) (size bytes : Nat) (ht : P.underlying t = some (.slice e)) (hi : P.info? e = some i) (hz : i.zero = some z)
    (hsize : i.size = size) (hby : i.bytes = bytes) (hzs : z.cells.size = size) (hsz : 0 < size)
    (v : Value) (n : Nat) (xs : List Value) (hown : w.ownsRow base e size v n xs)
    (aa : Option Addr) (m c : Nat) (news : List Value) (hnil : aa = none → c = 0) (hl : news.length = m * size) (hnews : ∀ j u, news[j]? = some u → ∃ ad, aa = some ad ∧ w.cell? (ad.add j) = some u) (h1 : ∀ u ∈ news, u.oneCell' = true)
    (h63 : n + m ≤ maxLen) (hbytes : (n + m) * bytes ≤ 140737488355328) (hbase : base ≤ w.heap.size) :
    ∃ v' w', (Builtin.append_ #[t, t] ty #[v, .slice aa m c]).run P w = .ok v' w' ∧ w'.ownsRow base e size v' (n + m) (xs ++ news) ∧ w.grownBy w' v.ownBlock ∧ (v' = .slice none 0 0 ↔ v = .slice none 0 0 ∧ m = 0) ∧ (v'.ownBlock = v.ownBlock ∨ v'.ownBlock = some w.heap.size) := by
  cases aa with
  | none =>
    have hn0 : news = [] := by
      cases news with
      | nil => rfl
      | cons y ys => obtain ⟨ad, hh, _⟩ := hnews 0 y rfl; cases hh
    subst hn0
    have hm : m = 0 := by
      have h' : 0 = m * size := by simpa using hl
      rcases Nat.mul_eq_zero.1 h'.symm with h'' | h''
      · exact h''
      · omega
    subst hm
    have hc := hnil rfl
    subst hc
    exact ⟨v, w, run_append_owned_none (P := P) (w := w) base t ty e i size ht hi v n xs hown, by simpa using hown, ⟨rfl, rfl, rfl, Nat.le_refl _, fun _ _ _ => rfl⟩, by simp, .inl rfl⟩
  | some ad =>
    exact run_append_own_at w base t ty e i z size bytes ht hi hz hsize hby hzs hsz v n xs hown ad m c news hl (fun j u hu => by obtain ⟨ad', hh, hc⟩ := hnews j u hu; cases hh; exact hc) h1 h63 hbytes hbase

theorem wp_append_any {o : Oper} {a : Act} {K : Act → World → Prop} {Q : Exit → Act → World → Prop} (s x : Operand) (t : TypeId)
    (ho : o.op = .call { callee := .builtin .append, args := #[s, x], argTypes := #[t, t] })
    (base : Nat) (e : TypeId) (i : TypeInfo) (z : Value) (size bytes : Nat) (ht : P.underlying t = some (.slice e)) (hi : P.info? e = some i) (hz : i.zero = some z)
    (hsize : i.size = size) (hby : i.bytes = bytes) (hzs : z.cells.size = size) (hsz : 0 < size)
    (v : Value) (n : Nat) (xs : List Value) (hs : a.eval s = v) (hown : w.ownsRow base e size v n xs)
    (aa : Option Addr) (m c : Nat) (news : List Value) (hx : a.eval x = .slice aa m c) (hnil : aa = none → c = 0) (hl : news.length = m * size) (hnews : ∀ j u, news[j]? = some u → ∃ ad, aa = some ad ∧ w.cell? (ad.add j) = some u) (h1 : ∀ u ∈ news, u.oneCell' = true)
    (h63 : n + m ≤ maxLen) (hbytes : (n + m) * bytes ≤ 140737488355328) (hbase : base ≤ w.heap.size)
    (h : ∀ v' w', w'.ownsRow base e size v' (n + m) (xs ++ news) → w.grownBy w' v.ownBlock → (v' = .slice none 0 0 ↔ v = .slice none 0 0 ∧ m = 0) → (v'.ownBlock = v.ownBlock ∨ v'.ownBlock = some w.heap.size) → K (a.put o.dst v') w') : o.wp P a w K Q := by
  obtain ⟨v', w', hr, h2, h3, h4, h5⟩ := run_append_any (P := P) t o.type base e i z size bytes ht hi hz hsize hby hzs hsz v n xs hown aa m c news hnil hl hnews h1 h63 hbytes hbase
  unfold Oper.wp execOp
  simp only [ho, resolve, invoke, builtin, Sem.run_bind, Sem.run_pure, Result.andThen_ok, List.map_toArray, List.map_cons, List.map_nil, hs, hx, hr]
  exact h v' w' h2 h3 h4 h5

theorem wpList_append_any {ops : Array Oper} {rest : List Oper} {o : Oper} {a : Act} {Q : Exit → Act → World → Prop} (hgd : o.guard = none) (s x : Operand) (t : TypeId)
    (ho : o.op = .call { callee := .builtin .append, args := #[s, x], argTypes := #[t, t] })
    (base : Nat) (e : TypeId) (i : TypeInfo) (z : Value) (size bytes : Nat) (ht : P.underlying t = some (.slice e)) (hi : P.info? e = some i) (hz : i.zero = some z)
    (hsize : i.size = size) (hby : i.bytes = bytes) (hzs : z.cells.size = size) (hsz : 0 < size)
    (v : Value) (n : Nat) (xs : List Value) (hs : a.eval s = v) (hown : w.ownsRow base e size v n xs)
    (aa : Option Addr) (m c : Nat) (news : List Value) (hx : a.eval x = .slice aa m c) (hnil : aa = none → c = 0) (hl : news.length = m * size) (hnews : ∀ j u, news[j]? = some u → ∃ ad, aa = some ad ∧ w.cell? (ad.add j) = some u) (h1 : ∀ u ∈ news, u.oneCell' = true)
    (h63 : n + m ≤ maxLen) (hbytes : (n + m) * bytes ≤ 140737488355328) (hbase : base ≤ w.heap.size)
    (h : ∀ v' w', w'.ownsRow base e size v' (n + m) (xs ++ news) → w.grownBy w' v.ownBlock → (v' = .slice none 0 0 ↔ v = .slice none 0 0 ∧ m = 0) → (v'.ownBlock = v.ownBlock ∨ v'.ownBlock = some w.heap.size) → wpList P ops Q rest (a.put o.dst v') w') : wpList P ops Q (o :: rest) a w :=
  wpList_plain hgd fun _ hK => wp_append_any s x t ho base e i z size bytes ht hi hz hsize hby hzs hsz v n xs hs hown aa m c news hx hnil hl hnews h1 h63 hbytes hbase fun v' w' h2 h3 h4 h5 => hK _ _ (h v' w' h2 h3 h4 h5)

theorem step_append_any {ops : Array Oper} {o : Oper} {a : Act} {K : Act → World → Prop} {Q : Exit → Act → World → Prop} {E : Prop} (hgd : o.guard = none) (s x : Operand) (t : TypeId)
    (ho : o.op = .call { callee := .builtin .append, args := #[s, x], argTypes := #[t, t] })
    (base : Nat) (e : TypeId) (i : TypeInfo) (z : Value) (size bytes : Nat) (ht : P.underlying t = some (.slice e)) (hi : P.info? e = some i) (hz : i.zero = some z)
    (hsize : i.size = size) (hby : i.bytes = bytes) (hzs : z.cells.size = size) (hsz : 0 < size)
    (v : Value) (n : Nat) (xs : List Value) (hs : a.eval s = v) (hown : w.ownsRow base e size v n xs)
    (aa : Option Addr) (m c : Nat) (news : List Value) (hx : a.eval x = .slice aa m c) (hnil : aa = none → c = 0) (hl : news.length = m * size) (hnews : ∀ j u, news[j]? = some u → ∃ ad, aa = some ad ∧ w.cell? (ad.add j) = some u) (h1 : ∀ u ∈ news, u.oneCell' = true)
    (h63 : n + m ≤ maxLen) (hbytes : (n + m) * bytes ≤ 140737488355328) (hbase : base ≤ w.heap.size)
    (h : ∀ v' w', w'.ownsRow base e size v' (n + m) (xs ++ news) → w.grownBy w' v.ownBlock → (v' = .slice none 0 0 ↔ v = .slice none 0 0 ∧ m = 0) → (v'.ownBlock = v.ownBlock ∨ v'.ownBlock = some w.heap.size) → K (a.put o.dst v') w') :
    if Region.wanted o (yielded ops a.tmps) = true then Oper.wp P o a w K Q else E := by
  have hw : Region.wanted o (yielded ops a.tmps) = true := by simp [Region.wanted, hgd]
  rw [if_pos hw]
  exact wp_append_any s x t ho base e i z size bytes ht hi hz hsize hby hzs hsz v n xs hs hown aa m c news hx hnil hl hnews h1 h63 hbytes hbase h
end
end Go.DC

/- How the arguments of a law are opened: from 'it can be read as data' to cells. -/
namespace Go.DC
open Go.RowKit Go.ChangeShapes Go.WideShapes Go.Deep

/-- A slice whose k-th element lies at its place and holds 'f k'. -/
def Cells1 (w : World) (a : Option Addr) (n : Nat) (f : Nat → Value) : Prop :=
  ∀ k, k < n → ∃ b off, a = some ⟨b, off, none⟩ ∧ w.cell? ⟨b, off + k, none⟩ = some (f k)

theorem Cells1.ext {w w' : World} {a : Option Addr} {n : Nat} {f : Nat → Value} (h : Cells1 w a n f) (e : Ext w w') : Cells1 w' a n f := fun k hk => by
  obtain ⟨b, off, ha, h0⟩ := h k hk
  exact ⟨b, off, ha, e.cell h0⟩

/-- A slice of bytes. -/
def Bytes (w : World) (a : Option Addr) (zs : List Int) : Prop := Cells1 w a zs.length (fun k => .int .u8 (zs.getD k 0)) ∧ ∀ z ∈ zs, 0 ≤ z ∧ z ≤ 255
theorem Bytes.ext {w w' : World} {a : Option Addr} {zs : List Int} (h : Bytes w a zs) (e : Ext w w') : Bytes w' a zs := ⟨h.1.ext e, h.2⟩

theorem addr_add {w : World} {x : Addr} {i : Nat} {v : Value} (h : w.cell? (x.add i) = some v) (hx : x.spot = none) : w.cell? ⟨x.block, x.off + i, none⟩ = some v := by
  obtain ⟨b, off, spot⟩ := x
  simp only at hx; subst hx
  unfold Addr.add at h
  split at h
  · rename_i e; subst e; simpa using h
  · exact h
theorem addr_spot {w : World} {x : Addr} {v : Value} (h : w.cell? (x.add 0) = some v) : x.spot = none := by
  have := World.cell?_spot h
  simpa [Addr.add] using this

section
variable {H : Type} {enc : TypeId × Value → H} {P : Program} {w : World} {base : Nat} {held : Bool}

theorem open_bytes {t e : TypeId} {a : Option Addr} {n c : Nat} {d : DataW H} {p : List MemPlace} (ht : P.underlying t = some (.slice e)) (he : P.underlying e = some (.int .u8)) (hc : P.cellsOf e = 1)
    (h : DataW.Trod enc P w base (fun _ => true) held t (.slice a n c) d p) : ∃ zs : List Int, zs.length = n ∧ n ≤ 9223372036854775807 ∧ n ≤ c ∧ Bytes w a zs := by
  obtain ⟨fuel, hf⟩ := h
  rcases open_ints ht he hc hf with ⟨hcs, _⟩ | ⟨x, l, c', zs, hcs, _, hl, hm, hz, _, hcell, hwz⟩
  · simp [Value.cells] at hcs
    obtain ⟨rfl, rfl, rfl⟩ := hcs
    exact ⟨[], rfl, by omega, by omega, fun k hk => absurd hk (by simp), fun z hz => by simp at hz⟩
  · simp [Value.cells] at hcs
    obtain ⟨rfl, rfl, rfl⟩ := hcs
    simp only [if_true] at hz
    have hlen : (zs.take n).length = n := by rw [List.length_take]; omega
    refine ⟨zs.take n, hlen, by unfold maxLen at hm; omega, hl, ?_, fun z hz => ?_⟩
    · intro k hk
      rw [hlen] at hk
      have h0 := hcell 0 (by omega)
      have hs := addr_spot h0
      refine ⟨x.block, x.off, by obtain ⟨b, o, s⟩ := x; simp only at hs; subst hs; rfl, ?_⟩
      rw [addr_add (hcell k (by omega)) hs]
      congr 2
      simp only [List.getD_eq_getElem?_getD, List.getElem?_take]
      rw [if_pos hk]
    · have := bounds_u8 (hwz z (List.mem_of_mem_take hz))
      omega

end
end Go.DC

/- Tables in memory: slices of slices, read alone (TRows) or of one's own (OwnT). -/
namespace Go.DC
open Go.RowKit

section
variable {α : Type}

/-- A slice whose k-th element is 'enc zs[k]'. -/
def TRow (enc : α → Value) (w : World) (a : Option Addr) (zs : List α) : Prop :=
  ∀ k (h : k < zs.length), ∃ b off, a = some ⟨b, off, none⟩ ∧ w.cell? ⟨b, off + k, none⟩ = some (enc zs[k])
/-- A slice of slices. -/
def TRows (enc : α → Value) (w : World) (a : Option Addr) (t : List (List α)) : Prop :=
  ∀ k (h : k < t.length), ∃ b off ak ck, a = some ⟨b, off, none⟩ ∧ w.cell? ⟨b, off + k, none⟩ = some (.slice ak t[k].length ck) ∧ t[k].length ≤ ck ∧ (ak = none → ck = 0) ∧ TRow enc w ak t[k]

variable {enc : α → Value} {w w' : World} {a : Option Addr}
theorem TRow.ext {zs : List α} (h : TRow enc w a zs) (e : Ext w w') : TRow enc w' a zs := fun k hk => by
  obtain ⟨b, off, ha, hc⟩ := h k hk
  exact ⟨b, off, ha, e.cell hc⟩
theorem TRows.ext {t : List (List α)} (h : TRows enc w a t) (e : Ext w w') : TRows enc w' a t := fun k hk => by
  obtain ⟨b, off, ak, ck, ha, hc, hl, hn, hr⟩ := h k hk
  exact ⟨b, off, ak, ck, ha, e.cell hc, hl, hn, hr.ext e⟩

/-- What no block but row may have changed: a row of which no cell lies there. -/
theorem TRow.grown {zs : List α} {row : Option Nat} (h : TRow enc w a zs) (g : w.grownBy w' row) (hr : ∀ x, a = some x → 0 < zs.length → some x.block ≠ row) : TRow enc w' a zs := fun k hk => by
  obtain ⟨b, off, ha, hc⟩ := h k hk
  exact ⟨b, off, ha, g.cell hc (hr ⟨b, off, none⟩ ha (by omega))⟩

/-- A table of one's own: the rows' values vs, each in a block of its own, from B on. -/
structure OwnT (enc : α → Value) (te ts : TypeId) (w : World) (B : Nat) (v : Value) (vs : List Value) (t : List (List α)) : Prop where
  len : vs.length = t.length
  outer : w.ownsRow B ts 1 v t.length vs
  inner : ∀ k (h : k < t.length) (h' : k < vs.length), w.ownsRow B te 1 vs[k] t[k].length (t[k].map enc)
  apart : ∀ k l (_ : k < vs.length) (_ : l < vs.length), k ≠ l → ∀ b, vs[k].ownBlock = some b → vs[l].ownBlock ≠ some b
  away : ∀ k (_ : k < vs.length) b, v.ownBlock = some b → vs[k].ownBlock ≠ some b

variable {te ts : TypeId} {B : Nat} {v : Value} {vs : List Value} {t : List (List α)}

theorem OwnT.grown {row : Option Nat} (h : OwnT enc te ts w B v vs t) (g : w.grownBy w' row) (h0 : v.ownBlock = none ∨ v.ownBlock ≠ row) (h1 : ∀ k (_ : k < vs.length), vs[k].ownBlock = none ∨ vs[k].ownBlock ≠ row) : OwnT enc te ts w' B v vs t :=
  ⟨h.len, h.outer.kept g h0, fun k hk hk' => (h.inner k hk hk').kept g (h1 k hk'), h.apart, h.away⟩
theorem OwnT.ext (h : OwnT enc te ts w B v vs t) (e : Ext w w') : OwnT enc te ts w' B v vs t :=
  ⟨h.len, owns_ext h.outer e, fun k hk hk' => owns_ext (h.inner k hk hk') e, h.apart, h.away⟩
theorem OwnT.keep {r : Nat} (h : OwnT enc te ts w B v vs t) (e : Keep r w w') (hr : r < B) : OwnT enc te ts w' B v vs t :=
  ⟨h.len, owns_keep h.outer e hr, fun k hk hk' => owns_keep (h.inner k hk hk') e hr, h.apart, h.away⟩
theorem OwnT.base {C : Nat} (h : OwnT enc te ts w B v vs t) (hc : C ≤ B) : OwnT enc te ts w C v vs t :=
  ⟨h.len, owns_base h.outer hc, fun k hk hk' => owns_base (h.inner k hk hk') hc, h.apart, h.away⟩

theorem TRow.of_own {x : Value} {zs : List α} (h : w.ownsRow B te 1 x zs.length (zs.map enc)) : ∃ ak ck, x = .slice ak zs.length ck ∧ zs.length ≤ ck ∧ TRow enc w ak zs ∧ (ak = none → ck = 0) := by
  obtain ⟨ak, ck, hv, hc, hx⟩ := owns_cells h
  refine ⟨ak, ck, hv, hc, fun k hk => ?_, fun e => ?_⟩
  · obtain ⟨g, rfl, _, h0, _⟩ := hx k (enc zs[k]) (by simp [hk])
    exact ⟨g, 0, rfl, by simpa using h0⟩
  · subst e; subst hv
    rcases h.2 with ⟨h1, _⟩ | ⟨g, cap, cur, h1, _⟩
    · simp only [Value.slice.injEq] at h1; exact h1.2.2
    · simp at h1

/-- What a table of one's own reads as. -/
theorem OwnT.rows (h : OwnT enc te ts w B v vs t) : ∃ a c, v = .slice a t.length c ∧ t.length ≤ c ∧ TRows enc w a t ∧ (a = none → c = 0) := by
  obtain ⟨a, c, hv, hc, hx⟩ := owns_cells h.outer
  refine ⟨a, c, hv, hc, fun k hk => ?_, fun e => ?_⟩
  · have hk' : k < vs.length := by rw [h.len]; exact hk
    obtain ⟨g, rfl, _, h0, _⟩ := hx k vs[k] (List.getElem?_eq_getElem hk')
    obtain ⟨ak, ck, e, hl, hr, hn⟩ := TRow.of_own (h.inner k hk hk')
    rw [e] at h0
    exact ⟨g, 0, ak, ck, rfl, by simpa using h0, hl, hn, hr⟩
  · subst e; subst hv
    rcases h.outer.2 with ⟨h1, _⟩ | ⟨g, cap, cur, h1, _⟩
    · simp only [Value.slice.injEq] at h1; exact h1.2.2
    · simp at h1

/-- TRow k of a table of one's own, where it is not empty: the outer cell and the row's cells. -/
theorem OwnT.at (h : OwnT enc te ts w B v vs t) {k j : Nat} (hk : k < t.length) (hj : j < t[k].length) :
    ∃ o c g ck, v = .slice (some ⟨o, 0, none⟩) t.length c ∧ B ≤ o ∧ w.cell? ⟨o, k, none⟩ = some (.slice (some ⟨g, 0, none⟩) t[k].length ck) ∧ B ≤ g ∧ g ≠ o ∧ vs[k]? = some (.slice (some ⟨g, 0, none⟩) t[k].length ck)
      ∧ w.cell? ⟨g, j, none⟩ = some (enc t[k][j]) ∧ w.frozen? ⟨g, j, none⟩ = false ∧ w.frozen? ⟨o, k, none⟩ = false := by
  have hk' : k < vs.length := by rw [h.len]; exact hk
  obtain ⟨a, c, hv, hc, hx⟩ := owns_cells h.outer
  obtain ⟨o, rfl, ho, h0, f0⟩ := hx k vs[k] (List.getElem?_eq_getElem hk')
  obtain ⟨ak, ck, e, hl, hy⟩ := owns_cells (h.inner k hk hk')
  obtain ⟨g, rfl, hg, h1, f1⟩ := hy j (enc t[k][j]) (by simp [hj])
  have hne : g ≠ o := fun eq => h.away k hk' o (by rw [hv]; rfl) (by rw [e, eq]; rfl)
  exact ⟨o, c, g, ck, hv, ho, by rw [h0, e], hg, hne, by rw [List.getElem?_eq_getElem hk', e], h1, f1, f0⟩

/-- Cell (k, j) is stored. -/
theorem OwnT.set (h : OwnT enc te ts w B v vs t) {k j g n ck : Nat} (hk : k < t.length) (hg : vs[k]? = some (.slice (some ⟨g, 0, none⟩) n ck)) (z : α) :
    OwnT enc te ts (w.setCell ⟨g, j, none⟩ (enc z)) B v vs (t.set k (t[k].set j z)) := by
  have hk' : k < vs.length := by rw [h.len]; exact hk
  have hgk : vs[k] = .slice (some ⟨g, 0, none⟩) n ck := by rw [List.getElem?_eq_getElem hk'] at hg; exact Option.some.inj hg
  refine ⟨by simpa using h.len, ?_, fun l hl hl' => ?_, h.apart, h.away⟩
  · have := owns_other h.outer ⟨g, j, none⟩ (enc z) (fun b hb e => h.away k hk' b hb (by rw [hgk]; simp only at e; rw [e]; rfl))
    simpa using this
  · have hl2 : l < t.length := by simpa using hl
    by_cases e : l = k
    · subst e
      have hin := h.inner l hk hk'
      obtain ⟨ak, ck', e', _⟩ := owns_cells hin
      rw [hgk] at e'
      cases e'
      rw [hgk] at hin ⊢
      have := (World.ownsRow.stored hin j (enc z)).1
      simpa using this
    · have := owns_other (h.inner l hl2 hl') ⟨g, j, none⟩ (enc z) (fun b hb eq => h.apart l k hl' hk' e b hb (by rw [hgk]; simp only at eq; rw [eq]; rfl))
      simpa [List.getElem_set, Ne.symm e] using this

/-- The rows' blocks. -/
theorem OwnT.inner_lt (h : OwnT enc te ts w B v vs t) {k b : Nat} (hk : k < vs.length) (hb : vs[k].ownBlock = some b) : B ≤ b ∧ b < w.heap.size :=
  (h.inner k (by rw [← h.len]; exact hk) hk).lt b hb
theorem OwnT.outer_lt (h : OwnT enc te ts w B v vs t) {b : Nat} (hb : v.ownBlock = some b) : B ≤ b ∧ b < w.heap.size := h.outer.lt b hb

/-- The outer cells. -/
theorem OwnT.cellAt {o n c k : Nat} (h : OwnT enc te ts w B (.slice (some ⟨o, 0, none⟩) n c) vs t) (hk : k < t.length) :
    ∃ x, w.cell? ⟨o, k, none⟩ = some x ∧ vs[k]? = some x ∧ w.frozen? ⟨o, k, none⟩ = false := by
  obtain ⟨a', c', e', _, hx⟩ := owns_cells h.outer
  have hv : k < vs.length := by rw [h.len]; exact hk
  obtain ⟨g, eg, _, hcell, hf⟩ := hx k vs[k] (List.getElem?_eq_getElem hv)
  rw [eg] at e'
  simp only [Value.slice.injEq, Option.some.injEq, Addr.mk.injEq] at e'
  obtain ⟨⟨rfl, _⟩, _⟩ := e'
  exact ⟨_, hcell, List.getElem?_eq_getElem hv, hf⟩

/-- Row k becomes another row of one's own. -/
theorem OwnT.setRow {o n c k : Nat} {u : Value} {zs : List α} (h : OwnT enc te ts w B (.slice (some ⟨o, 0, none⟩) n c) vs t) (hk : k < t.length) (hu : w.ownsRow B te 1 u zs.length (zs.map enc))
    (hne : ∀ b, u.ownBlock = some b → b ≠ o) (hap : ∀ l (_ : l < vs.length), l ≠ k → ∀ b, u.ownBlock = some b → vs[l].ownBlock ≠ some b) :
    OwnT enc te ts (w.setCell ⟨o, k, none⟩ u) B (.slice (some ⟨o, 0, none⟩) n c) (vs.set k u) (t.set k zs) := by
  obtain ⟨a', c', e', _⟩ := owns_cells h.outer
  have hn : n = t.length := by simpa using congrArg (fun v => match v with | Value.slice _ m _ => m | _ => 0) e'
  subst hn
  refine ⟨by simpa using h.len, ?_, fun l hl hl' => ?_, fun l m hl hm hlm b hb => ?_, fun l hl b hb => ?_⟩
  · have := (World.ownsRow.stored h.outer k u).1
    simpa using this
  · have hl2 : l < t.length := by simpa using hl
    have hl3 : l < vs.length := by simpa using hl'
    by_cases e : l = k
    · subst e
      have := owns_other hu ⟨o, l, none⟩ u hne
      simpa using this
    · have := owns_other (h.inner l hl2 hl3) ⟨o, k, none⟩ u (fun b hb eq => h.away l hl3 o rfl (by simp only at eq; rw [← eq]; exact hb))
      simpa [List.getElem_set, Ne.symm e] using this
  · have hl3 : l < vs.length := by simpa using hl
    have hm3 : m < vs.length := by simpa using hm
    by_cases e : l = k
    · subst e
      simp at hb
      have e2 : m ≠ l := fun e => hlm e.symm
      simpa [List.getElem_set, e2.symm] using hap m hm3 e2 b hb
    · by_cases e2 : m = k
      · subst e2
        simp only [List.getElem_set, Ne.symm e, if_false] at hb
        simp
        intro hh
        exact hap l hl3 e b hh hb
      · simp only [List.getElem_set, Ne.symm e, Ne.symm e2, if_false] at hb ⊢
        exact h.apart l m hl3 hm3 hlm b hb
  · have hl3 : l < vs.length := by simpa using hl
    have hbo : b = o := by simpa [Value.ownBlock] using hb.symm
    subst hbo
    by_cases e : l = k
    · subst e
      simp
      intro hh
      exact hne _ hh rfl
    · simp only [List.getElem_set, Ne.symm e, if_false]
      exact h.away l hl3 b rfl

/-- Row k has grown (append), its value is stored anew. -/
theorem OwnT.regrow {w1 : World} {o n c k : Nat} {u : Value} {zs : List α} (h : OwnT enc te ts w B (.slice (some ⟨o, 0, none⟩) n c) vs t) (hk : k < t.length) (hk' : k < vs.length) (hg : w.grownBy w1 vs[k].ownBlock)
    (hu : w1.ownsRow B te 1 u zs.length (zs.map enc)) (hat : u.ownBlock = vs[k].ownBlock ∨ ∃ b, u.ownBlock = some b ∧ w.heap.size ≤ b) :
    OwnT enc te ts (w1.setCell ⟨o, k, none⟩ u) B (.slice (some ⟨o, 0, none⟩) n c) (vs.set k u) (t.set k zs) := by
  have ho : o < w.heap.size := (h.outer_lt rfl).2
  have hne : ∀ b, u.ownBlock = some b → b ≠ o := fun b hb e => by
    subst e
    rcases hat with e' | ⟨b', e', hb'⟩
    · exact h.away k hk' b rfl (e' ▸ hb)
    · rw [e'] at hb; cases hb; omega
  have hap : ∀ l (_ : l < vs.length), l ≠ k → ∀ b, u.ownBlock = some b → vs[l].ownBlock ≠ some b := fun l hl e b hb hh => by
    rcases hat with e' | ⟨b', e', hb'⟩
    · exact h.apart l k hl hk' e b hh (e' ▸ hb)
    · have := (h.inner_lt hl hh).2
      rw [e'] at hb; cases hb; omega
  obtain ⟨a', c', e', _⟩ := owns_cells h.outer
  have hn : n = t.length := by simpa using congrArg (fun v => match v with | Value.slice _ m _ => m | _ => 0) e'
  subst hn
  have hout : w1.ownsRow B ts 1 (.slice (some ⟨o, 0, none⟩) t.length c) t.length vs := h.outer.kept hg (.inr (fun e => h.away k hk' o rfl (by rw [← e]; rfl)))
  refine ⟨by simpa using h.len, ?_, fun l hl hl' => ?_, fun l m hl hm hlm b hb => ?_, fun l hl b hb => ?_⟩
  · have := (World.ownsRow.stored hout k u).1
    simpa using this
  · have hl2 : l < t.length := by simpa using hl
    have hl3 : l < vs.length := by simpa using hl'
    by_cases e : l = k
    · subst e
      have := owns_other hu ⟨o, l, none⟩ u hne
      simpa using this
    · have h1 : w1.ownsRow B te 1 vs[l] t[l].length (t[l].map enc) := (h.inner l hl2 hl3).kept hg (by
        cases hv : vs[l].ownBlock with
        | none => exact .inl rfl
        | some b => exact .inr (fun e2 => h.apart l k hl3 hk' e b hv e2.symm))
      have := owns_other h1 ⟨o, k, none⟩ u (fun b hb eq => h.away l hl3 o rfl (by simp only at eq; rw [← eq]; exact hb))
      simpa [List.getElem_set, Ne.symm e] using this
  · have hl3 : l < vs.length := by simpa using hl
    have hm3 : m < vs.length := by simpa using hm
    by_cases e : l = k
    · subst e
      simp at hb
      have e2 : m ≠ l := fun e => hlm e.symm
      simpa [List.getElem_set, e2.symm] using hap m hm3 e2 b hb
    · by_cases e2 : m = k
      · subst e2
        simp only [List.getElem_set, Ne.symm e, if_false] at hb
        simp
        intro hh
        exact hap l hl3 e b hh hb
      · simp only [List.getElem_set, Ne.symm e, Ne.symm e2, if_false] at hb ⊢
        exact h.apart l m hl3 hm3 hlm b hb
  · have hl3 : l < vs.length := by simpa using hl
    have hbo : b = o := by simpa [Value.ownBlock] using hb.symm
    subst hbo
    by_cases e : l = k
    · subst e
      simp
      intro hh
      exact hne _ hh rfl
    · simp only [List.getElem_set, Ne.symm e, if_false]
      exact h.away l hl3 b rfl

/-- A row of one's own is appended. -/
theorem OwnT.push {w1 : World} {u v' : Value} {zs : List α} (h : OwnT enc te ts w B v vs t) (hu : w.ownsRow B te 1 u zs.length (zs.map enc))
    (hne : ∀ b, u.ownBlock = some b → v.ownBlock ≠ some b) (hap : ∀ l (_ : l < vs.length), ∀ b, u.ownBlock = some b → vs[l].ownBlock ≠ some b)
    (ho : w1.ownsRow B ts 1 v' (t.length + 1) (vs ++ [u])) (hg : w.grownBy w1 v.ownBlock) (hat : v'.ownBlock = v.ownBlock ∨ ∃ b, v'.ownBlock = some b ∧ w.heap.size ≤ b) :
    OwnT enc te ts w1 B v' (vs ++ [u]) (t ++ [zs]) := by
  have hul : ∀ b, u.ownBlock = some b → b < w.heap.size := fun b hb => (hu.lt b hb).2
  refine ⟨by simp [h.len], by simpa using ho, fun l hl hl' => ?_, fun l m hl hm hlm b hb => ?_, fun l hl b hb => ?_⟩
  · by_cases e : l < t.length
    · have hl3 : l < vs.length := by rw [h.len]; exact e
      have := (h.inner l e hl3).kept hg (by
        cases hv : vs[l].ownBlock with
        | none => exact .inl rfl
        | some b => exact .inr (fun e' => h.away l hl3 b e'.symm hv))
      simpa [List.getElem_append, e, hl3] using this
    · have el : l = t.length := by simp at hl; omega
      subst el
      have := hu.kept hg (by
        cases hv : u.ownBlock with
        | none => exact .inl rfl
        | some b => exact .inr (fun e' => hne b hv e'.symm))
      simpa [List.getElem_append, h.len] using this
  · have key : ∀ (l : Nat) (hl : l < (vs ++ [u]).length), (∃ hh : l < vs.length, (vs ++ [u])[l] = vs[l]) ∨ (l = vs.length ∧ (vs ++ [u])[l] = u) := fun l hl => by
      by_cases e : l < vs.length
      · exact .inl ⟨e, by simp [e]⟩
      · have : l = vs.length := by simp at hl; omega
        subst this
        exact .inr ⟨rfl, by simp⟩
    rcases key l hl with ⟨h1, e1⟩ | ⟨h1, e1⟩ <;> rcases key m hm with ⟨h2, e2⟩ | ⟨h2, e2⟩ <;> rw [e1] at hb <;> rw [e2]
    · exact h.apart l m h1 h2 hlm b hb
    · exact fun hh => hap l h1 b hh hb
    · exact hap m h2 b hb
    · omega
  · by_cases e : l < vs.length
    · rw [show (vs ++ [u])[l] = vs[l] by simp [e]]
      rcases hat with e' | ⟨b', e', hb'⟩
      · exact h.away l e b (e' ▸ hb)
      · intro hh
        have := (h.inner_lt e hh).2
        rw [e'] at hb; cases hb; omega
    · have : l = vs.length := by simp at hl; omega
      subst this
      rw [show (vs ++ [u])[vs.length] = u by simp]
      intro hh
      rcases hat with e' | ⟨b', e', hb'⟩
      · exact hne b hh (e' ▸ hb)
      · have := hul b hh
        rw [e'] at hb; cases hb; omega

/-- What make lays: n rows that are nil. -/
theorem OwnT.made (w : World) (n : Nat) (hB : B ≤ w.heap.size) (hn : n ≤ 9223372036854775807) :
    OwnT (α := α) enc te ts (w.alloc (.cells (madeCells #[.slice none 0 0] n) ts)) B (.slice (some ⟨w.heap.size, 0, none⟩) n n) (List.replicate n (.slice none 0 0)) (List.replicate n []) := by
  refine ⟨by simp, ?_, fun k hk hk' => ?_, fun k l hk hl _ b hb => ?_, fun k hk b _ => ?_⟩
  · have := World.ownsRow_lit (base := B) (e := ts) (size := 1) w (madeCells #[.slice none 0 0] n) n hB (by unfold maxLen; omega) (by simp [size_madeCells])
    rw [toList_madeCells_one] at this
    simpa using this
  · simp only [List.getElem_replicate]
    exact World.ownsRow_nil _ _ _ _
  · simp only [List.getElem_replicate, Value.ownBlock] at hb; cases hb
  · simp [List.getElem_replicate, Value.ownBlock]
/-- What an empty literal lays. -/
theorem ownT_empty (w : World) (hB : B ≤ w.heap.size) : OwnT (α := α) enc te ts (w.alloc (.cells #[] ts)) B (.slice (some ⟨w.heap.size, 0, none⟩) 0 0) [] [] :=
  ⟨rfl, World.ownsRow_made w #[] 0 hB (by decide) rfl, fun k hk => by simp at hk, fun k l hk => by simp at hk, fun k hk => by simp at hk⟩

theorem add_none (b off j : Nat) : (⟨b, off, none⟩ : Addr).add j = ⟨b, off + j, none⟩ := by
  unfold Addr.add; split
  · rename_i h; subst h; rfl
  · rfl
/-- The cells of a row, as they are appended. -/
theorem TRow.news {zs : List α} (h : TRow enc w a zs) : ∀ j u, (zs.map enc)[j]? = some u → ∃ ad, a = some ad ∧ w.cell? (ad.add j) = some u := fun j u hu => by
  rw [List.getElem?_map] at hu
  obtain ⟨z, hz, rfl⟩ := Option.map_eq_some_iff.1 hu
  obtain ⟨hj, hz'⟩ := List.getElem?_eq_some_iff.1 hz
  obtain ⟨b, off, ha, hc⟩ := h j hj
  exact ⟨_, ha, by rw [add_none, hc, hz']⟩
/-- A new row of one's own. -/
def NewRow (enc : α → Value) (te : TypeId) (zs : List α) (w : World) (e : Ending) (w' : World) : Prop := ∃ v, e = .returned v ∧ w'.ownsRow w.heap.size te 1 v zs.length (zs.map enc) ∧ Ext w w'
/-- A new table of one's own. -/
def NewTab (enc : α → Value) (te ts : TypeId) (t : List (List α)) (w : World) (e : Ending) (w' : World) : Prop := ∃ v vs, e = .returned v ∧ OwnT enc te ts w' w.heap.size v vs t ∧ Ext w w'

theorem set_take {t : List (List α)} {k : Nat} (h : k < t.length) : (t.take k ++ List.replicate (t.length - k) []).set k t[k] = t.take (k + 1) ++ List.replicate (t.length - (k + 1)) [] := by
  apply List.ext_getElem
  · simp; omega
  · intro i h1 h2
    simp only [List.getElem_set, List.getElem_append, List.getElem_replicate, List.length_take, List.getElem_take]
    repeat' split
    all_goals first | rfl | omega | (rename_i h3 _; subst h3; rfl) | (rename_i h3; subst h3; rfl)

theorem OwnT.only {S : Nat → Prop} (h : OwnT enc te ts w B v vs t) (k : Only S w w') (h0 : ∀ b, v.ownBlock = some b → ¬ S b) (h1 : ∀ l (_ : l < vs.length) b, vs[l].ownBlock = some b → ¬ S b) : OwnT enc te ts w' B v vs t :=
  ⟨h.len, owns_only h.outer k h0, fun l hl hl' => owns_only (h.inner l hl hl') k (h1 l hl'), h.apart, h.away⟩
/-- The blocks of the rows. -/
def Blocks (vs : List Value) (b : Nat) : Prop := ∃ u ∈ vs, u.ownBlock = some b
theorem OwnT.blocks_ge (h : OwnT enc te ts w B v vs t) {b : Nat} (hb : Blocks vs b) : B ≤ b ∧ b < w.heap.size := by
  obtain ⟨u, hu, hub⟩ := hb
  obtain ⟨k, hk, rfl⟩ := List.getElem_of_mem hu
  exact h.inner_lt hk hub
end

section
variable {α : Type} {enc : α → Value} {w w' : World} {te ts : TypeId} {B : Nat} {v : Value} {vs us : List Value} {t : List (List α)}
/-- A table that was there before is kept. -/
theorem OwnT.only_ge {N : Nat} (h : OwnT enc te ts w B v vs t) (k : Only (Blocks us) w w') (hu : ∀ b, Blocks us b → N ≤ b) (hv : ∀ b, v.ownBlock = some b → b < N) (hvs : ∀ b, Blocks vs b → b < N) : OwnT enc te ts w' B v vs t :=
  h.only k (fun b hb hS => by have := hu b hS; have := hv b hb; omega) (fun l hl b hb hS => by have := hu b hS; have := hvs b ⟨_, List.getElem_mem hl, hb⟩; omega)
/-- A table that came later is kept. -/
theorem OwnT.only_lt (h : OwnT enc te ts w B v vs t) (k : Only (Blocks us) w w') (hu : ∀ b, Blocks us b → b < B) : OwnT enc te ts w' B v vs t :=
  h.only k (fun b hb hS => by have := hu b hS; have := (h.outer_lt hb).1; omega) (fun l hl b hb hS => by have := hu b hS; have := (h.inner_lt hl hb).1; omega)
end

/-- All blocks of cells are as they were. -/
def Cel (w w' : World) : Prop := ∀ (b : Nat) (c : Array Value) (t : TypeId) (fr : Nat × Nat), w.heap[b]? = some (.cells c t fr) → w'.heap[b]? = some (.cells c t fr)
theorem Cel.of_ext {w w' : World} (h : Ext w w') : Cel w w' := fun b _ _ _ hb => (h.block b (Array.getElem?_eq_some_iff.1 hb).1).trans hb
theorem Cel.trans {a b c : World} (h : Cel a b) (k : Cel b c) : Cel a c := fun x y z u hx => k x y z u (h x y z u hx)
theorem Cel.cell {w w' : World} (h : Cel w w') {p : Addr} {v : Value} (hc : w.cell? p = some v) : w'.cell? p = some v := by
  cases hb : w.heap[p.block]? with
  | none => simp [World.cell?, hb] at hc
  | some o =>
    cases o with
    | cells c t fr =>
      have := h _ _ _ _ hb
      rw [← hc]
      simp [World.cell?, hb, this]
    | _ => simp [World.cell?, hb] at hc
theorem Cel.frozen {w w' : World} (h : Cel w w') {p : Addr} {v : Value} (hc : w.cell? p = some v) : w'.frozen? p = w.frozen? p := by
  cases hb : w.heap[p.block]? with
  | none => simp [World.cell?, hb] at hc
  | some o =>
    cases o with
    | cells c t fr =>
      have := h _ _ _ _ hb
      simp [World.frozen?, hb, this]
    | _ => simp [World.cell?, hb] at hc
theorem Cel.owns {w w' : World} (k : Cel w w') {B : Nat} {e : TypeId} {s : Nat} {v : Value} {n : Nat} {xs : List Value} (h : w.ownsRow B e s v n xs) : w'.ownsRow B e s v n xs := by
  refine ⟨h.1, ?_⟩
  rcases h.2 with hn | ⟨g, cap, cur, rfl, hb, hgg, rest⟩
  · exact .inl hn
  · exact .inr ⟨g, cap, cur, rfl, hb, k _ _ _ _ hgg, rest⟩
section
variable {α : Type} {enc : α → Value} {w w' : World} {a : Option Addr} {te ts : TypeId} {B : Nat} {v : Value} {vs : List Value} {t : List (List α)}
theorem OwnT.cel (h : OwnT enc te ts w B v vs t) (k : Cel w w') : OwnT enc te ts w' B v vs t :=
  ⟨h.len, k.owns h.outer, fun l hl hl' => k.owns (h.inner l hl hl'), h.apart, h.away⟩
theorem TRow.cel {zs : List α} (h : TRow enc w a zs) (k : Cel w w') : TRow enc w' a zs := fun i hi => by
  obtain ⟨b, off, ha, hc⟩ := h i hi
  exact ⟨b, off, ha, k.cell hc⟩
theorem TRows.cel (h : TRows enc w a t) (k : Cel w w') : TRows enc w' a t := fun i hi => by
  obtain ⟨b, off, ak, ck, ha, hc, hl, hn, hr⟩ := h i hi
  exact ⟨b, off, ak, ck, ha, k.cell hc, hl, hn, hr.cel k⟩
end
/-- A variable in a block of its own. -/
def Box (w : World) (b : Nat) (t : TypeId) (v : Value) : Prop := w.heap[b]? = some (.cells #[v] t (0, 0))
theorem Box.cel {w w' : World} {b : Nat} {t : TypeId} {v : Value} (h : Box w b t v) (k : Cel w w') : Box w' b t v := k _ _ _ _ h
theorem Box.ext {w w' : World} {b : Nat} {t : TypeId} {v : Value} (h : Box w b t v) (k : Ext w w') : Box w' b t v := h.cel (Cel.of_ext k)
theorem Box.new (w : World) (t : TypeId) (v : Value) : Box (w.alloc (.cells #[v] t)) w.heap.size t v := heap_alloc_new w _
theorem Box.cell {w : World} {b : Nat} {t : TypeId} {v : Value} (h : Box w b t v) : w.cell? ⟨b, 0, none⟩ = some v := by
  rw [cell_of_row w b 0 #[v] t (0, 0) h]; rfl
theorem Box.frozen {w : World} {b : Nat} {t : TypeId} {v : Value} (h : Box w b t v) : w.frozen? ⟨b, 0, none⟩ = false := by
  simp [World.frozen?, show w.heap[b]? = _ from h]
theorem Box.lt {w : World} {b : Nat} {t : TypeId} {v : Value} (h : Box w b t v) : b < w.heap.size := (Array.getElem?_eq_some_iff.1 h).1
theorem Box.set {w : World} {b : Nat} {t : TypeId} {v : Value} (h : Box w b t v) (u : Value) : Box (w.setCell ⟨b, 0, none⟩ u) b t u := heap_setCell_same w b 0 #[v] t u h
theorem Box.other {w : World} {b : Nat} {t : TypeId} {v : Value} (h : Box w b t v) (p : Addr) (u : Value) (hp : p.block ≠ b) : Box (w.setCell p u) b t v :=
  (Below.heap_setCell w p u b (fun e => hp e.symm)).trans h
theorem Box.grown {w w' : World} {b : Nat} {t : TypeId} {v : Value} {row : Option Nat} (h : Box w b t v) (g : w.grownBy w' row) (hr : row ≠ some b) : Box w' b t v :=
  (g.block b h.lt (fun e => hr e.symm)).trans h
end Go.DC

/- Rectangles as functions of row and column: plain words. -/
namespace Go.DC
section
variable {α : Type}
/-- The table of h rows and m columns with cell g i j. -/
def tabOf (h m : Nat) (g : Nat → Nat → α) : List (List α) := (List.range h).map fun i => (List.range m).map fun j => g i j
def upd (g : Nat → Nat → α) (i j : Nat) (z : α) : Nat → Nat → α := fun i' j' => if i' = i ∧ j' = j then z else g i' j'
def get (d : α) (t : List (List α)) (i j : Nat) : α := (t.getD i []).getD j d

theorem tabOf_length (h m : Nat) (g : Nat → Nat → α) : (tabOf h m g).length = h := by simp [tabOf]
theorem tabOf_row (h m : Nat) (g : Nat → Nat → α) {i : Nat} (hi : i < (tabOf h m g).length) : (tabOf h m g)[i] = (List.range m).map fun j => g i j := by simp [tabOf]
theorem tabOf_rowlen (h m : Nat) (g : Nat → Nat → α) {i : Nat} (hi : i < (tabOf h m g).length) : (tabOf h m g)[i].length = m := by rw [tabOf_row]; simp
theorem tabOf_cell (h m : Nat) (g : Nat → Nat → α) {i j : Nat} (hi : i < (tabOf h m g).length) (hj : j < (tabOf h m g)[i].length) : (tabOf h m g)[i][j] = g i j := by simp [tabOf]
theorem tabOf_congr {h m : Nat} {g f : Nat → Nat → α} (e : ∀ i j, i < h → j < m → g i j = f i j) : tabOf h m g = tabOf h m f := by
  unfold tabOf
  apply List.map_congr_left
  intro i hi
  apply List.map_congr_left
  intro j hj
  exact e i j (List.mem_range.1 hi) (List.mem_range.1 hj)
theorem tabOf_inj {h m : Nat} {g f : Nat → Nat → α} (e : tabOf h m g = tabOf h m f) : ∀ i j, i < h → j < m → g i j = f i j := fun i j hi hj => by
  have h1 : i < (tabOf h m g).length := by rw [tabOf_length]; exact hi
  have h2 : i < (tabOf h m f).length := by rw [tabOf_length]; exact hi
  have h3 : j < (tabOf h m g)[i].length := by rw [tabOf_rowlen]; exact hj
  have h4 : j < (tabOf h m f)[i].length := by rw [tabOf_rowlen]; exact hj
  rw [← tabOf_cell h m g h1 h3, ← tabOf_cell h m f h2 h4]
  congr 1
  simp [e]
theorem tabOf_set {h m : Nat} {g : Nat → Nat → α} {i j : Nat} (z : α) (hi : i < (tabOf h m g).length) : (tabOf h m g).set i ((tabOf h m g)[i].set j z) = tabOf h m (upd g i j z) := by
  apply List.ext_getElem
  · simp [tabOf]
  · intro k h1 h2
    have hk : k < h := by simpa [tabOf] using h2
    rw [List.getElem_set]
    split
    · rename_i e
      subst e
      apply List.ext_getElem
      · simp [tabOf]
      · intro l h3 h4
        have hl : l < m := by simpa [tabOf] using h4
        rw [List.getElem_set]
        simp only [tabOf, List.getElem_map, List.getElem_range, upd]
        split
        · rename_i e; subst e; simp
        · rename_i e; rw [if_neg (fun h => e h.2.symm)]
    · rename_i e
      simp only [tabOf, List.getElem_map, List.getElem_range, upd]
      apply List.map_congr_left
      intro l _
      rw [if_neg (fun h => e h.1.symm)]
theorem get_tabOf {d : α} {h m : Nat} (g : Nat → Nat → α) {i j : Nat} (hi : i < h) (hj : j < m) : get d (tabOf h m g) i j = g i j := by
  simp [get, tabOf, hi, hj]
/-- All rows have m cells. -/
def Rect (t : List (List α)) (h m : Nat) : Prop := t.length = h ∧ ∀ k (hk : k < t.length), t[k].length = m
theorem Rect.eq {t : List (List α)} {h m : Nat} (d : α) (r : Rect t h m) : t = tabOf h m (get d t) := by
  apply List.ext_getElem
  · simp [tabOf, r.1]
  · intro i h1 h2
    apply List.ext_getElem
    · rw [r.2 i h1, tabOf_rowlen]
    · intro j h3 h4
      rw [tabOf_cell]
      simp [get, h1, h3]
theorem rect_tabOf (h m : Nat) (g : Nat → Nat → α) : Rect (tabOf h m g) h m := ⟨tabOf_length h m g, fun _ hk => tabOf_rowlen h m g hk⟩
theorem replicate_tab (h m : Nat) (z : α) : List.replicate h (List.replicate m z) = tabOf h m (fun _ _ => z) := by
  apply List.ext_getElem
  · simp [tabOf]
  · intro i h1 h2
    apply List.ext_getElem
    · simp [tabOf]
    · intro j h3 h4
      simp [tabOf]
theorem get_cell {d : α} {t : List (List α)} {i j : Nat} (hi : i < t.length) (hj : j < t[i].length) : get d t i j = t[i][j] := by
  simp [get, hi, hj]

variable {enc : α → Value} {te ts : TypeId} {w : World} {B : Nat} {v : Value} {vs : List Value}
/-- What is needed to read and to write cell (i, j) of a rectangle of one's own. -/
theorem OwnT.atC {h m i j : Nat} {g : Nat → Nat → α} (ow : OwnT enc te ts w B v vs (tabOf h m g)) (hi : i < h) (hj : j < m) :
    ∃ o c b ck, v = .slice (some ⟨o, 0, none⟩) h c ∧ B ≤ o ∧ w.cell? ⟨o, i, none⟩ = some (.slice (some ⟨b, 0, none⟩) m ck) ∧ B ≤ b ∧ b ≠ o ∧ vs[i]? = some (.slice (some ⟨b, 0, none⟩) m ck)
      ∧ w.cell? ⟨b, j, none⟩ = some (enc (g i j)) ∧ w.frozen? ⟨b, j, none⟩ = false ∧ w.frozen? ⟨o, i, none⟩ = false := by
  have h1 : i < (tabOf h m g).length := by rw [tabOf_length]; exact hi
  have h3 : j < (tabOf h m g)[i].length := by rw [tabOf_rowlen]; exact hj
  obtain ⟨o, c, b, ck, e1, e2, e3, e4, e5, e6, e7, e8, e9⟩ := ow.at h1 h3
  rw [tabOf_length] at e1
  rw [tabOf_rowlen] at e3 e6
  rw [tabOf_cell] at e7
  exact ⟨o, c, b, ck, e1, e2, e3, e4, e5, e6, e7, e8, e9⟩
theorem OwnT.setC {h m i j b n ck : Nat} {g : Nat → Nat → α} (ow : OwnT enc te ts w B v vs (tabOf h m g)) (hi : i < h) (hb : vs[i]? = some (.slice (some ⟨b, 0, none⟩) n ck)) (z : α) :
    OwnT enc te ts (w.setCell ⟨b, j, none⟩ (enc z)) B v vs (tabOf h m (upd g i j z)) := by
  have h1 : i < (tabOf h m g).length := by rw [tabOf_length]; exact hi
  have := ow.set (j := j) h1 hb z
  rwa [tabOf_set] at this
/-- A cell of a table that is read. -/
theorem TRows.atC {a : Option Addr} {t : List (List α)} {h m i j : Nat} (d : α) (hr : TRows enc w a t) (r : Rect t h m) (hi : i < h) (hj : j < m) :
    ∃ b off b2 off2 ck, a = some ⟨b, off, none⟩ ∧ w.cell? ⟨b, off + i, none⟩ = some (.slice (some ⟨b2, off2, none⟩) m ck) ∧ w.cell? ⟨b2, off2 + j, none⟩ = some (enc (get d t i j)) := by
  have h1 : i < t.length := by rw [r.1]; exact hi
  obtain ⟨b, off, ak, ck, ha, hc, _, _, hrow⟩ := hr i h1
  have h3 : j < t[i].length := by rw [r.2 i h1]; exact hj
  obtain ⟨b2, off2, rfl, hc2⟩ := hrow j h3
  rw [r.2 i h1] at hc
  exact ⟨b, off, b2, off2, ck, ha, hc, by rw [hc2, get_cell h1 h3]⟩
theorem TRows.rowC {a : Option Addr} {t : List (List α)} {h m i : Nat} (hr : TRows enc w a t) (r : Rect t h m) (hi : i < h) :
    ∃ b off ak ck, a = some ⟨b, off, none⟩ ∧ w.cell? ⟨b, off + i, none⟩ = some (.slice ak m ck) := by
  have h1 : i < t.length := by rw [r.1]; exact hi
  obtain ⟨b, off, ak, ck, ha, hc, _, _, _⟩ := hr i h1
  rw [r.2 i h1] at hc
  exact ⟨b, off, ak, ck, ha, hc⟩
end
end Go.DC
