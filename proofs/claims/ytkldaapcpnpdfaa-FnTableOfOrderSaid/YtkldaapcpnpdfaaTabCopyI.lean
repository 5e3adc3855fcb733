/- Copies of rows and tables. -/
import Derived.Test.YtkldaapcpnpdfaaTabImpl2
namespace Go.Proofs.Ytkldaapcpnpdfaa
open Go.RowKit Go.DC
theorem Try.dcElemI : (Try.prog.info? 3).map (fun i => (i.zero, i.size, i.bytes)) = some (some (.int .i64 0), 1, 8) := by kernel_rfl
theorem Try.dcRowI : (Try.prog.info? 55).map (fun i => (i.zero, i.size, i.bytes)) = some (some (.slice none 0 0), 1, 24) := by kernel_rfl
theorem oneI (zs : List Int) : ∀ u ∈ zs.map encI, u.oneCell' = true := by
  intro u hu
  obtain ⟨z, _, rfl⟩ := List.mem_map.1 hu
  rfl

/-- append of cells onto a row of one's own. -/
theorem wpList_rowI {w : World} {ops : Array Oper} {rest : List Oper} {o : Oper} {a : Act} {Q : Exit → Act → World → Prop} (hgd : o.guard = none) (s x : Operand)
    (ho : o.op = .call { callee := .builtin .append, args := #[s, x], argTypes := #[55, 55] })
    (B : Nat) (v : Value) (ys : List Int) (hs : a.eval s = v) (own : w.ownsRow B 3 1 v ys.length (ys.map encI)) (aa : Option Addr) (c : Nat) (zs : List Int) (hx : a.eval x = .slice aa zs.length c) (hn : aa = none → c = 0) (hr : IRow w aa zs)
    (hb : ys.length + zs.length ≤ 10000000) (hB : B ≤ w.heap.size)
    (h : ∀ v' w', w'.ownsRow B 3 1 v' (ys ++ zs).length ((ys ++ zs).map encI) → w.grownBy w' v.ownBlock → (v' = .slice none 0 0 ↔ v = .slice none 0 0 ∧ zs.length = 0) → (v'.ownBlock = v.ownBlock ∨ v'.ownBlock = some w.heap.size) → wpList Try.prog ops Q rest (a.put o.dst v') w') : wpList Try.prog ops Q (o :: rest) a w := by
  obtain ⟨i0, hi, hz0, hz1, hz2⟩ := info_parts Try.dcElemI
  refine wpList_append_any hgd s x 55 ho B 3 i0 (.int .i64 0) 1 8 Try.underlying55 hi hz0 hz1 hz2 rfl (by decide) v ys.length (ys.map encI) hs own aa zs.length c (zs.map encI) hx hn (by simp) hr.news (oneI zs) (by unfold maxLen; omega) (by omega) hB ?_
  intro v' w' h1 h2 h3 h4
  exact h v' w' (by simpa using h1) h2 h3 h4
/-- append of a row onto a table of one's own. -/
theorem wpList_pushI {w : World} {ops : Array Oper} {rest : List Oper} {o : Oper} {a : Act} {Q : Exit → Act → World → Prop} (hgd : o.guard = none) (s x : Operand)
    (ho : o.op = .call { callee := .builtin .append, args := #[s, x], argTypes := #[38, 38] })
    (B : Nat) (v : Value) (vs : List Value) (t : List (List Int)) (hs : a.eval s = v) (own : OwnI w B v vs t) (g : Nat) (hx : a.eval x = .slice (some ⟨g, 0, none⟩) 1 1) (u : Value) (hu1 : u.oneCell' = true) (hg : w.cell? ⟨g, 0, none⟩ = some u) (zs : List Int)
    (hu : w.ownsRow B 3 1 u zs.length (zs.map encI)) (hne : ∀ b, u.ownBlock = some b → v.ownBlock ≠ some b) (hap : ∀ l (_ : l < vs.length), ∀ b, u.ownBlock = some b → vs[l].ownBlock ≠ some b)
    (hb : t.length ≤ 10000000) (hB : B ≤ w.heap.size)
    (h : ∀ v' w', OwnI w' B v' (vs ++ [u]) (t ++ [zs]) → w.grownBy w' v.ownBlock → (v' = .slice none 0 0 ↔ v = .slice none 0 0 ∧ 1 = 0) → wpList Try.prog ops Q rest (a.put o.dst v') w') : wpList Try.prog ops Q (o :: rest) a w := by
  obtain ⟨i0, hi, hz0, hz1, hz2⟩ := info_parts Try.dcRowI
  refine wpList_append_any hgd s x 38 ho B 55 i0 (.slice none 0 0) 1 24 Try.underlying38 hi hz0 hz1 hz2 rfl (by decide) v t.length vs hs own.outer (some ⟨g, 0, none⟩) 1 1 [u] hx (fun h => by cases h) rfl ?_ (by simpa using hu1) (by unfold maxLen; omega) (by omega) hB ?_
  · intro j y hj
    cases j with
    | zero => simp at hj; subst hj; exact ⟨_, rfl, by simpa [Addr.add] using hg⟩
    | succ j => simp at hj
  · intro v' w' h1 h2 h3 h4
    exact h v' w' (own.push hu hne hap h1 h2 (h4.imp_right fun e => ⟨_, e, Nat.le_refl _⟩)) h2 h3

set_option maxHeartbeats 1000000 in
theorem CloneI_any (a : Option Addr) (c : Nat) (zs : List Int) (w : World) (hr : IRow w a zs) (hn : a = none → c = 0) (hl : zs.length ≤ 2000000) :
    Calls Try.prog 52 #[.slice a zs.length c] w (NewRow encI 3 zs w) := by
  cases a with
  | none =>
    have hz : zs = [] := by
      cases zs with
      | nil => rfl
      | cons z zs => obtain ⟨b, off, hh, _⟩ := hr 0 (by simp); cases hh
    subst hz
    have hc := hn rfl
    subst hc
    have he : ∀ wx, (binOp .eql 55 (.slice none 0 0) (.slice none 0 0)).run Try.prog wx = .ok (.bool true) wx := fun wx => Lib.run_eql_slice_nil wx _ _ _ _ _ _ _ Try.underlying55
    simp only [List.length_nil]
    go_enter Try.func52, Try.ntmps52
    go_wp2_with fail
    go_ret
    exact ⟨_, rfl, World.ownsRow_nil _ _ _ _, Ext.refl _⟩
  | some x =>
    have he : ∀ wx, (binOp .eql 55 (.slice (some x) zs.length c) (.slice none 0 0)).run Try.prog wx = .ok (.bool false) wx := fun wx => Lib.run_eql_slice_nil wx _ _ _ _ _ _ _ Try.underlying55
    have hb : ([] : List Int).length + zs.length ≤ 10000000 := by simp; omega
    have R1 := Lib.hid (hr.ext ((Ext.refl w).alloc (.cells #[] 3))); clear hr hn
    have O1 := Lib.hid (World.ownsRow_made (base := w.heap.size) (e := 3) (size := 1) w #[] 0 (Nat.le_refl _) (by decide) rfl)
    have hw : w.heap.size ≤ (w.alloc (.cells #[] 3)).heap.size := by simp
    go_enter Try.func52, Try.ntmps52
    go_wp2_with (at_builtin; refine wpList_rowI rfl _ _ rfl w.heap.size _ [] rfl O1.out _ _ zs rfl (fun h => by cases h) R1.out hb hw ?_; intro v' w' h1 h2 h3 h4)
    go_ret
    exact ⟨v', rfl, by simpa using h1, ((Ext.refl w).alloc _).grownNew h2 (fun k hk => by cases hk; exact Nat.le_refl _)⟩
set_option maxHeartbeats 1000000 in
theorem copyTableI_any (a : Option Addr) (c : Nat) (t : List (List Int)) (w : World) (ht : IRows w a t) (hl : t.length ≤ 2000000) (hll : ∀ k (h : k < t.length), t[k].length ≤ 2000000) :
    Calls Try.prog 43 #[.slice a t.length c] w (NewTab encI 3 55 t w) := by
  have HT := Lib.hid ht; clear ht
  have HL := Lib.hid hll; clear hll
  have hmk := run_make_row' (P := Try.prog) 38 55 (.slice none 0 0) 24 Try.underlying38 Try.dcRowI rfl .i64 .i64 t.length (by omega) (by omega)
  go_enter Try.func43, Try.ntmps43
  go_wp2_with fail
  clear hmk
  go_loopg [11] t.length (fun g i wr => ∃ (k : Nat) (vs : List Value), k ≤ t.length ∧ g = t.length - k ∧ i = .int .i64 k ∧ OwnI wr w.heap.size (.slice (some ⟨w.heap.size, 0, none⟩) t.length t.length) vs (t.take k ++ List.replicate (t.length - k) []) ∧ Ext w wr)
  case atStart => exact ⟨0, _, Nat.zero_le _, rfl, rfl, by simpa using OwnT.made (enc := encI) (te := 3) (ts := 55) w t.length (Nat.le_refl _) (by omega), (Ext.refl _).alloc _⟩
  case round =>
    obtain ⟨k, vs, hk, rfl, rfl, own, hext⟩ := hrel
    by_cases hlt : k < t.length
    · have hz : (k : Int) < (t.length : Int) := by omega
      have hlen : k < (t.take k ++ List.replicate (t.length - k) []).length := by simp; omega
      have hsz := hext.size
      have hsl : w.heap.size < wr.heap.size := (own.outer_lt rfl).2
      obtain ⟨b, off, ak, ck, rfl, hck, hlk, hnk, hrk⟩ := (HT.out.ext hext) k hlt
      have HR := Lib.hid hrk; clear hrk
      have HN := Lib.hid hnk; clear hnk
      go_wp2_with fail
      refine (CloneI_any ak ck t[k] _ HR.out HN.out (HL.out k hlt)).mono ?_
      rintro e w1 ⟨u, rfl, hu, e1⟩
      have own1 := own.ext e1
      obtain ⟨c1, hc1, _, hf1⟩ := own1.cellAt hlen
      have hub := hu.lt
      have hset := own1.setRow hlen (owns_base hu hsz) (fun b hb => by have := (hub b hb).1; omega)
        (fun l hl _ b hb => by
          have h1 := (hub b hb).1
          intro hh
          have := (own.inner_lt hl hh).2
          omega)
      rw [set_take hlt] at hset
      have HS := Lib.hid hset
      obtain ⟨au, cu, rfl, _⟩ := owns_cells hu
      clear hset own own1 hub hu
      go_wp2_with fail
      go_roundg (t.length - (k + 1))
      case measure => omega
      case rel => exact ⟨k + 1, _, by omega, rfl, by go_num, HS.out, (hext.trans e1).setCell (p := ⟨w.heap.size, k, none⟩) (Nat.le_refl _) _⟩
    · have hz : ¬ (k : Int) < (t.length : Int) := by omega
      go_wp2_with fail
      go_ret
      have hkh : k = t.length := by omega
      subst hkh
      exact ⟨_, vs, rfl, by simpa using own, hext⟩
end Go.Proofs.Ytkldaapcpnpdfaa
