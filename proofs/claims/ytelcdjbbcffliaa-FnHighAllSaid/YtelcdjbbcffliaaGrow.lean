/- Tables of one's own that are built row by row, the last row cell by cell. -/
import Derived.Test.YtelcdjbbcffliaaTabSpecB
import Derived.Test.YtelcdjbbcffliaaMask
namespace Go.DC
open Go.RowKit
section
variable {α : Type} {enc : α → Value} {te ts : TypeId} {w w' : World} {B : Nat} {vo : Value} {vs : List Value} {t : List (List α)} {vr : Value} {zs : List α}
/-- A table of one's own, and beside it a row of one's own that is not yet in it. -/
structure Bld (enc : α → Value) (te ts : TypeId) (w : World) (B : Nat) (vo : Value) (vs : List Value) (t : List (List α)) (vr : Value) (zs : List α) : Prop where
  outer : OwnT enc te ts w B vo vs t
  row : w.ownsRow B te 1 vr zs.length (zs.map enc)
  ne : ∀ b, vr.ownBlock = some b → vo.ownBlock ≠ some b
  ap : ∀ l (_ : l < vs.length), ∀ b, vr.ownBlock = some b → vs[l].ownBlock ≠ some b
theorem Bld.ext (h : Bld enc te ts w B vo vs t vr zs) (e : Ext w w') : Bld enc te ts w' B vo vs t vr zs := ⟨h.outer.ext e, owns_ext h.row e, h.ne, h.ap⟩
theorem Bld.keep {r : Nat} (h : Bld enc te ts w B vo vs t vr zs) (e : Keep r w w') (hr : r < B) : Bld enc te ts w' B vo vs t vr zs := ⟨h.outer.keep e hr, owns_keep h.row e hr, h.ne, h.ap⟩
theorem Bld.start (h : OwnT enc te ts w B vo vs t) (hB : B ≤ w.heap.size) : Bld enc te ts (w.alloc (.cells #[] te)) B vo vs t (.slice (some ⟨w.heap.size, 0, none⟩) 0 0) [] :=
  ⟨h.ext ((Ext.refl w).alloc _), World.ownsRow_made w #[] 0 hB (by decide) rfl,
   fun b hb hh => by have := (h.outer_lt hh).2; simp [Value.ownBlock] at hb; omega,
   fun l hl b hb hh => by have := (h.inner_lt hl hh).2; simp [Value.ownBlock] at hb; omega⟩
theorem Bld.more {vr' : Value} {zs' : List α} (h : Bld enc te ts w B vo vs t vr zs) (g : w.grownBy w' vr.ownBlock) (o : w'.ownsRow B te 1 vr' zs'.length (zs'.map enc)) (hat : vr'.ownBlock = vr.ownBlock ∨ vr'.ownBlock = some w.heap.size) : Bld enc te ts w' B vo vs t vr' zs' := by
  refine ⟨h.outer.grown g ?_ ?_, o, fun b hb hh => ?_, fun l hl b hb hh => ?_⟩
  · cases hv : vo.ownBlock with
    | none => exact .inl rfl
    | some b => exact .inr (fun e => h.ne b e.symm hv)
  · intro k hk
    cases hv : vs[k].ownBlock with
    | none => exact .inl rfl
    | some b => exact .inr (fun e => h.ap k hk b e.symm hv)
  · rcases hat with e | e
    · exact h.ne b (e ▸ hb) hh
    · rw [e] at hb; cases hb
      have := (h.outer.outer_lt hh).2; omega
  · rcases hat with e | e
    · exact h.ap l hl b (e ▸ hb) hh
    · rw [e] at hb; cases hb
      have := (h.outer.inner_lt hl hh).2; omega
theorem Bld.lt (h : Bld enc te ts w B vo vs t vr zs) {b : Nat} (hb : vr.ownBlock = some b) : B ≤ b ∧ b < w.heap.size := h.row.lt b hb
theorem one_row (w : World) (z : α) : TRow enc (w.alloc (.cells #[enc z] te)) (some ⟨w.heap.size, 0, none⟩) [z] := fun i hi => ⟨w.heap.size, 0, rfl, by
  have : i = 0 := by simpa using hi
  subst this
  simp [go_sem]⟩
theorem one_cell (w : World) (u : Value) (ty : TypeId) : (w.alloc (.cells #[u] ty)).cell? ⟨w.heap.size, 0, none⟩ = some u := by simp [go_sem]
end
end Go.DC
namespace Go.Proofs.Ytelcdjbbcffliaa
open Go.RowKit Go.DC
abbrev BldB := @Bld Bool encB 4 53
/-- The value of a row of one's own is one cell. -/
theorem own_one {w : World} {B : Nat} {e : TypeId} {s n : Nat} {v : Value} {xs : List Value} (h : w.ownsRow B e s v n xs) : v.oneCell' = true := by
  obtain ⟨a, c, rfl, _⟩ := owns_cells h; rfl
/-- The mask of a table with equal flags. -/
def allM (t : List (List Int)) (b : Bool) : List (List Bool) := t.map fun r => List.replicate r.length b
theorem allM_take (t : List (List Int)) (b : Bool) {k : Nat} (h : k < t.length) : allM (t.take (k + 1)) b = allM (t.take k) b ++ [List.replicate t[k].length b] := by
  unfold allM
  rw [List.take_succ_eq_append_getElem h, List.map_append]; rfl
set_option maxHeartbeats 2000000 in
theorem allMask_any (a : Option Addr) (c : Nat) (t : List (List Int)) (b : Bool) (w : World) (ht : IRows w a t) (hl : t.length ≤ 1000) (hll : ∀ k (h : k < t.length), t[k].length ≤ 1000) :
    Calls Try.prog 27 #[.slice a t.length c, .bool b] w (NewTab encB 4 53 (allM t b) w) := by
  have HT := Lib.hid ht; clear ht
  have HL := Lib.hid hll; clear hll
  go_enter Try.func27, Try.ntmps27
  go_wp2_with fail
  go_loopg [5, 6] t.length (fun g v i wr => ∃ (k : Nat) (vs : List Value), k ≤ t.length ∧ g = t.length - k ∧ i = .int .i64 k ∧ OwnB wr w.heap.size v vs (allM (t.take k) b) ∧ Ext w wr)
  case atStart => exact ⟨0, [], Nat.zero_le _, rfl, rfl, by simpa [allM] using ownT_empty (enc := encB) (te := 4) (ts := 53) w (Nat.le_refl _), (Ext.refl _).alloc _⟩
  case round =>
    obtain ⟨k, vs, hk, rfl, rfl, own, hext⟩ := hrel
    by_cases hlt : k < t.length
    · have hz : (k : Int) < (t.length : Int) := by omega
      have hsz := hext.size
      have hll := HL.out k hlt
      obtain ⟨av, cv, hv, _, _⟩ := own.rows
      subst hv
      have bld0 := Bld.start own hsz
      have xa := (Ext.refl wr).alloc (.cells #[] 4)
      have hat : ∀ k', (Value.slice av (allM (t.take k) b).length cv).ownBlock = some k' → w.heap.size ≤ k' := fun k' hk' => (own.outer_lt hk').1
      have HA := Lib.hid hat
      have hN : (allM (t.take k) b).length ≤ 1000 := by simp [allM]; omega
      clear own hat
      go_wp2_with fail
      go_loopg [7, 8] t[k].length (fun g v' i wi => ∃ (j : Nat), j ≤ t[k].length ∧ g = t[k].length - j ∧ i = .int .i64 j ∧ BldB wi w.heap.size (.slice av (allM (t.take k) b).length cv) vs (allM (t.take k) b) v' (List.replicate j b) ∧ Ext w wi)
      case atStart => exact ⟨0, Nat.zero_le _, rfl, rfl, bld0, hext.trans xa⟩
      case round =>
        clear bld0 hext xa hsz
        obtain ⟨j, hj, rfl, rfl, bld, hext⟩ := hrel
        obtain ⟨tb, off, ak, ck, rfl, hck, _, _, _⟩ := (HT.out.ext hext) k hlt
        have hsz := hext.size
        by_cases hjt : j < t[k].length
        · have hjz : (j : Int) < (t[k].length : Int) := by omega
          have bld1 := bld.ext ((Ext.refl wr).alloc (.cells #[.bool b] 4))
          have hone : BRow (wr.alloc (.cells #[.bool b] 4)) (some ⟨wr.heap.size, 0, none⟩) [b] := one_row wr b
          have hb : (List.replicate j b).length + [b].length ≤ 10000000 := by simp; omega
          have hB : w.heap.size ≤ (wr.alloc (.cells #[.bool b] 4)).heap.size := by simp; omega
          have B1 := Lib.hid bld1; have HO := Lib.hid hone
          clear bld1 hone bld
          go_wp2_with (at_builtin; refine wpList_rowB rfl (.tmp 26) (.tmp 28) rfl w.heap.size _ (List.replicate j b) rfl B1.out.row _ _ [b] rfl (fun h => by cases h) HO.out hb hB ?_; intro v2 w2 hu hg _ hat)
          have bld2 := B1.out.more hg hu hat
          have e2 : Ext w w2 := (hext.alloc (.cells #[.bool b] 4)).grownNew hg (fun k' hk' => (B1.out.lt hk').1)
          rw [show List.replicate j b ++ [b] = List.replicate (j + 1) b by rw [List.replicate_succ']] at bld2
          clear hu hg hat B1 HO
          go_wp2_with fail
          go_roundg (t[k].length - (j + 1))
          case measure => omega
          case rel => exact ⟨j + 1, by omega, rfl, by go_num, bld2, e2⟩
        · have hjz : ¬ (j : Int) < (t[k].length : Int) := by omega
          have hjm : j = t[k].length := by omega
          have HJ := Lib.hid hjm; clear hjm
          obtain ⟨ar, cr, hvr, _⟩ := owns_cells bld.row
          rw [List.length_replicate] at hvr
          subst hvr
          have bld1 := bld.ext ((Ext.refl wr).alloc (.cells #[.slice ar j cr] 53))
          have hcell := one_cell wr (.slice ar j cr) 53
          have hB : w.heap.size ≤ (wr.alloc (.cells #[.slice ar j cr] 53)).heap.size := by simp; omega
          have B1 := Lib.hid bld1; have HC := Lib.hid hcell
          have hN2 : (allM (t.take k) b).length ≤ 10000000 := by omega
          clear bld bld1 hcell
          go_wp2_with (at_builtin; refine wpList_pushB rfl (.tmp 30) (.tmp 32) rfl w.heap.size _ vs (allM (t.take k) b) rfl B1.out.outer wr.heap.size rfl _ rfl HC.out (List.replicate j b) B1.out.row B1.out.ne B1.out.ap hN2 hB ?_; intro v' w2 own3 hg2 _)
          have e2 : Ext w w2 := (hext.alloc (.cells #[.slice ar j cr] 53)).grownNew hg2 HA.out
          have own4 : OwnB w2 w.heap.size v' (vs ++ [.slice ar j cr]) (allM (t.take (k + 1)) b) := by
            have := HJ.out
            rw [allM_take t b hlt, ← this]; exact own3
          clear own3 hg2 B1 HC
          go_wp2_with fail
          go_roundg (t.length - (k + 1))
          case measure => omega
          case rel => exact ⟨k + 1, _, by omega, rfl, by go_num, own4, e2⟩
    · have hz : ¬ (k : Int) < (t.length : Int) := by omega
      go_wp2_with fail
      go_ret
      have hkh : k = t.length := by omega
      subst hkh
      exact ⟨_, vs, rfl, by simpa using own, hext⟩
end Go.Proofs.Ytelcdjbbcffliaa
