/- Drawn masks. -/
import Derived.Test.YtelcdjbbcffliaaTabDraw
import Derived.Test.YtelcdjbbcffliaaGrow
namespace Go.Proofs.Ytelcdjbbcffliaa
open Go.RowKit Go.DC
/-- A drawn mask. -/
def MaskOut (r p : Nat) (w : World) (e : Ending) (w' : World) : Prop :=
  ∃ v vs m, e = .returned v ∧ OwnB w' w.heap.size v vs m ∧ m.length ≤ 5 ∧ (∀ x ∈ m, x.length ≤ 4) ∧ (∃ p', p' ≤ p + 18 ∧ Rd w' r p') ∧ Keep r w w'
theorem small_app {m : List (List Bool)} {zs : List Bool} {n : Nat} (h : ∀ x ∈ m, x.length ≤ n) (hz : zs.length ≤ n) : ∀ x ∈ m ++ [zs], x.length ≤ n := fun x hx => by
  rcases List.mem_append.1 hx with h1 | h1
  · exact h x h1
  · rw [List.mem_singleton.1 h1]; exact hz
set_option maxHeartbeats 4000000 in
theorem l92Mask_any (r p B0 : Nat) (a : Option Addr) (c : Nat) (vst : List Value) (t : List (List Int)) (w : World) (h : Rd w r p) (hp : p ≤ 900000) (ot : OwnI w B0 (.slice a t.length c) vst t) (hr : r < B0) (hl : t.length ≤ 4) (hll : ∀ x ∈ t, x.length ≤ 4) :
    Calls Try.prog 68 #[.pointer (some ⟨r, 0, none⟩), .slice a t.length c] w (MaskOut r p w) := by
  have OT := Lib.hid ot; clear ot
  have HL := Lib.hid hll; clear hll
  have hrB : r < w.heap.size := h.lt
  have R0 := h.ext ((Ext.refl w).alloc (.cells #[] 53))
  go_enter Try.func68, Try.ntmps68
  go_wp2_with fail
  refine (pick_any r p 3 _ R0 (by omega) (by omega)).mono ?_
  rintro e w1 ⟨x1, hx1, hx1', rfl, R1, k1⟩
  have own0 : OwnB w1 w.heap.size (.slice (some ⟨w.heap.size, 0, none⟩) 0 0) [] [] := (ownT_empty (enc := encB) (te := 4) (ts := 53) w (Nat.le_refl _)).keep k1 hrB
  have K1 : Keep r w w1 := (Keep.of_ext ((Ext.refl w).alloc (.cells #[] 53))).trans k1
  clear R0 k1
  go_wp2_with fail
  go_loopg [5, 7] t.length (fun g v i wr => ∃ (k q : Nat) (vs : List Value) (m : List (List Bool)), k ≤ t.length ∧ g = t.length - k ∧ i = .int .i64 k ∧ OwnB wr w.heap.size v vs m ∧ m.length = k ∧ (∀ x ∈ m, x.length ≤ 4) ∧ q ≤ p + 1 + k * 4 ∧ Rd wr r q ∧ Keep r w wr)
  case atStart => exact ⟨0, p + 1, [], [], Nat.zero_le _, rfl, rfl, own0, rfl, fun x hx => by simp at hx, by omega, R1, K1⟩
  case round =>
    clear own0 R1 K1
    obtain ⟨k, q, vs, m, hk, rfl, rfl, own, hmk, hm4, hq, R, K⟩ := hrel
    have HM4 := Lib.hid hm4; have HMK := Lib.hid hmk; have hmk4 : m.length ≤ 4 := (by omega); clear hm4 hmk
    by_cases hlt : k < t.length
    · have hz : (k : Int) < (t.length : Int) := by omega
      have hsz := K.size
      have hlk : t[k].length ≤ 4 := HL.out _ (List.getElem_mem hlt)
      obtain ⟨av, cv, hv, _, _⟩ := own.rows
      subst hv
      have bld0 := Bld.start own hsz
      have xa := (Ext.refl wr).alloc (.cells #[] 4)
      have hat : ∀ k', (Value.slice av m.length cv).ownBlock = some k' → w.heap.size ≤ k' := fun k' hk' => (own.outer_lt hk').1
      have HA := Lib.hid hat
      have R2 := R.ext xa
      have K2 : Keep r w (wr.alloc (.cells #[] 4)) := K.trans (Keep.of_ext xa)
      clear own hat R K xa
      go_wp2_with fail
      go_loopg [8, 9] t[k].length (fun g v' i wi => ∃ (j q' : Nat) (zs : List Bool), j ≤ t[k].length ∧ g = t[k].length - j ∧ i = .int .i64 j ∧ BldB wi w.heap.size (.slice av m.length cv) vs m v' zs ∧ zs.length = j ∧ q' ≤ p + 1 + k * 4 + j ∧ Rd wi r q' ∧ Keep r w wi)
      case atStart => exact ⟨0, q, [], Nat.zero_le _, rfl, rfl, bld0, rfl, by omega, R2, K2⟩
      case round =>
        clear bld0 R2 K2 hsz hq
        obtain ⟨j, q', zs, hj, rfl, rfl, bld, hzs, hq, R, K⟩ := hrel
        have HZS := Lib.hid hzs; have hzs4 : zs.length ≤ 4 := (by omega); clear hzs
        obtain ⟨ao, co, eo, _, rowso, _⟩ := (OT.out.keep K hr).rows
        cases eo
        obtain ⟨tb, off, ak, ck, rfl, hck, _, _, _⟩ := rowso k hlt
        clear rowso
        have hsz := K.size
        by_cases hjt : j < t[k].length
        · have hjz : (j : Int) < (t[k].length : Int) := by omega
          have BL := Lib.hid bld; clear bld
          go_wp2_with fail
          refine (pick_any r q' 3 _ R (by omega) (by omega)).mono ?_
          rintro e w6 ⟨y, hy0, hy1, rfl, R6, k6⟩
          have bld6 := BL.out.keep k6 hrB
          obtain ⟨z, hz2⟩ : ∃ z, decide (y < 1 + x1) = z := ⟨_, rfl⟩
          have bld1 := bld6.ext ((Ext.refl w6).alloc (.cells #[.bool z] 4))
          have hone : BRow (w6.alloc (.cells #[.bool z] 4)) (some ⟨w6.heap.size, 0, none⟩) [z] := one_row w6 z
          have hb : zs.length + [z].length ≤ 10000000 := by simp; omega
          have hs6 : w.heap.size ≤ w6.heap.size := Nat.le_trans hsz k6.size
          have hB : w.heap.size ≤ (w6.alloc (.cells #[.bool z] 4)).heap.size := by simp; omega
          have B1 := Lib.hid bld1; have HO := Lib.hid hone
          clear bld1 hone bld6
          go_wp2_with (at_builtin; refine wpList_rowB rfl (.tmp 30) (.tmp 35) rfl w.heap.size _ zs rfl B1.out.row _ _ [z] rfl (fun h => by cases h) HO.out hb hB ?_; intro v2 w2 hu hg _ hat)
          have bld2 := B1.out.more hg hu hat
          have R8 : Rd w2 r (q' + 1) := (R6.ext ((Ext.refl w6).alloc (.cells #[.bool z] 4))).grown hg (fun k' hk' => by have := (B1.out.lt hk').1; omega)
          have K8 : Keep r w w2 := ((K.trans k6).alloc (.cells #[.bool z] 4)).grownNew hg (fun k' hk' => (B1.out.lt hk').1)
          clear hu hg hat B1 HO
          go_wp2_with fail
          go_roundg (t[k].length - (j + 1))
          case measure => omega
          case rel => exact ⟨j + 1, q' + 1, _, by omega, rfl, by go_num, bld2, by simp [HZS.out], by omega, R8, K8⟩
        · have hjz : ¬ (j : Int) < (t[k].length : Int) := by omega
          have hjm : j = t[k].length := by omega
          have HJ := Lib.hid hjm; clear hjm
          obtain ⟨ar, cr, hvr, _⟩ := owns_cells bld.row
          subst hvr
          have bld1 := bld.ext ((Ext.refl wr).alloc (.cells #[.slice ar zs.length cr] 53))
          have hcell := one_cell wr (.slice ar zs.length cr) 53
          have hB : w.heap.size ≤ (wr.alloc (.cells #[.slice ar zs.length cr] 53)).heap.size := by simp; omega
          have B1 := Lib.hid bld1; have HC := Lib.hid hcell
          have hN2 : m.length ≤ 10000000 := by omega
          have R3 := R.ext ((Ext.refl wr).alloc (.cells #[.slice ar zs.length cr] 53))
          clear bld bld1 hcell
          go_wp2_with (at_builtin; refine wpList_pushB rfl (.tmp 37) (.tmp 39) rfl w.heap.size _ vs m rfl B1.out.outer wr.heap.size rfl _ rfl HC.out zs B1.out.row B1.out.ne B1.out.ap hN2 hB ?_; intro v' w2 own3 hg2 _)
          have R8 : Rd w2 r q' := R3.grown hg2 (fun k' hk' => by have := HA.out k' hk'; omega)
          have K8 : Keep r w w2 := (K.alloc (.cells #[.slice ar zs.length cr] 53)).grownNew hg2 HA.out
          have hm5 := small_app HM4.out (zs := zs) (by omega)
          have HM5 := Lib.hid hm5
          clear hg2 B1 HC hm5
          go_wp2_with fail
          go_roundg (t.length - (k + 1))
          case measure => omega
          case rel => exact ⟨k + 1, q', _, _, by omega, rfl, by go_num, own3, by simp [HMK.out], HM5.out, by omega, R8, K8⟩
    · have hz : ¬ (k : Int) < (t.length : Int) := by omega
      go_wp2_with fail
      refine (pick_any r q 30 _ R (by omega) (by omega)).mono ?_
      rintro e w6 ⟨y, hy0, hy1, rfl, R6, k6⟩
      have own6 := own.keep k6 hrB
      have K6 := K.trans k6
      obtain ⟨av, cv, hv, _, _⟩ := own6.rows
      subst hv
      by_cases y0 : y = 0
      · subst y0
        have x1' : Ext w6 (w6.alloc (.cells #[.bool true] 4)) := (Ext.refl w6).alloc _
        have x2' := x1'.alloc (.cells #[.slice (some ⟨w6.heap.size, 0, none⟩) 1 1] 53)
        have hs6 : w.heap.size ≤ w6.heap.size := K6.size
        have hrow : ((w6.alloc (.cells #[.bool true] 4)).alloc (.cells #[.slice (some ⟨w6.heap.size, 0, none⟩) 1 1] 53)).ownsRow w.heap.size 4 1 (.slice (some ⟨w6.heap.size, 0, none⟩) 1 1) [true].length ([true].map encB) :=
          owns_ext (World.ownsRow_lit (base := w.heap.size) (e := 4) (size := 1) w6 #[.bool true] 1 hs6 (by unfold maxLen; omega) (by simp)) ((Ext.refl _).alloc _)
        have ho := own6.ext x2'
        have hne : ∀ b, (Value.slice (some (⟨w6.heap.size, 0, none⟩ : Addr)) 1 1).ownBlock = some b → (Value.slice av m.length cv).ownBlock ≠ some b := fun b hb hh => by
          have := (own6.outer_lt hh).2; simp [Value.ownBlock] at hb; omega
        have hap : ∀ l (_ : l < vs.length), ∀ b, (Value.slice (some (⟨w6.heap.size, 0, none⟩ : Addr)) 1 1).ownBlock = some b → vs[l].ownBlock ≠ some b := fun l hl b hb hh => by
          have := (own6.inner_lt hl hh).2; simp [Value.ownBlock] at hb; omega
        have hcell : ((w6.alloc (.cells #[.bool true] 4)).alloc (.cells #[.slice (some ⟨w6.heap.size, 0, none⟩) 1 1] 53)).cell? ⟨w6.heap.size + 1, 0, none⟩ = some (.slice (some ⟨w6.heap.size, 0, none⟩) 1 1) := by simp [go_sem]
        have hN2 : m.length ≤ 10000000 := by omega
        have hB : w.heap.size ≤ ((w6.alloc (.cells #[.bool true] 4)).alloc (.cells #[.slice (some ⟨w6.heap.size, 0, none⟩) 1 1] 53)).heap.size := by simp; omega
        have hat : ∀ k', (Value.slice av m.length cv).ownBlock = some k' → w.heap.size ≤ k' := fun k' hk' => (own6.outer_lt hk').1
        have R3 := R6.ext x2'
        have HRW := Lib.hid hrow; have HO := Lib.hid ho; have NE := Lib.hid hne; have AP := Lib.hid hap; have HC := Lib.hid hcell; have HA := Lib.hid hat
        clear hrow ho hne hap hcell hat own6 own
        go_wp2_with (at_builtin; refine wpList_pushB rfl (.tmp 44) (.tmp 46) rfl w.heap.size _ vs m rfl HO.out (w6.heap.size + 1) rfl _ rfl HC.out [true] HRW.out NE.out AP.out hN2 hB ?_; intro v' w2 own3 hg2 _)
        have R8 : Rd w2 r (q + 1) := R3.grown hg2 (fun k' hk' => by have := HA.out k' hk'; omega)
        have K8 : Keep r w w2 := (K6.trans (Keep.of_ext x2')).grownNew hg2 HA.out
        go_ret
        exact ⟨_, _, _, rfl, own3, by simp; omega, small_app HM4.out (by simp), ⟨q + 1, by omega, R8⟩, K8⟩
      · have y0b : (y == 0) = false := by simpa using y0
        have HO := Lib.hid own6; clear own6 own
        go_wp2_with fail
        go_ret
        exact ⟨_, vs, m, rfl, HO.out, by omega, HM4.out, ⟨q + 1, by omega, R6⟩, K6⟩
end Go.Proofs.Ytelcdjbbcffliaa
