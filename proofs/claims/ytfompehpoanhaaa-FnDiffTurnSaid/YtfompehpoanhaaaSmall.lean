/- Masks of small cells, and how many flags are set. -/
import Derived.Test.YtfompehpoanhaaaTabEqB
import Derived.Test.YtfompehpoanhaaaCells
namespace Go.Proofs.Ytfompehpoanhaaa
open Go.RowKit Go.DC
def smallB (k z : Int) : Bool := decide (0 < z) && decide (z < k)
def smallT (t : List (List Int)) (k : Int) : List (List Bool) := t.map fun r => r.map (smallB k)
theorem smallB_cases (k z : Int) : (0 < z ∧ z < k ∧ smallB k z = true) ∨ (0 < z ∧ ¬ z < k ∧ smallB k z = false) ∨ (¬ 0 < z ∧ smallB k z = false) := by
  unfold smallB
  by_cases h1 : 0 < z
  · by_cases h2 : z < k
    · exact .inl ⟨h1, h2, by simp [h1, h2]⟩
    · exact .inr (.inl ⟨h1, h2, by simp [h2]⟩)
  · exact .inr (.inr ⟨h1, by simp [h1]⟩)
theorem smallT_len (t : List (List Int)) (k : Int) : (smallT t k).length = t.length := by simp [smallT]
theorem smallT_row {t : List (List Int)} {k : Int} {i : Nat} (h : i < t.length) (h' : i < (smallT t k).length) : (smallT t k)[i] = t[i].map (smallB k) := by simp [smallT]
theorem smallT_take (t : List (List Int)) (b : Int) {k : Nat} (h : k < t.length) : smallT (t.take (k + 1)) b = smallT (t.take k) b ++ [t[k].map (smallB b)] := by
  unfold smallT
  rw [List.take_succ_eq_append_getElem h, List.map_append]; rfl
theorem map_take1 {α β : Type} (f : α → β) {l : List α} {j : Nat} (h : j < l.length) : (l.take (j + 1)).map f = (l.take j).map f ++ [f l[j]] := by
  rw [List.take_succ_eq_append_getElem h, List.map_append]; rfl
def cntRow (r : List Bool) : Nat := (r.filter id).length
def manyT (m : List (List Bool)) : Nat := (m.map cntRow).sum
theorem cntRow_take {r : List Bool} {j : Nat} (h : j < r.length) : cntRow (r.take (j + 1)) = cntRow (r.take j) + (if r[j] then 1 else 0) := by
  unfold cntRow
  rw [List.take_succ_eq_append_getElem h, List.filter_append, List.length_append]
  cases r[j] <;> simp
theorem manyT_take {m : List (List Bool)} {k : Nat} (h : k < m.length) : manyT (m.take (k + 1)) = manyT (m.take k) + cntRow m[k] := by
  unfold manyT
  rw [List.take_succ_eq_append_getElem h, List.map_append, List.sum_append]; simp
theorem cntRow_le (r : List Bool) : cntRow r ≤ r.length := List.length_filter_le _ _
theorem manyT_le {m : List (List Bool)} {n : Nat} (h : ∀ x ∈ m, x.length ≤ n) : manyT m ≤ m.length * n := by
  induction m with
  | nil => simp [manyT]
  | cons r m ih =>
    have h1 := ih (fun x hx => h x (by simp [hx]))
    have h2 := cntRow_le r
    have h3 := h r (by simp)
    simp only [manyT, List.map_cons, List.sum_cons, List.length_cons, Nat.add_mul] at h1 ⊢
    omega
set_option maxHeartbeats 1000000 in
theorem MaskMany_any (a : Option Addr) (c : Nat) (m : List (List Bool)) (w : World) (hmk : BRows w a m) (hm : m.length ≤ 1000) (hmm : ∀ x ∈ m, x.length ≤ 1000) :
    Calls Try.prog 38 #[.slice a m.length c] w fun e w' => e = .returned (.int .i64 (manyT m)) ∧ w = w' := by
  have HM := Lib.hid hmk; clear hmk
  have HB := Lib.hid (fun k : Nat => Nat.le_trans (manyT_le (n := 1000) (fun x hx => hmm x (List.mem_of_mem_take (i := k) hx))) (Nat.mul_le_mul_right 1000 (List.length_take_le k m)))
  have HL := Lib.hid hmm; clear hmm
  go_enter Try.func38, Try.ntmps38
  go_wp2_with fail
  go_loop [3, 10] (fun s i => ∃ k : Nat, k ≤ m.length ∧ i = .int .i64 k ∧ s = .int .i64 (manyT (m.take k))) (fun _ i => m.length - (intOf i).toNat)
  case atStart => exact ⟨0, Nat.zero_le _, rfl, rfl⟩
  case round =>
    obtain ⟨k, hk, rfl, rfl⟩ := hrel
    have hbk := HB.out k
    by_cases hlt : k < m.length
    · have hz : (k : Int) < (m.length : Int) := by omega
      obtain ⟨b, off, ak, ck, rfl, hck, _, _, hrow⟩ := HM.out k hlt
      have hlr := HL.out _ (List.getElem_mem hlt)
      have HR := Lib.hid hrow; clear hrow
      obtain ⟨u, hu⟩ : ∃ u, manyT (m.take k) = u := ⟨_, rfl⟩
      have hnx := manyT_take hlt
      rw [hu] at hbk hnx ⊢
      have HN := Lib.hid hnx; clear hnx hu
      go_wp2_with fail
      go_loop [3, 16] (fun s i => ∃ j : Nat, j ≤ m[k].length ∧ i = .int .i64 j ∧ s = .int .i64 (u + cntRow (m[k].take j) : Nat)) (fun _ i => m[k].length - (intOf i).toNat)
      case atStart => exact ⟨0, Nat.zero_le _, rfl, by simp [cntRow]⟩
      case round =>
        obtain ⟨j, hj, rfl, rfl⟩ := hrel
        have hcj := Nat.le_trans (cntRow_le (m[k].take j)) (List.length_take_le _ _)
        by_cases hjt : j < m[k].length
        · have hjz : (j : Int) < (m[k].length : Int) := by omega
          obtain ⟨b2, off2, rfl, hc2⟩ := HR.out j hjt
          have hst := cntRow_take hjt
          obtain ⟨v, hv⟩ : ∃ v, cntRow (m[k].take j) = v := ⟨_, rfl⟩
          rw [hv] at hst hcj ⊢
          unfold encB at hc2
          cases hf : m[k][j] with
          | true =>
            rw [hf] at hc2 hst
            have hs : cntRow (m[k].take (j + 1)) = v + 1 := hst
            have HS := Lib.hid hs; clear hs hst hf hv
            go_wp2_with fail
            go_round
            case rel => exact ⟨j + 1, by omega, by go_num, by rw [HS.out]; go_num⟩
            case measure => simp [intOf]; omega
          | false =>
            rw [hf] at hc2 hst
            have hs : cntRow (m[k].take (j + 1)) = v := hst
            have HS := Lib.hid hs; clear hs hst hf hv
            go_wp2_with fail
            go_round
            case rel => exact ⟨j + 1, by omega, by go_num, by rw [HS.out]⟩
            case measure => simp [intOf]; omega
        · have hjz : ¬ (j : Int) < (m[k].length : Int) := by omega
          have hjm : m[k].take j = m[k] := List.take_of_length_le (by omega)
          rw [hjm]
          clear hjm hcj
          go_wp2_with fail
          go_round
          case rel => exact ⟨k + 1, by omega, by go_num, by rw [HN.out]⟩
          case measure => simp [intOf]; omega
    · have hz : ¬ (k : Int) < (m.length : Int) := by omega
      have hkm : m.take k = m := List.take_of_length_le (by omega)
      rw [hkm]
      clear hkm hbk
      go_wp2_with fail
      go_ret
      exact ⟨rfl, rfl⟩
set_option maxHeartbeats 1000000 in
theorem sMaskMany_any (a : Option Addr) (c : Nat) (m : List (List Bool)) (w : World) (hmk : BRows w a m) (hm : m.length ≤ 1000) (hmm : ∀ x ∈ m, x.length ≤ 1000) :
    Calls Try.prog 64 #[.slice a m.length c] w fun e w' => e = .returned (.int .i64 (manyT m)) ∧ w = w' := by
  have HM := Lib.hid hmk; clear hmk
  have HB := Lib.hid (fun k : Nat => Nat.le_trans (manyT_le (n := 1000) (fun x hx => hmm x (List.mem_of_mem_take (i := k) hx))) (Nat.mul_le_mul_right 1000 (List.length_take_le k m)))
  have HL := Lib.hid hmm; clear hmm
  go_enter Try.func64, Try.ntmps64
  go_wp2_with fail
  go_loop [3, 4] (fun s i => ∃ k : Nat, k ≤ m.length ∧ i = .int .i64 k ∧ s = .int .i64 (manyT (m.take k))) (fun _ i => m.length - (intOf i).toNat)
  case atStart => exact ⟨0, Nat.zero_le _, rfl, rfl⟩
  case round =>
    obtain ⟨k, hk, rfl, rfl⟩ := hrel
    have hbk := HB.out k
    by_cases hlt : k < m.length
    · have hz : (k : Int) < (m.length : Int) := by omega
      obtain ⟨b, off, ak, ck, rfl, hck, _, _, hrow⟩ := HM.out k hlt
      have hlr := HL.out _ (List.getElem_mem hlt)
      have HR := Lib.hid hrow; clear hrow
      obtain ⟨u, hu⟩ : ∃ u, manyT (m.take k) = u := ⟨_, rfl⟩
      have hnx := manyT_take hlt
      rw [hu] at hbk hnx ⊢
      have HN := Lib.hid hnx; clear hnx hu
      go_wp2_with fail
      go_loop [3, 5] (fun s i => ∃ j : Nat, j ≤ m[k].length ∧ i = .int .i64 j ∧ s = .int .i64 (u + cntRow (m[k].take j) : Nat)) (fun _ i => m[k].length - (intOf i).toNat)
      case atStart => exact ⟨0, Nat.zero_le _, rfl, by simp [cntRow]⟩
      case round =>
        obtain ⟨j, hj, rfl, rfl⟩ := hrel
        have hcj := Nat.le_trans (cntRow_le (m[k].take j)) (List.length_take_le _ _)
        by_cases hjt : j < m[k].length
        · have hjz : (j : Int) < (m[k].length : Int) := by omega
          obtain ⟨b2, off2, rfl, hc2⟩ := HR.out j hjt
          have hst := cntRow_take hjt
          obtain ⟨v, hv⟩ : ∃ v, cntRow (m[k].take j) = v := ⟨_, rfl⟩
          rw [hv] at hst hcj ⊢
          unfold encB at hc2
          cases hf : m[k][j] with
          | true =>
            rw [hf] at hc2 hst
            have hs : cntRow (m[k].take (j + 1)) = v + 1 := hst
            have HS := Lib.hid hs; clear hs hst hf hv
            go_wp2_with fail
            go_round
            case rel => exact ⟨j + 1, by omega, by go_num, by rw [HS.out]; go_num⟩
            case measure => simp [intOf]; omega
          | false =>
            rw [hf] at hc2 hst
            have hs : cntRow (m[k].take (j + 1)) = v := hst
            have HS := Lib.hid hs; clear hs hst hf hv
            go_wp2_with fail
            go_round
            case rel => exact ⟨j + 1, by omega, by go_num, by rw [HS.out]⟩
            case measure => simp [intOf]; omega
        · have hjz : ¬ (j : Int) < (m[k].length : Int) := by omega
          have hjm : m[k].take j = m[k] := List.take_of_length_le (by omega)
          rw [hjm]
          clear hjm hcj
          go_wp2_with fail
          go_round
          case rel => exact ⟨k + 1, by omega, by go_num, by rw [HN.out]⟩
          case measure => simp [intOf]; omega
    · have hz : ¬ (k : Int) < (m.length : Int) := by omega
      have hkm : m.take k = m := List.take_of_length_le (by omega)
      rw [hkm]
      clear hkm hbk
      go_wp2_with fail
      go_ret
      exact ⟨rfl, rfl⟩
def smallM (t : List (List Int)) (k : Int) : List (List Bool) := if tabOk t then smallT t k else []
def SmallOut (t : List (List Int)) (k : Int) (w : World) (e : Ending) (w' : World) : Prop :=
  ∃ v vs, e = .returned (.tuple #[v, .bool (tabOk t)]) ∧ OwnB w' w.heap.size v vs (smallM t k) ∧ Ext w w'
theorem ownB_nil (w : World) (B : Nat) : OwnB w B (.slice none 0 0) [] [] :=
  ⟨rfl, World.ownsRow_nil _ _ _ _, fun k hk => by simp at hk, fun k l hk => by simp at hk, fun k hk => by simp at hk⟩
set_option maxHeartbeats 4000000 in
theorem sMaskSmall_any (a : Option Addr) (c : Nat) (t : List (List Int)) (kk : Int) (w : World) (ht : IRows w a t) (hm : t.length ≤ 9223372036854775807) :
    Calls Try.prog 63 #[.slice a t.length c, .int .i64 kk] w (SmallOut t kk w) := by
  have HT := Lib.hid ht; clear ht
  have hx0 := (Ext.refl w).alloc (.cells #[] 37)
  have hot := ownT_empty (enc := encB) (te := 4) (ts := 37) w (Nat.le_refl _)
  go_enter Try.func63, Try.ntmps63
  go_wp2_with fail
  refine (sTableValid_any _ _ t _ (HT.out.ext hx0) hm).mono ?_
  rintro e w1 ⟨rfl, e1⟩
  have own0 : OwnB w1 w.heap.size (.slice (some ⟨w.heap.size, 0, none⟩) 0 0) [] (smallT (t.take 0) kk) := hot.ext e1
  have E1 := hx0.trans e1
  clear hot hx0
  cases o1 : tabOk t
  · have hd : smallM t kk = [] := by simp [smallM, o1]
    have HD := Lib.hid hd; have O1 := Lib.hid o1; clear hd o1
    go_wp2_with fail
    go_ret2
    exact ⟨_, [], by rw [O1.out]; rfl, by rw [HD.out]; exact own0, E1⟩
  have O1 := Lib.hid o1; clear o1
  obtain ⟨r, h1, h4, m1, m4, _⟩ := tabOk_rect O1.out
  have hll : ∀ k (h : k < t.length), t[k].length ≤ 4 := fun k h => by rw [r.2 k h]; exact m4
  have HL := Lib.hid hll; clear hll r h1 m1 m4
  go_wp2_with fail
  go_loopg [6, 7] t.length (fun g v i wr => ∃ (k : Nat) (vs : List Value), k ≤ t.length ∧ g = t.length - k ∧ i = .int .i64 k ∧ OwnB wr w.heap.size v vs (smallT (t.take k) kk) ∧ Ext w wr)
  case atStart => exact ⟨0, [], Nat.zero_le _, rfl, rfl, own0, E1⟩
  case round =>
    clear own0 E1
    obtain ⟨k, vs, hk, rfl, rfl, own, hext⟩ := hrel
    by_cases hlt : k < t.length
    · have hz : (k : Int) < (t.length : Int) := by omega
      have hsz := hext.size
      have hll := HL.out k hlt
      obtain ⟨av, cv, hv, _, _⟩ := own.rows
      rw [smallT_len, List.length_take, Nat.min_eq_left hk] at hv
      subst hv
      have bld0 := Bld.start own hsz
      have xa := (Ext.refl wr).alloc (.cells #[] 4)
      have hat : ∀ k', (Value.slice av k cv).ownBlock = some k' → w.heap.size ≤ k' := fun k' hk' => (own.outer_lt hk').1
      have HA := Lib.hid hat
      have hN : (smallT (t.take k) kk).length ≤ 1000 := by rw [smallT_len]; simp; omega
      clear own hat
      go_wp2_with fail
      go_loopg [8, 9] t[k].length (fun g v' i wi => ∃ (j : Nat), j ≤ t[k].length ∧ g = t[k].length - j ∧ i = .int .i64 j ∧ BldB wi w.heap.size (.slice av k cv) vs (smallT (t.take k) kk) v' ((t[k].take j).map (smallB kk)) ∧ Ext w wi)
      case atStart => exact ⟨0, Nat.zero_le _, rfl, rfl, bld0, hext.trans xa⟩
      case round =>
        clear bld0 hext xa hsz
        obtain ⟨j, hj, rfl, rfl, bld, hext⟩ := hrel
        obtain ⟨tb, off, ak, ck, rfl, hck, _, _, hrow⟩ := (HT.out.ext hext) k hlt
        have hsz := hext.size
        by_cases hjt : j < t[k].length
        · have hjz : (j : Int) < (t[k].length : Int) := by omega
          obtain ⟨b2, off2, rfl, hc2⟩ := hrow j hjt
          clear hrow
          have hmp := map_take1 (smallB kk) hjt
          obtain ⟨z, hz2⟩ : ∃ z, t[k][j] = z := ⟨_, rfl⟩
          rw [hz2] at hc2 hmp
          unfold encI at hc2
          have bld1 := bld.ext ((Ext.refl wr).alloc (.cells #[.bool (smallB kk z)] 4))
          have hone : BRow (wr.alloc (.cells #[.bool (smallB kk z)] 4)) (some ⟨wr.heap.size, 0, none⟩) [smallB kk z] := one_row wr (smallB kk z)
          have hb : ((t[k].take j).map (smallB kk)).length + [smallB kk z].length ≤ 10000000 := by simp; omega
          have hB : w.heap.size ≤ (wr.alloc (.cells #[.bool (smallB kk z)] 4)).heap.size := by simp; omega
          have B1 := Lib.hid bld1; have HO := Lib.hid hone; have HMP := Lib.hid hmp
          clear bld1 hone bld hmp hz2
          rcases smallB_cases kk z with ⟨p1, p2, hb'⟩ | ⟨p1, p2, hb'⟩ | ⟨p1, hb'⟩
          all_goals
            rw [hb'] at B1 HO hB hb HMP
            clear hb'
            try (have p1b : decide (0 < z) = false := by simpa using p1)
            try (have p2b : decide (z < kk) = false := by simpa using p2)
            go_wp2_with (at_builtin; refine wpList_rowB rfl (.tmp 31) (.tmp 51) rfl w.heap.size _ ((t[k].take j).map (smallB kk)) rfl B1.out.row _ _ [_] rfl (fun h => by cases h) HO.out hb hB ?_; intro v2 w2 hu hg _ hat)
            have bld2 := B1.out.more hg hu hat
            have e2 : Ext w w2 := (hext.alloc (.cells #[.bool _] 4)).grownNew hg (fun k' hk' => (B1.out.lt hk').1)
            rw [← HMP.out] at bld2
            clear hu hg hat B1 HO
            go_wp2_with fail
            go_roundg (t[k].length - (j + 1))
            case measure => omega
            case rel => exact ⟨j + 1, by omega, rfl, by go_num, bld2, e2⟩
        · have hjz : ¬ (j : Int) < (t[k].length : Int) := by omega
          have hjm : (t[k].take j) = t[k] := List.take_of_length_le (by omega)
          rw [hjm] at bld
          obtain ⟨ar, cr, hvr, _⟩ := owns_cells bld.row
          rw [List.length_map] at hvr
          subst hvr
          have bld1 := bld.ext ((Ext.refl wr).alloc (.cells #[.slice ar t[k].length cr] 37))
          have hcell := one_cell wr (.slice ar t[k].length cr) 37
          have hB : w.heap.size ≤ (wr.alloc (.cells #[.slice ar t[k].length cr] 37)).heap.size := by simp; omega
          have B1 := Lib.hid bld1; have HC := Lib.hid hcell
          have hN2 : (smallT (t.take k) kk).length ≤ 10000000 := by omega
          clear bld bld1 hcell hjm hrow
          go_wp2_with (at_builtin; refine wpList_pushB rfl (.tmp 53) (.tmp 55) rfl w.heap.size _ vs (smallT (t.take k) kk) rfl B1.out.outer wr.heap.size rfl _ rfl HC.out (t[k].map (smallB kk)) B1.out.row B1.out.ne B1.out.ap hN2 hB ?_; intro v' w2 own3 hg2 _)
          have e2 : Ext w w2 := (hext.alloc (.cells #[.slice ar t[k].length cr] 37)).grownNew hg2 HA.out
          rw [← smallT_take t kk hlt] at own3
          clear hg2 B1 HC
          go_wp2_with fail
          go_roundg (t.length - (k + 1))
          case measure => omega
          case rel => exact ⟨k + 1, _, by omega, rfl, by go_num, own3, e2⟩
    · have hz : ¬ (k : Int) < (t.length : Int) := by omega
      have hkm : t.take k = t := List.take_of_length_le (by omega)
      rw [hkm] at own
      have HO := Lib.hid own; clear own hkm
      go_wp2_with fail
      go_ret2
      exact ⟨_, vs, by rw [O1.out]; rfl, by unfold smallM; rw [O1.out]; exact HO.out, hext⟩
def stS (t : List (List Int)) (kk : Int) (k : Nat) (zs : List Bool) : List (List Bool) := (smallT t kk).take k ++ zs :: List.replicate (t.length - (k + 1)) []
theorem stS_len {t : List (List Int)} {kk : Int} {k : Nat} {zs : List Bool} (h : k < t.length) : (stS t kk k zs).length = t.length := by
  simp [stS, smallT_len]; omega
theorem stS_at {t : List (List Int)} {kk : Int} {k : Nat} {zs : List Bool} (h : k < t.length) (h' : k < (stS t kk k zs).length) : (stS t kk k zs)[k] = zs := by
  have hl : ((smallT t kk).take k).length = k := by simp [smallT_len]; omega
  simp [stS, hl]
theorem stS_set {t : List (List Int)} {kk : Int} {k : Nat} {zs zs' : List Bool} (h : k < t.length) : (stS t kk k zs).set k zs' = stS t kk k zs' := by
  have hl : ((smallT t kk).take k).length = k := by simp [smallT_len]; omega
  unfold stS
  rw [List.set_append_right _ _ (by omega), hl, Nat.sub_self]; rfl
theorem stS_zero {t : List (List Int)} {kk : Int} {k : Nat} (h : k < t.length) : (smallT t kk).take k ++ List.replicate (t.length - k) [] = stS t kk k [] := by
  unfold stS
  rw [show t.length - k = (t.length - (k + 1)) + 1 by omega, List.replicate_succ]
theorem stS_full {t : List (List Int)} {kk : Int} {k : Nat} (h : k < t.length) : stS t kk k (t[k].map (smallB kk)) = (smallT t kk).take (k + 1) ++ List.replicate (t.length - (k + 1)) [] := by
  unfold stS
  rw [List.take_succ_eq_append_getElem (by rw [smallT_len]; exact h), List.append_assoc]
  simp [smallT]
set_option maxHeartbeats 4000000 in
theorem MaskSmall_any (a : Option Addr) (c : Nat) (t : List (List Int)) (kk : Int) (w : World) (ht : IRows w a t) (hm : t.length ≤ 9223372036854775807) :
    Calls Try.prog 37 #[.slice a t.length c, .int .i64 kk] w (SmallOut t kk w) := by
  have HT := Lib.hid ht; clear ht
  go_enter Try.func37, Try.ntmps37
  go_wp2_with fail
  refine (TableValid_any _ _ t _ HT.out hm).mono ?_
  rintro e w' ⟨rfl, rfl⟩
  cases o1 : tabOk t
  · have hd : smallM t kk = [] := by simp [smallM, o1]
    have HD := Lib.hid hd; have O1 := Lib.hid o1; clear hd o1
    go_wp2_with fail
    go_ret2
    exact ⟨_, [], by rw [O1.out]; rfl, by rw [HD.out]; exact ownB_nil _ _, Ext.refl _⟩
  have O1 := Lib.hid o1; clear o1
  obtain ⟨r, h1, h4, m1, m4, _⟩ := tabOk_rect O1.out
  have hll : ∀ k (h : k < t.length), t[k].length ≤ 4 := fun k h => by rw [r.2 k h]; exact m4
  have HL := Lib.hid hll; clear hll r h1 m1 m4
  have hmk := run_make_row' (P := Try.prog) 32 37 (.slice none 0 0) 24 Try.underlying32 Try.dcRowB rfl .i64 .i64 t.length (by omega) (by omega)
  go_wp2_with fail
  clear hmk
  go_loopg [19] t.length (fun g i wr => ∃ (k : Nat) (vs : List Value), k ≤ t.length ∧ g = t.length - k ∧ i = .int .i64 k ∧ OwnB wr w.heap.size (.slice (some ⟨w.heap.size, 0, none⟩) t.length t.length) vs ((smallT t kk).take k ++ List.replicate (t.length - k) []) ∧ Ext w wr)
  case atStart => exact ⟨0, _, Nat.zero_le _, rfl, rfl, by simpa using OwnT.made (enc := encB) (te := 4) (ts := 37) w t.length (Nat.le_refl _) (by omega), (Ext.refl _).alloc _⟩
  case round =>
    obtain ⟨k, vs, hk, rfl, rfl, own, hext⟩ := hrel
    by_cases hlt : k < t.length
    · have hz : (k : Int) < (t.length : Int) := by omega
      have hll := HL.out k hlt
      obtain ⟨tb, off, ak, ck, rfl, hck0, _, _, hrow0⟩ := HT.out k hlt
      have hck := hext.cell hck0
      have HR := Lib.hid hrow0
      rw [stS_zero hlt] at own
      clear hrow0 hck0
      go_wp2_with fail
      go_loopg [26] t[k].length (fun g i wi => ∃ (j : Nat) (vs : List Value), j ≤ t[k].length ∧ g = t[k].length - j ∧ i = .int .i64 j ∧ OwnB wi w.heap.size (.slice (some ⟨w.heap.size, 0, none⟩) t.length t.length) vs (stS t kk k ((t[k].take j).map (smallB kk))) ∧ Ext w wi)
      case atStart => exact ⟨0, vs, Nat.zero_le _, rfl, rfl, own, hext⟩
      case round =>
        clear own hck hext vs
        obtain ⟨j, vs, hj, rfl, rfl, own, hext⟩ := hrel
        have hsz := hext.size
        by_cases hjt : j < t[k].length
        · have hjz : (j : Int) < (t[k].length : Int) := by omega
          obtain ⟨b2, off2, rfl, hc2⟩ := (HR.out.ext hext) j hjt
          have hmp := map_take1 (smallB kk) hjt
          obtain ⟨z, hz2⟩ : ∃ z, t[k][j] = z := ⟨_, rfl⟩
          rw [hz2] at hc2 hmp
          unfold encI at hc2
          have hln : k < (stS t kk k ((t[k].take j).map (smallB kk))).length := by rw [stS_len hlt]; exact hlt
          have hlv : k < vs.length := by rw [own.len]; exact hln
          have hxa := (Ext.refl wr).alloc (.cells #[.bool (smallB kk z)] 4)
          have own1 := own.ext hxa
          obtain ⟨x, hcx, hvx, hfx⟩ := own1.cellAt hln
          have evx : vs[k] = x := by rw [List.getElem?_eq_getElem hlv] at hvx; exact Option.some.inj hvx
          have hin := own1.inner k hln hlv
          rw [evx] at hin
          rw [stS_at hlt] at hin
          have haw : ∀ b, x.ownBlock = some b → b ≠ w.heap.size := fun b hb e => own1.away k hlv w.heap.size rfl (by rw [evx, hb, e])
          have hone : BRow (wr.alloc (.cells #[.bool (smallB kk z)] 4)) (some ⟨wr.heap.size, 0, none⟩) [smallB kk z] := one_row wr (smallB kk z)
          have hb : ((t[k].take j).map (smallB kk)).length + [smallB kk z].length ≤ 10000000 := by simp; omega
          have hB : w.heap.size ≤ (wr.alloc (.cells #[.bool (smallB kk z)] 4)).heap.size := by simp; omega
          obtain ⟨ax, cx, hxv, _⟩ := owns_cells hin
          rw [List.length_map, List.length_take, Nat.min_eq_left hj] at hxv
          subst hxv
          have hkt : (k : Int) < (t.length : Int) := hz
          have hwsz : w.heap.size < wr.heap.size := (own.outer_lt rfl).2
          have hc0 : wr.cell? ⟨w.heap.size, k, none⟩ = some (.slice ax j cx) := by
            obtain ⟨x', hcx', hvx', _⟩ := own.cellAt hln
            rw [hvx] at hvx'
            cases hvx'
            exact hcx'
          have OW := Lib.hid own1; have HI := Lib.hid hin; have HO := Lib.hid hone; have HMP := Lib.hid hmp; have HAW := Lib.hid haw; have EV := Lib.hid evx; have HCX := Lib.hid hcx; have HFX := Lib.hid hfx
          have hl2 : ∀ b : Bool, ((t[k].take j).map (smallB kk) ++ [b]).length = j + 1 := fun b => by simp; omega
          have HL2 := Lib.hid hl2
          clear own own1 hin hone hmp hz2 haw hl2 evx hvx hcx hfx hxa
          rcases smallB_cases kk z with ⟨p1, p2, hb'⟩ | ⟨p1, p2, hb'⟩ | ⟨p1, hb'⟩
          all_goals
            rw [hb'] at OW HI HO HMP hB hb HCX HFX
            clear hb'
            try (have p1b : decide (0 < z) = false := by simpa using p1)
            try (have p2b : decide (z < kk) = false := by simpa using p2)
            go_wp2_with (at_builtin; refine wpList_rowB rfl (.tmp 35) (.tmp 43) rfl w.heap.size _ ((t[k].take j).map (smallB kk)) rfl HI.out _ _ [_] rfl (fun h => by cases h) HO.out hb hB ?_; intro v2 w2 hu hg _ hat; have hc9 : w2.cell? ⟨w.heap.size, k, none⟩ = some (.slice ax j cx) := (hg.cell HCX.out (fun e => HAW.out _ e.symm rfl)); have hf9 : w2.frozen? ⟨w.heap.size, k, none⟩ = false := (by rw [World.frozen?_of_block (hg.block w.heap.size (World.block_lt_of_cell? _ _ HCX.out) (fun e => HAW.out _ e.symm rfl))]; exact HFX.out); obtain ⟨au, cu, hv2, _⟩ := owns_cells hu; rw [HL2.out] at hv2; subst hv2; have HU := Lib.hid hu; have HG := Lib.hid hg; have HAT := Lib.hid hat; clear hu hg hat)
            have hre := OW.out.regrow (k := k) hln hlv (by rw [EV.out]; exact HG.out) HU.out (by rw [EV.out]; exact HAT.out.imp_right fun e => ⟨_, e, Nat.le_refl _⟩)
            rw [stS_set hlt, ← HMP.out] at hre
            have HRE := Lib.hid hre
            have e2 : Ext w w2 := (hext.alloc (.cells #[.bool _] 4)).grownNew HG.out (fun k' hk' => (HI.out.lt k' hk').1)
            clear hre HU HG HAT
            go_wp2_with fail
            go_roundg (t[k].length - (j + 1))
            case measure => omega
            case rel => exact ⟨j + 1, _, by omega, rfl, by go_num, HRE.out, e2.setCell (p := ⟨w.heap.size, k, none⟩) (Nat.le_refl _) _⟩
        · have hjz : ¬ (j : Int) < (t[k].length : Int) := by omega
          have hjm : (t[k].take j) = t[k] := List.take_of_length_le (by omega)
          rw [hjm, stS_full hlt] at own
          clear hjm
          go_wp2_with fail
          go_roundg (t.length - (k + 1))
          case measure => omega
          case rel => exact ⟨k + 1, _, by omega, rfl, by go_num, own, hext⟩
    · have hz : ¬ (k : Int) < (t.length : Int) := by omega
      have hkm : (smallT t kk).take k = smallT t kk := List.take_of_length_le (by rw [smallT_len]; omega)
      rw [hkm, show t.length - k = 0 by omega] at own
      have HO := Lib.hid own; clear own hkm
      go_wp2_with fail
      go_ret2
      exact ⟨_, vs, by rw [O1.out]; rfl, by unfold smallM; rw [O1.out]; simpa using HO.out, hext⟩
end Go.Proofs.Ytfompehpoanhaaa
